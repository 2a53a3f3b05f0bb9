/- Both readers of an update alike. No condition. -/
import Derived.Test.YtidmpmdhgiopgaaDoorLCJ
set_option linter.unusedSimpArgs false
set_option linter.unusedVariables false
namespace Go.Ab.S
open Go Go.Ab Go.Proofs
set_option maxRecDepth 100000
theorem rd0_same {s s' : St} (h : SameS s s') : Chg.rd0 true s = Chg.rd0 false s' ∧ SameS (Chg.rd1 true s) (Chg.rd1 false s') := by
  have h1 := h.num 1 255
  have h2 := h1.num 1 255
  have h3 := h2.num 1 255
  have h4 := h3.num 2 65535
  have h5 := h4.num 2 65535
  have e0 : Chg.rd0 true s = Chg.rd0 false s' := by
    unfold Chg.rd0 St.k3
    rw [h.nv, h1.nv, h2.nv, h3.nv, h4.nv]
  refine ⟨e0, ?_⟩
  unfold Chg.rd1
  rw [e0]
  split
  · exact h5
  · exact h5.fail 3
theorem rdGo_same : ∀ (n : Nat) (o : List Chg) {s s' : St}, SameS s s' → (rdGo true n o s).1 = (rdGo false n o s').1 ∧ SameS (rdGo true n o s).2 (rdGo false n o s').2
  | 0, _, _, _, h => ⟨rfl, h⟩
  | n + 1, o, s, s', h => by
    obtain ⟨e0, h1⟩ := rd0_same h
    by_cases he : s.e = 0
    · rw [rdGo_go he, rdGo_go (h.e ▸ he), e0]
      exact rdGo_same n _ h1
    · rw [rdGo_stop he, rdGo_stop (h.e ▸ he)]
      exact ⟨rfl, h⟩
theorem rdHd_same {s s' : St} (h : SameS s s') : SameS (rdHd true s) (rdHd false s') := by
  unfold rdHd
  rw [h.nv]
  split
  · exact h.num 1 255
  · exact (h.num 1 255).fail 5
theorem rdC_same {s s' : St} (h : SameS s s') : (rdC true s).1 = (rdC false s').1 ∧ SameS (rdC true s).2 (rdC false s').2 := by
  have hh : (rdAll true s).1 = (rdAll false s').1 ∧ SameS (rdAll true s).2 (rdAll false s').2 := by
    unfold rdAll
    rw [h.nv]
    exact rdGo_same _ [] (rdHd_same h)
  unfold rdC
  dsimp only
  rw [hh.1, hh.2.e]
  exact ⟨rfl, hh.2⟩
theorem rdGo_suf {B : List UInt8} {keep : Bool} : ∀ (n : Nat) (o : List Chg) {s : St}, Suf B s.b → Suf B (rdGo keep n o s).2.b
  | 0, _, _, h => h
  | n + 1, o, s, h => by
    by_cases he : s.e = 0
    · rw [rdGo_go he]
      exact rdGo_suf n _ (rd0_suf h)
    · rw [rdGo_stop he]
      exact h
theorem rdC_suf {B : List UInt8} {keep : Bool} {s : St} (h : Suf B s.b) : Suf B (rdC keep s).2.b := rdGo_suf _ _ (rdHd_suf h)
theorem rdGo_len {keep : Bool} : ∀ (n : Nat) (o : List Chg) {s : St}, (rdGo keep n o s).1.length ≤ o.length + n
  | 0, o, _ => Nat.le_refl _
  | n + 1, o, s => by
    by_cases he : s.e = 0
    · rw [rdGo_go he]
      have := rdGo_len n (o ++ [Chg.rd0 keep s]) (s := Chg.rd1 keep s) (keep := keep)
      rw [List.length_append, List.length_singleton] at this
      omega
    · rw [rdGo_stop he]
      exact Nat.le_add_right _ _
theorem rdC_len {keep : Bool} {s : St} : (rdC keep s).1.length ≤ 255 := by
  have h := rdGo_len (keep := keep) (s.nv 1 255).toNat [] (s := rdHd keep s)
  have hn := nv_range (s := s) (size := 1) (most := 255) (by omega)
  unfold rdC
  dsimp only
  split
  · have h : (rdAll keep s).1.length ≤ [].length + (s.nv 1 255).toNat := h
    rw [List.length_nil] at h
    omega
  · exact Nat.zero_le _
theorem chgs_of : ∀ {es : List (List PV)}, (∀ r ∈ es, r.length = 5 ∧ wt shChg r) → ∃ l : List Chg, es = chgs l ∧ ∀ c ∈ l, c.s < 65536 ∧ c.i < 65536
  | [], _ => ⟨[], rfl, by simp⟩
  | r :: es, h => by
    obtain ⟨l, rfl, hl⟩ := chgs_of fun q hq => h q (List.mem_cons_of_mem _ hq)
    obtain ⟨m, rfl, hm⟩ := chg_of (h r List.mem_cons_self).2
    refine ⟨m :: l, rfl, fun q hq => ?_⟩
    rcases List.mem_cons.1 hq with rfl | hq
    · exact hm
    · exact hl q hq
end Go.Ab.S
