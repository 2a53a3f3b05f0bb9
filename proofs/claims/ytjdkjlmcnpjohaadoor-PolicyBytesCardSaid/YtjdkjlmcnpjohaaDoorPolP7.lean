/- Part of a proof; no condition. -/
import Derived.Test.YtjdkjlmcnpjohaaDoorPolP6
set_option linter.unusedSimpArgs false
set_option linter.unusedVariables false
namespace Go.Ab.S
open Go Go.Ab Go.Proofs
attribute [local irreducible] SemS
set_option maxRecDepth 100000
/-! ### Which roles are seen -/
def orIf (f : Nat → Bool) (l : List Nat) : Nat := l.foldl (fun o r => if f r then o ||| 2 ^ r else o) 0
theorem orIf_app (f : Nat → Bool) (l : List Nat) (r : Nat) : orIf f (l ++ [r]) = if f r then orIf f l ||| 2 ^ r else orIf f l := by
  unfold orIf; rw [List.foldl_append]; rfl
theorem orIf_bit0 (f : Nat → Bool) (j : Nat) : ∀ (l : List Nat) (o : Nat), (l.foldl (fun o r => if f r then o ||| 2 ^ r else o) o).testBit j = (o.testBit j || (decide (j ∈ l) && f j))
  | [], o => by simp
  | r :: l, o => by
    rw [List.foldl_cons, orIf_bit0 f j l]
    by_cases e : j = r
    · subst e
      by_cases hf : f j = true
      · rw [if_pos hf, Nat.testBit_or, Nat.testBit_two_pow]; simp [hf]
      · rw [if_neg hf]; simp [hf]
    · have hm : decide (j ∈ r :: l) = decide (j ∈ l) := decide_eq_decide.2 (by simp [e])
      rw [hm]
      split
      · rw [Nat.testBit_or, Nat.testBit_two_pow, decide_eq_false (fun h => e h.symm), Bool.or_false]
      · rfl
theorem orIf_bit (f : Nat → Bool) (l : List Nat) (j : Nat) : (orIf f l).testBit j = (decide (j ∈ l) && f j) := by
  unfold orIf; rw [orIf_bit0]; simp
theorem orIf_lt (f : Nat → Bool) {l : List Nat} (h : ∀ q ∈ l, q < 16) : orIf f l < 65536 := lt_of_bits fun j hj => by
  rw [orIf_bit] at hj
  simp only [Bool.and_eq_true, decide_eq_true_eq] at hj
  exact h j hj.1
def seenN (p : Pol) (s i : Nat) : Nat := setOf (fun r => p.live.testBit r && flowsB (p.ls r) (p.li r) s i) 16
theorem seenN_lt {p : Pol} {s i : Nat} : seenN p s i < 65536 := setOf_lt _ (Nat.le_refl 16)
theorem seen_orIf (p : Pol) (s i : Nat) : orIf (fun r => flowsB (p.ls r) (p.li r) s i) (bitsN p.live) = seenN p s i := by
  refine set_ext (orIf_lt _ fun q hq => (mem_bitsN.1 hq).1) seenN_lt fun j hj => ?_
  rw [orIf_bit, seenN, setOf_bit' _ hj]
  congr 1
  cases h : p.live.testBit j with
  | true => exact decide_eq_true (mem_bitsN.2 ⟨hj, h⟩)
  | false => exact decide_eq_false fun hh => by rw [(mem_bitsN.1 hh).2] at h; cases h
theorem policy_Seen_ok (p : Pol) (hp : p.Ok) (s i : Nat) (hs : s < 65536) (hi : i < 65536) : EvP PR G f_policy_Seen [p.v, lab s i] (uv (seenN p s i)) := by
  have e3 := Each0_ok p.live
  refine EvP.of_wpf false hm c_policy_Seen rfl ?_
  refine wpf_seq1 ?_
  conv => whnf
  repeat' ((first | refine brP_t (by assumption) ?_ | refine brP_f (by assumption) ?_ | refine brP_t (decide_eq_true (by omega)) ?_ | refine brP_f (decide_eq_false (by omega)) ?_ | refine brP_t (nd_t (by omega)) ?_ | refine brP_f (nd_f (by omega)) ?_ | refine callK_r (EvR.fr [] e3 rfl rfl trivial rfl) ?_ | refine callM_l (LEv.fr [] e3 rfl rfl trivial rfl rfl) ?_ | refine callK_rt (EvR.fr [] e3 rfl rfl trivial rfl) ?_ | refine callK_rf rfl (EvR.fr [] e3 rfl rfl trivial rfl) ?_ | refine callK_rft rfl (EvR.fr [] e3 rfl rfl trivial rfl) ?_ | refine wpfS_seq1 ?_ | refine wpfS_go ?_ | fail) <;> conv => whnf)
  have hpre : ∀ {pre : List Int} {x : Int}, pre ++ [x] <+: bitsL p.live → (∀ q ∈ pre.map Int.toNat, q < 16) ∧ ∃ q : Nat, x = q ∧ q < 16 := by
    intro pre x h
    refine ⟨fun q hq => ?_, ?_⟩
    · obtain ⟨y, hy, rfl⟩ := List.mem_map.1 hq
      obtain ⟨z, hz, rfl⟩ := List.mem_map.1 (h.subset (show y ∈ pre ++ [x] by simp [hy]))
      exact (mem_bitsN.1 hz).1
    · obtain ⟨z, hz, rfl⟩ := List.mem_map.1 (h.subset (show x ∈ pre ++ [x] by simp))
      exact ⟨z, rfl, (mem_bitsN.1 hz).1⟩
  refine SemS.rf false hm (s := p.live) (xs := bitsL p.live) rfl each_callable rfl (fun F w r' hG hF hc => each1 p.live hp.live F w r' hG hF hc)
    (fun pre H => H = ⟨[], [.row p.row, .row [.int .u16 s, .int .u16 i], .row [.int .u16 ((orIf (fun r => flowsB (p.ls r) (p.li r) s i) (pre.map Int.toNat) : Nat) : Int)], .row [.int .u16 p.live]]⟩) (fun _ _ => False) rfl ?_ ?_ ?_
  · rintro pre x H1 hpx rfl
    obtain ⟨hp1, q, rfl, hq⟩ := hpre hpx
    have hlt := orIf_lt (fun r => flowsB (p.ls r) (p.li r) s i) hp1
    have hfold : orIf (fun r => flowsB (p.ls r) (p.li r) s i) ((pre ++ [(q : Int)]).map Int.toNat) = if flowsB (p.ls q) (p.li q) s i then orIf (fun r => flowsB (p.ls r) (p.li r) s i) (pre.map Int.toNat) ||| 2 ^ q else orIf (fun r => flowsB (p.ls r) (p.li r) s i) (pre.map Int.toNat) := by
      rw [List.map_append]; exact orIf_app _ _ _
    rw [hfold]
    generalize orIf (fun r => flowsB (p.ls r) (p.li r) s i) (pre.map Int.toNat) = o' at *
    have e1 := label_Flows_ok (p.ls q) (p.li q) s i (hp.ls q hq) (hp.li q hq) hs hi
    have g1 := pol_labL p hq
    have hpw := pow16 (t := q) (by omega)
    have hor := or16 hlt (show 2 ^ q < 65536 by omega)
    have hsh := shl16 hq
    conv => whnf
    refine ⟨rfl, ?_⟩
    cases h1 : flowsB (p.ls q) (p.li q) s i with
    | false =>
      rw [h1] at e1
      conv => whnf
      repeat' ((first | (refine gd_mk ?_ ?_; (focus (first | exact decide_eq_true (by rw [pol_len]; omega) | exact decide_eq_true (And.intro rfl (by rw [pol_len]; simp only [List.length_cons, List.length_nil]; omega)) | exact decide_eq_true (And.intro rfl (by rw [pol_len]; omega)) | exact decide_eq_true (by rw [pol_len]; simp only [List.length_cons, List.length_nil]; omega) | exact decide_eq_true (by show _ ≤ 16; omega) | exact decide_eq_true (And.intro rfl (by show _ ≤ 16; omega)) | exact decide_eq_true (And.intro rfl (by show _ ≤ 16; simp only [List.length_cons, List.length_nil]; omega)))); rw [Int.toNat_natCast, g1]) | refine brP_t (by assumption) ?_ | refine brP_f (by assumption) ?_ | refine brP_t (decide_eq_true (by omega)) ?_ | refine brP_f (decide_eq_false (by omega)) ?_ | refine brP_t (nd_t (by omega)) ?_ | refine brP_f (nd_f (by omega)) ?_ | refine callK_p e1 ?_ | refine callM_p e1 rfl ?_ | refine callK_pf rfl e1 ?_ | refine wpfS_seq1 ?_ | refine wpfS_go ?_ | fail) <;> conv => whnf)
      rfl
    | true =>
      rw [h1] at e1
      conv => whnf
      repeat' ((first | (refine gd_mk ?_ ?_; (focus (first | exact decide_eq_true (by rw [pol_len]; omega) | exact decide_eq_true (And.intro rfl (by rw [pol_len]; simp only [List.length_cons, List.length_nil]; omega)) | exact decide_eq_true (And.intro rfl (by rw [pol_len]; omega)) | exact decide_eq_true (by rw [pol_len]; simp only [List.length_cons, List.length_nil]; omega) | exact decide_eq_true (by show _ ≤ 16; omega) | exact decide_eq_true (And.intro rfl (by show _ ≤ 16; omega)) | exact decide_eq_true (And.intro rfl (by show _ ≤ 16; simp only [List.length_cons, List.length_nil]; omega)))); rw [Int.toNat_natCast, g1]) | refine brP_t (by assumption) ?_ | refine brP_f (by assumption) ?_ | refine brP_t (decide_eq_true (by omega)) ?_ | refine brP_f (decide_eq_false (by omega)) ?_ | refine brP_t (nd_t (by omega)) ?_ | refine brP_f (nd_f (by omega)) ?_ | refine callK_p e1 ?_ | refine callM_p e1 rfl ?_ | refine callK_pf rfl e1 ?_ | ((rw [hsh, hor])) | refine wpfS_seq1 ?_ | refine wpfS_go ?_ | fail) <;> conv => whnf)
      rfl
  · rintro H1 rfl
    have : (bitsL p.live).map Int.toNat = bitsN p.live := by
      unfold bitsL
      rw [List.map_map]
      conv => rhs; rw [← List.map_id (bitsN p.live)]
      rfl
    rw [this, seen_orIf]
    conv => whnf
    repeat' ((first | refine brP_t (by assumption) ?_ | refine brP_f (by assumption) ?_ | refine brP_t (decide_eq_true (by omega)) ?_ | refine brP_f (decide_eq_false (by omega)) ?_ | refine brP_t (nd_t (by omega)) ?_ | refine brP_f (nd_f (by omega)) ?_ | refine wpfS_seq1 ?_ | refine wpfS_go ?_ | fail) <;> conv => whnf)
    rfl
  · intro e H1 _ h
    exact h.elim
end Go.Ab.S
