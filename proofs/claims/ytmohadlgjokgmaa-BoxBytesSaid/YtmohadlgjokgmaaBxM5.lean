/- Part of a proof; no condition. -/
import Derived.Test.YtmohadlgjokgmaaBxM4
set_option linter.unusedSimpArgs false
set_option linter.unusedVariables false
namespace Go.Ab.S
open Go Go.Ab Go.Proofs
attribute [local irreducible] SemS
set_option maxRecDepth 100000
theorem Msg.map_idem {M : Nat → Nat} (hf : fineB M = true) (m : Msg) : (m.map M).map M = m.map M := by
  unfold Msg.map
  dsimp only
  rw [setN_idem hf, setN_idem hf, setN_idem hf]
theorem pair_eq (a b : Msg) : decide ([a, b] = [b, a]) = decide (a = b) := by
  refine decide_eq_decide.2 ⟨fun h => ?_, fun h => by subst h; rfl⟩
  simp only [List.cons.injEq] at h
  exact h.1
/-! ### Read as it was written -/
theorem bytes_rest (m : Msg) (rest : List UInt8) : m.bytes ++ rest = numB m.no.toNat 4 ++ (numB m.ep.toNat 1 ++ (numB m.s 2 ++ (numB m.i 2 ++ (numB m.role.toNat 1 ++ (numB m.used 2 ++ (textB m.data ++ rest)))))) := by
  unfold Msg.bytes
  simp only [List.append_assoc]
theorem Msg.rd_back (keep : Bool) (m : Msg) (hm' : m.Ok) (hf : m.fine = true) (rest : List UInt8) : Msg.rd keep ⟨0, m.bytes ++ rest⟩ = (m, ⟨0, rest⟩) := by
  rw [bytes_rest]
  obtain ⟨no, ep, s, i', role, used, data⟩ := m
  obtain ⟨q1, q2, q3, q4, q5, q6, q7⟩ := Msg.fine_iff.1 hf
  obtain ⟨p1, p2, p3, p4, p5, p6⟩ := hm'
  dsimp only at q1 q2 q3 q4 q5 q6 q7 p1 p2 p3 p4 p5 p6 ⊢
  obtain ⟨no, rfl⟩ := Int.eq_ofNat_of_zero_le q1
  obtain ⟨ep, rfl⟩ := Int.eq_ofNat_of_zero_le q3
  obtain ⟨role, rfl⟩ := Int.eq_ofNat_of_zero_le q5
  simp only [Int.toNat_natCast]
  unfold Msg.rd
  dsimp only
  obtain ⟨a1, b1⟩ := num_back keep no 4 2147483647 (numB ep 1 ++ (numB s 2 ++ (numB i' 2 ++ (numB role 1 ++ (numB used 2 ++ (textB data ++ rest)))))) (by omega) (by omega) (by omega)
  have a1 : St.num keep ⟨0, _⟩ (4 : Int) 2147483647 = _ := a1
  have b1 : St.nv ⟨0, _⟩ (4 : Int) 2147483647 = _ := b1
  rw [a1, b1]
  obtain ⟨a2, b2⟩ := num_back keep ep 1 255 (numB s 2 ++ (numB i' 2 ++ (numB role 1 ++ (numB used 2 ++ (textB data ++ rest))))) (by omega) (by omega) (by omega)
  have a2 : St.num keep ⟨0, _⟩ (1 : Int) 255 = _ := a2
  have b2 : St.nv ⟨0, _⟩ (1 : Int) 255 = _ := b2
  rw [a2, b2]
  obtain ⟨a3, b3⟩ := num_back keep s 2 65535 (numB i' 2 ++ (numB role 1 ++ (numB used 2 ++ (textB data ++ rest)))) (by omega) (by omega) (by omega)
  have a3 : St.num keep ⟨0, _⟩ (2 : Int) 65535 = _ := a3
  have b3 : St.nv ⟨0, _⟩ (2 : Int) 65535 = _ := b3
  rw [a3, b3]
  obtain ⟨a4, b4⟩ := num_back keep i' 2 65535 (numB role 1 ++ (numB used 2 ++ (textB data ++ rest))) (by omega) (by omega) (by omega)
  have a4 : St.num keep ⟨0, _⟩ (2 : Int) 65535 = _ := a4
  have b4 : St.nv ⟨0, _⟩ (2 : Int) 65535 = _ := b4
  rw [a4, b4]
  obtain ⟨a5, b5⟩ := num_back keep role 1 15 (numB used 2 ++ (textB data ++ rest)) (by omega) (by omega) (by omega)
  have a5 : St.num keep ⟨0, _⟩ (1 : Int) 15 = _ := a5
  have b5 : St.nv ⟨0, _⟩ (1 : Int) 15 = _ := b5
  rw [a5, b5]
  obtain ⟨a6, b6⟩ := num_back keep used 2 65535 (textB data ++ rest) (by omega) (by omega) (by omega)
  have a6 : St.num keep ⟨0, _⟩ (2 : Int) 65535 = _ := a6
  have b6 : St.nv ⟨0, _⟩ (2 : Int) 65535 = _ := b6
  rw [a6, b6]
  obtain ⟨a7, b7⟩ := txt_back keep data rest 32 (by omega) (by omega)
  rw [a7, b7]
  rfl
theorem Msg.rds_back (keep : Bool) : ∀ (l : List Msg) (rest : List UInt8), (∀ m ∈ l, m.Ok ∧ m.fine = true) → Msg.rds keep l.length ⟨0, l.flatMap Msg.bytes ++ rest⟩ = (l, ⟨0, rest⟩)
  | [], rest, _ => rfl
  | m :: l, rest, h => by
    obtain ⟨h1, h2⟩ := h m List.mem_cons_self
    have ih := Msg.rds_back keep l rest fun q hq => h q (List.mem_cons_of_mem _ hq)
    have hb := Msg.rd_back keep m h1 h2 (l.flatMap Msg.bytes ++ rest)
    rw [List.flatMap_cons, List.append_assoc, List.length_cons]
    simp only [Msg.rds, hb, ih, ne_eq, not_true, if_false]
theorem Msg.rdL_back (keep : Bool) (l : List Msg) (rest : List UInt8) (hl : l.length ≤ 255) (h : ∀ m ∈ l, m.Ok ∧ m.fine = true) : Msg.rdL keep ⟨0, msgsB l ++ rest⟩ = (l, ⟨0, rest⟩) := by
  unfold Msg.rdL msgsB
  dsimp only
  rw [List.append_assoc]
  obtain ⟨a1, b1⟩ := num_back keep l.length 1 255 (l.flatMap Msg.bytes ++ rest) (by omega) (by omega) (by omega)
  have a1 : St.num keep ⟨0, _⟩ (1 : Int) 255 = _ := a1
  have b1 : St.nv ⟨0, _⟩ (1 : Int) 255 = _ := b1
  rw [a1, b1, Int.toNat_natCast, Msg.rds_back keep l rest h]
  rfl
/-! ### The program's and the document's read alike -/
theorem Msg.rd_same {s s' : St} (h : SameS s s') : (Msg.rd true s).1 = (Msg.rd false s').1 ∧ SameS (Msg.rd true s).2 (Msg.rd false s').2 := by
  unfold Msg.rd
  dsimp only
  have h1 := h.num 4 2147483647
  have h2 := h1.num 1 255
  have h3 := h2.num 2 65535
  have h4 := h3.num 2 65535
  have h5 := h4.num 1 15
  have h6 := h5.num 2 65535
  have h7 := h6.txt 32
  refine ⟨?_, h7⟩
  rw [h.nv 4 2147483647, h1.nv 1 255, h2.nv 2 65535, h3.nv 2 65535, h4.nv 1 15, h5.nv 2 65535, h6.tv 32]
theorem Msg.rds_same : ∀ (n : Nat) {s s' : St}, SameS s s' → (Msg.rds true n s).1 = (Msg.rds false n s').1 ∧ SameS (Msg.rds true n s).2 (Msg.rds false n s').2
  | 0, s, s', h => ⟨rfl, h⟩
  | n + 1, s, s', h => by
    obtain ⟨h1, h2⟩ := Msg.rd_same h
    simp only [Msg.rds]
    rw [← h2.e]
    split
    · exact ⟨rfl, h2⟩
    · obtain ⟨h3, h4⟩ := Msg.rds_same n h2
      exact ⟨by rw [h1, h3], h4⟩
theorem Msg.rdL_same {s s' : St} (h : SameS s s') : (Msg.rdL true s).1 = (Msg.rdL false s').1 ∧ SameS (Msg.rdL true s).2 (Msg.rdL false s').2 := by
  unfold Msg.rdL
  dsimp only
  rw [← h.nv 1 255]
  obtain ⟨h1, h2⟩ := Msg.rds_same (s.nv 1 255).toNat (h.num 1 255)
  refine ⟨?_, h2⟩
  rw [← h2.e, h1]
theorem Msg.rds_suf {B : List UInt8} {keep : Bool} : ∀ (n : Nat) {s : St}, Suf B s.b → Suf B (Msg.rds keep n s).2.b
  | 0, s, h => h
  | n + 1, s, h => by
    have h1 := Msg.rd_suf h keep
    simp only [Msg.rds]
    split
    · exact h1
    · exact Msg.rds_suf n h1
theorem Msg.rdL_suf {B : List UInt8} {keep : Bool} {s : St} (h : Suf B s.b) : Suf B (Msg.rdL keep s).2.b := Msg.rds_suf _ (h.num keep 1 255)
theorem Msg.rds_len (keep : Bool) : ∀ (n : Nat) (s : St), (Msg.rds keep n s).1.length ≤ n
  | 0, s => Nat.le_refl 0
  | n + 1, s => by
    simp only [Msg.rds]
    split
    · exact Nat.zero_le _
    · have := Msg.rds_len keep n (Msg.rd keep s).2
      simp only [List.length_cons]
      omega
theorem Msg.rdL_len (keep : Bool) (s : St) : (Msg.rdL keep s).1.length ≤ 255 := by
  unfold Msg.rdL
  dsimp only
  have := nv_range (s := s) (size := 1) (most := 255) (by omega)
  have h := Msg.rds_len keep (s.nv 1 255).toNat (s.num keep 1 255)
  split
  · simp
  · omega
end Go.Ab.S
