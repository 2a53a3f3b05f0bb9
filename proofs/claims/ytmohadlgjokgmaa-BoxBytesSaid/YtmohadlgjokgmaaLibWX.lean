/- Part of a proof; no condition. -/
import Derived.Test.YtmohadlgjokgmaaLibW9
set_option linter.unusedSimpArgs false
set_option linter.unusedVariables false
namespace Go.Ab.S
open Go Go.Ab Go.Proofs
attribute [local irreducible] SemS
set_option maxRecDepth 100000
/-- The document's reader, by all bytes and those that are left. -/
def rrX (B : List UInt8) (e : Int) (b : List UInt8) : List Blk := [.row [.sl (bytesOf B), .int .i64 ((B.length - b.length : Nat) : Int), .int .i64 e]]
def Suf (B b : List UInt8) : Prop := ∃ p, p ++ b = B
theorem Suf.refl (B : List UInt8) : Suf B B := ⟨[], rfl⟩
theorem Suf.drop {B b : List UInt8} (h : Suf B b) (n : Nat) : Suf B (b.drop n) := by
  obtain ⟨p, rfl⟩ := h
  exact ⟨p ++ b.take n, by rw [List.append_assoc, List.take_append_drop]⟩
theorem Suf.nil {B b : List UInt8} (h : Suf B b) : Suf B [] := by
  have := h.drop b.length
  rwa [List.drop_length] at this
theorem rrX_eq (e : Int) (p b : List UInt8) : rrX (p ++ b) e b = rrB e p b := by
  unfold rrX rrB
  rw [List.length_append, Nat.add_sub_cancel]
theorem numL_sufx {B b : List UInt8} (h : Suf B b) (keep : Bool) (e size : Int) : Suf B (numL keep e b size) := by
  unfold numL
  split
  · exact h
  · split
    · exact h
    · split
      · split
        · exact h
        · exact h.nil
      · exact h.drop _
theorem txtL_sufx {B b : List UInt8} (h : Suf B b) (keep : Bool) (e most : Int) : Suf B (txtL keep e b most) := by
  unfold txtL
  split
  · exact h
  · cases b with
    | nil => exact h
    | cons c r =>
      have hr : Suf B r := h.drop 1
      show Suf B (if most < c.toNat then r else if r.length < c.toNat then (if keep then r else []) else r.drop c.toNat)
      split
      · exact hr
      · split
        · split
          · exact hr
          · exact hr.nil
        · exact hr.drop _
theorem suf_take {b b' : List UInt8} (h : Suf b b') : b.take (b.length - b'.length) ++ b' = b := by
  obtain ⟨p, rfl⟩ := h
  rw [List.length_append, Nat.add_sub_cancel, List.take_left]
theorem rx_Num_ok {B b : List UInt8} (h : Suf B b) (hl : B.length < 2 ^ 62) (e size most : Int) : EvR PR G f_R05_R_Num [.c (.ptr (.par 0) 0), iv size, iv most] ⟨rrX B e b, []⟩ (iv (numV e b size most)) ⟨rrX B (numE e b size most) (numL false e b size), []⟩ := by
  obtain ⟨p, rfl⟩ := h
  have h1 := rr_Num_ok e p b hl size most
  have h2 := suf_take (numL_sufx (Suf.refl b) false e size)
  have h3 : p ++ b = (p ++ b.take (b.length - (numL false e b size).length)) ++ numL false e b size := by rw [List.append_assoc, h2]
  rw [← rrX_eq, ← rrX_eq, ← h3] at h1
  exact h1
theorem rx_Text_ok {B b : List UInt8} (h : Suf B b) (hl : B.length < 2 ^ 40) (e most : Int) : EvR PR G f_R05_R_Text [.c (.ptr (.par 0) 0), iv most] ⟨rrX B e b, []⟩ (.c (.p (.str (txtV e b most)))) ⟨rrX B (txtE e b most) (txtL false e b most), []⟩ := by
  obtain ⟨p, rfl⟩ := h
  have h1 := rr_Text_ok e p b hl most
  have h2 := suf_take (txtL_sufx (Suf.refl b) false e most)
  have h3 : p ++ b = (p ++ b.take (b.length - (txtL false e b most).length)) ++ txtL false e b most := by rw [List.append_assoc, h2]
  rw [← rrX_eq, ← rrX_eq, ← h3] at h1
  exact h1
theorem rx_Left_ok {B b : List UInt8} (h : Suf B b) (hl : B.length < 2 ^ 62) (e : Int) : EvR PR G f_R05_R_Left [.c (.ptr (.par 0) 0)] ⟨rrX B e b, []⟩ (iv (leftR e b)) ⟨rrX B e b, []⟩ := by
  obtain ⟨p, rfl⟩ := h
  have h1 := rr_Left_ok e p b hl
  rw [← rrX_eq] at h1
  exact h1
/-- A byte is a number of one byte. -/
theorem rx_Byte_ok {B b : List UInt8} (h : Suf B b) (hl : B.length < 2 ^ 62) (e most : Int) (hmost : 255 ≤ most) : EvR PR G f_R05_R_Byte [.c (.ptr (.par 0) 0)] ⟨rrX B e b, []⟩ (iv (numV e b 1 most)) ⟨rrX B (numE e b 1 most) (numL false e b 1), []⟩ := by
  obtain ⟨p, rfl⟩ := h
  by_cases he : e = 0
  · subst he
    cases b with
    | nil =>
      have h1 := rr_Byte_end p
      have e1 : numV 0 [] 1 most = 0 := rfl
      have e2 : numE 0 [] 1 most = 4 := rfl
      have e3 : numL false 0 [] 1 = [] := rfl
      rw [← rrX_eq, ← rrX_eq] at h1
      rw [e1, e2, e3]
      exact h1
    | cons c r =>
      have hc := c.toNat_lt
      have hv : valB (List.take (1 : Int).toNat (c :: r)) = c.toNat := by simp [valB]
      have f1 : numV 0 (c :: r) 1 most = c.toNat := by unfold numV; rw [if_neg (by simp), if_neg (by omega), if_neg (by simp; omega), hv, if_neg (by omega)]
      have f2 : numE 0 (c :: r) 1 most = 0 := by unfold numE; rw [if_neg (by simp), if_neg (by omega), if_neg (by simp; omega), hv, if_neg (by omega)]
      have f3 : numL false 0 (c :: r) 1 = r := by unfold numL; rw [if_neg (by simp), if_neg (by omega), if_neg (by simp; omega)]; rfl
      have h1 := rr_Byte_ok p c r hl
      rw [f1, f2, f3]
      rw [← rrX_eq, ← rrX_eq, show p ++ [c] ++ r = p ++ c :: r by simp] at h1
      exact h1
  · have h1 := rr_Byte_bad e p b he
    have f1 : numV e b 1 most = 0 := by unfold numV; rw [if_pos he]
    have f2 : numE e b 1 most = e := by unfold numE; rw [if_pos he]
    have f3 : numL false e b 1 = b := by unfold numL; rw [if_pos he]
    rw [f1, f2, f3]
    rw [← rrX_eq] at h1
    exact h1
/-! ### The numbers that are read -/
theorem numV_range {e : Int} {b : List UInt8} {size most : Int} (h : 0 ≤ most) : 0 ≤ numV e b size most ∧ numV e b size most ≤ most := by
  unfold numV
  repeat' split
  all_goals omega
theorem num_same {e : Int} {b b' : List UInt8} (h : e = 0 → b = b') (size most : Int) : numV e b size most = numV e b' size most ∧ numE e b size most = numE e b' size most ∧ (numE e b size most = 0 → numL true e b size = numL false e b' size) := by
  by_cases he : e = 0
  · subst he
    obtain rfl := h rfl
    refine ⟨rfl, rfl, fun h0 => ?_⟩
    unfold numE at h0
    unfold numL
    split
    · rfl
    · rename_i h1
      rw [if_neg h1] at h0
      split
      · rfl
      · rename_i h2
        rw [if_neg h2] at h0
        split
        · rename_i h3; rw [if_pos h3] at h0; omega
        · rfl
  · unfold numV numE
    simp only [if_pos (show e ≠ 0 from he)]
    exact ⟨trivial, trivial, fun h => absurd h he⟩
theorem txt_same {e : Int} {b b' : List UInt8} (h : e = 0 → b = b') (most : Int) : txtV e b most = txtV e b' most ∧ txtE e b most = txtE e b' most ∧ (txtE e b most = 0 → txtL true e b most = txtL false e b' most) := by
  by_cases he : e = 0
  · subst he
    obtain rfl := h rfl
    refine ⟨rfl, rfl, fun h0 => ?_⟩
    cases b with
    | nil => rfl
    | cons c r =>
      have h0 : (if most < c.toNat then (5 : Int) else if r.length < c.toNat then 4 else 0) = 0 := h0
      show (if most < c.toNat then r else if r.length < c.toNat then r else r.drop c.toNat) = (if most < c.toNat then r else if r.length < c.toNat then [] else r.drop c.toNat)
      split
      · rfl
      · rename_i h1
        rw [if_neg h1] at h0
        split
        · rename_i h2; rw [if_pos h2] at h0; omega
        · rfl
  · unfold txtV txtE
    simp only [if_pos (show e ≠ 0 from he)]
    exact ⟨trivial, trivial, fun h => absurd h he⟩
theorem left_same {e : Int} {b b' : List UInt8} (h : e = 0 → b = b') : leftR e b = leftR e b' := by
  unfold leftR
  split
  · rename_i he; rw [h he]
  · rfl
end Go.Ab.S
