/- Part of a proof; no condition. -/
import Derived.Test.YtmohadlgjokgmaaLibA9
set_option linter.unusedSimpArgs false
set_option linter.unusedVariables false
namespace Go.Ab.S
open Go Go.Ab Go.Proofs
attribute [local irreducible] SemS
set_option maxRecDepth 100000
def diffN (a b : Nat) : Nat := (BitVec.ofInt (IntKind.bits .u16) (a : Int) &&& ~~~BitVec.ofInt (IntKind.bits .u16) (b : Int)).toNat
theorem diffN_lt {a b : Nat} : diffN a b < 65536 := by
  unfold diffN
  exact BitVec.isLt (w := 16) _
theorem bvdiff {w : Nat} (x y : BitVec w) {j : Nat} (h : j < w) : (x &&& ~~~y).toNat.testBit j = (x.toNat.testBit j && !y.toNat.testBit j) := by
  rw [BitVec.testBit_toNat, BitVec.testBit_toNat, BitVec.testBit_toNat, BitVec.getLsbD_and, BitVec.getLsbD_not]
  simp [h]
theorem diffN_bit {a b j : Nat} (ha : a < 65536) (hb : b < 65536) (hj : j < 16) : (diffN a b).testBit j = (a.testBit j && !b.testBit j) := by
  unfold diffN
  rw [bvdiff _ _ (show j < IntKind.bits .u16 from hj), bv16 ha, bv16 hb]
def subB (a b : Nat) : Bool := decide (diffN a b = 0)
theorem subB_iff {a b : Nat} (ha : a < 65536) (hb : b < 65536) : subB a b = true ↔ ∀ j, j < 16 → a.testBit j = true → b.testBit j = true := by
  rw [subB, decide_eq_true_eq]
  constructor
  · intro h j hj h1
    have := diffN_bit ha hb hj
    rw [h, Nat.zero_testBit, h1] at this
    simpa using this.symm
  · intro h
    refine set_ext diffN_lt (by omega) fun j hj => ?_
    rw [diffN_bit ha hb hj, Nat.zero_testBit]
    have := h j hj
    cases h1 : a.testBit j <;> simp_all
def flowsB (s i s' i' : Nat) : Bool := subB s s' && subB i' i
/-! ### Images -/
theorem setN_mono {M : Nat → Nat} {a b : Nat} (h : ∀ j, j < 16 → a.testBit j = true → b.testBit j = true) : ∀ j, j < 16 → (setN M a).testBit j = true → (setN M b).testBit j = true := by
  intro j hj hb
  rw [setN_bit] at hb ⊢
  obtain ⟨_, t, h1, h2, h3⟩ := hb
  exact ⟨hj, t, h1, h t h1 h2, h3⟩
theorem setN_idem {M : Nat → Nat} (hf : fineB M = true) {s : Nat} : setN M (setN M s) = setN M s := by
  rw [fineB_iff] at hf
  refine set_ext setN_lt setN_lt fun j hj => ?_
  rw [Bool.eq_iff_iff, setN_bit, setN_bit]
  constructor
  · rintro ⟨_, t, h1, h2, h3⟩
    rw [setN_bit] at h2
    obtain ⟨_, u, g1, g2, g3⟩ := h2
    have := (hf u g1).2
    rw [g3] at this
    exact ⟨hj, u, g1, g2, by omega⟩
  · rintro ⟨_, t, h1, h2, h3⟩
    refine ⟨hj, j, hj, setN_bit.2 ⟨hj, t, h1, h2, h3⟩, ?_⟩
    have := (hf t h1).2
    rw [h3] at this
    exact this
theorem moved_bit {M : Nat → Nat} {j : Nat} (hj : j < 16) : (movedN M).testBit j = decide (M j ≠ j) := by rw [movedN, setOf_bit' _ hj]
theorem setN_moved {M : Nat → Nat} (hf : fineB M = true) {s : Nat} : setN M s &&& movedN M = 0 := by
  rw [fineB_iff] at hf
  refine set_ext (and_lt setN_lt) (by omega) fun j hj => ?_
  rw [Nat.testBit_and, moved_bit hj, Nat.zero_testBit]
  cases h : (setN M s).testBit j with
  | false => rfl
  | true =>
    obtain ⟨_, t, h1, h2, h3⟩ := setN_bit.1 h
    have := (hf t h1).2
    rw [h3] at this
    simp [this]
theorem touches_img {M : Nat → Nat} (hf : fineB M = true) {s i : Nat} : touchesB M (setN M s) (setN M i) = false := by
  unfold touchesB
  rw [Nat.and_or_distrib_right, setN_moved hf, setN_moved hf]
  rfl
theorem setN_same {M : Nat → Nat} {s : Nat} (hs : s < 65536) (h : s &&& movedN M = 0) : setN M s = s := by
  have key : ∀ t, t < 16 → s.testBit t = true → M t = t := by
    intro t ht hb
    have : (s &&& movedN M).testBit t = false := by rw [h, Nat.zero_testBit]
    rw [Nat.testBit_and, hb, moved_bit ht] at this
    simpa using this
  refine set_ext setN_lt hs fun j hj => ?_
  rw [Bool.eq_iff_iff, setN_bit]
  constructor
  · rintro ⟨_, t, h1, h2, h3⟩
    rw [key t h1 h2] at h3
    subst h3; exact h2
  · intro hb; exact ⟨hj, j, hj, hb, key j hj hb⟩
theorem touches_false {M : Nat → Nat} {s i : Nat} (h : touchesB M s i = false) : s &&& movedN M = 0 ∧ i &&& movedN M = 0 := by
  unfold touchesB at h
  rw [Nat.and_or_distrib_right] at h
  have h' : (s &&& movedN M ||| i &&& movedN M) = 0 := by simpa using h
  exact Nat.or_eq_zero_iff.1 h'
theorem setN_or {M : Nat → Nat} {a b : Nat} : setN M (a ||| b) = setN M a ||| setN M b := by
  refine set_ext setN_lt (or_lt setN_lt setN_lt) fun j hj => ?_
  rw [Nat.testBit_or, Bool.eq_iff_iff, Bool.or_eq_true, setN_bit, setN_bit, setN_bit]
  constructor
  · rintro ⟨_, t, h1, h2, h3⟩
    rw [Nat.testBit_or, Bool.or_eq_true] at h2
    exact h2.imp (fun h => ⟨hj, t, h1, h, h3⟩) fun h => ⟨hj, t, h1, h, h3⟩
  · rintro (⟨_, t, h1, h2, h3⟩ | ⟨_, t, h1, h2, h3⟩)
    · exact ⟨hj, t, h1, by rw [Nat.testBit_or, h2]; rfl, h3⟩
    · exact ⟨hj, t, h1, by rw [Nat.testBit_or, h2, Bool.or_true], h3⟩
theorem flows_img {M : Nat → Nat} {s i s' i' : Nat} (h1 : s < 65536) (h2 : i < 65536) (h3 : s' < 65536) (h4 : i' < 65536) (h : flowsB s i s' i' = true) : flowsB (setN M s) (setN M i) (setN M s') (setN M i') = true := by
  simp only [flowsB, Bool.and_eq_true] at h ⊢
  exact ⟨(subB_iff setN_lt setN_lt).2 (setN_mono ((subB_iff h1 h3).1 h.1)), (subB_iff setN_lt setN_lt).2 (setN_mono ((subB_iff h4 h2).1 h.2))⟩
end Go.Ab.S
