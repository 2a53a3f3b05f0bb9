/- Sets of tags as numbers: plain facts. No condition. -/
import Derived.Test.YtmohadlgjokgmaaFwE
set_option linter.unusedSimpArgs false
set_option linter.unusedVariables false
namespace Go.Ab
open Go

/-- A set's tags, rising. -/
def bitsN (s : Nat) : List Nat := (List.range 16).filter fun i => s.testBit i
def bitsL (s : Nat) : List Int := (bitsN s).map fun (i : Nat) => (i : Int)

theorem mem_bitsN {s i : Nat} : i ∈ bitsN s ↔ i < 16 ∧ s.testBit i = true := by simp [bitsN]
theorem bit_lt {t i : Nat} (ht : t < 65536) (h : t.testBit i = true) : i < 16 := by
  apply Nat.lt_of_not_le
  intro hi
  rw [Nat.testBit_lt_two_pow (Nat.lt_of_lt_of_le ht (show 2 ^ 16 ≤ 2 ^ i from Nat.pow_le_pow_right (by omega) hi))] at h
  cases h

/-- The set of the numbers below n that have a property. -/
def setOf (p : Nat → Bool) : Nat → Nat
  | 0 => 0
  | n + 1 => if p n then setOf p n ||| 2 ^ n else setOf p n
theorem setOf_bit (p : Nat → Bool) : ∀ (n j : Nat), (setOf p n).testBit j = (decide (j < n) && p j)
  | 0, j => by simp [setOf]
  | n + 1, j => by
    simp only [setOf]
    split
    · rename_i h
      rw [Nat.testBit_or, setOf_bit p n j, Nat.testBit_two_pow]
      by_cases e : n = j
      · subst e; simp [h]
      · have : (j < n + 1) = (j < n) := by apply propext; omega
        simp [e, this]
    · rename_i h
      rw [setOf_bit p n j]
      by_cases e : n = j
      · subst e; simp [h]
      · have : (j < n + 1) = (j < n) := by apply propext; omega
        simp [this]
theorem lt_of_bits {a : Nat} (h : ∀ j, a.testBit j = true → j < 16) : a < 65536 := by
  apply Nat.lt_of_not_le
  intro hge
  obtain ⟨j, hj, hb⟩ := Nat.exists_ge_and_testBit_of_ge_two_pow (n := 16) hge
  have := h j hb
  omega
theorem setOf_lt (p : Nat → Bool) {n : Nat} (h : n ≤ 16) : setOf p n < 65536 := lt_of_bits fun j hj => by
  rw [setOf_bit] at hj
  simp at hj
  omega
theorem set_ext {a b : Nat} (ha : a < 65536) (hb : b < 65536) (h : ∀ j, j < 16 → a.testBit j = b.testBit j) : a = b := by
  refine Nat.eq_of_testBit_eq fun j => ?_
  by_cases hj : j < 16
  · exact h j hj
  · have e : ∀ {c : Nat}, c < 65536 → c.testBit j = false := fun hc => by
      cases hb : Nat.testBit _ j with
      | false => rfl
      | true => exact absurd (bit_lt hc hb) hj
    rw [e ha, e hb]

/-! ### 16 bits -/
theorem wrapN16 {n : Nat} (h : n < 65536) : IntKind.u16.wrap (n : Int) = n := by
  simp [IntKind.wrap, IntKind.signed, IntKind.bits]; omega
theorem bv16 {n : Nat} (h : n < 65536) : (BitVec.ofInt (IntKind.bits .u16) (n : Int)).toNat = n := by
  simp [IntKind.bits, BitVec.ofInt]
  omega
theorem and16 {a b : Nat} (ha : a < 65536) (hb : b < 65536) : IntKind.u16.wrap ((BitVec.ofInt (IntKind.bits .u16) (a : Int) &&& BitVec.ofInt (IntKind.bits .u16) (b : Int)).toNat : Int) = ((a &&& b : Nat) : Int) := by
  rw [BitVec.toNat_and, bv16 ha, bv16 hb, wrapN16 (Nat.and_lt_two_pow a (n := 16) hb)]
theorem or16 {a b : Nat} (ha : a < 65536) (hb : b < 65536) : IntKind.u16.wrap ((BitVec.ofInt (IntKind.bits .u16) (a : Int) ||| BitVec.ofInt (IntKind.bits .u16) (b : Int)).toNat : Int) = ((a ||| b : Nat) : Int) := by
  rw [BitVec.toNat_or, bv16 ha, bv16 hb, wrapN16 (Nat.or_lt_two_pow (n := 16) ha hb)]
end Go.Ab
