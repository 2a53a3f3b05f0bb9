/- Part of a proof; no condition. -/
import Derived.Test.YtmohadlgjokgmaaLibA1
set_option linter.unusedSimpArgs false
set_option linter.unusedVariables false
namespace Go.Ab.S
open Go Go.Ab Go.Proofs
attribute [local irreducible] SemS
set_option maxRecDepth 100000
/-- Is a number a tag of a set? -/
def hasN (s : Nat) (t : Int) : Bool := decide (0 ≤ t) && decide (t ≤ 15) && s.testBit t.toNat
theorem half16 {s : Nat} (h : s < 65536) : IntKind.u16.wrap ((s : Int).tdiv 2) = ((s / 2 : Nat) : Int) := by
  rw [show (s : Int).tdiv 2 = ((s / 2 : Nat) : Int) from rfl, wrapN16 (by omega)]
/-- A set with one tag more. -/
def withN (s : Nat) (t : Int) : Nat := if 0 ≤ t ∧ t ≤ 15 then s ||| 2 ^ t.toNat else s
theorem pow16 {t : Nat} (h : t ≤ 15) : 2 ^ t ≤ 32768 := by
  have : 2 ^ t ≤ 2 ^ 15 := Nat.pow_le_pow_right (by omega) h
  omega
theorem withN_lt {s : Nat} {t : Int} (hs : s < 65536) : withN s t < 65536 := by
  unfold withN
  split
  · have := pow16 (t := t.toNat) (by omega)
    exact Nat.or_lt_two_pow (n := 16) hs (by omega)
  · exact hs
theorem add_or {s t : Nat} (hs : s < 65536) (ht : t < 16) (h : s.testBit t = false) : s + 2 ^ t = s ||| 2 ^ t := by
  have h2 := pow16 (t := t) (by omega)
  have hb := BitVec.add_eq_or_of_and_eq_zero (BitVec.ofNat 20 s) (BitVec.ofNat 20 (2 ^ t)) (by
    apply BitVec.eq_of_toNat_eq
    rw [BitVec.toNat_and, BitVec.toNat_ofNat, BitVec.toNat_ofNat, Nat.mod_eq_of_lt (by omega), Nat.mod_eq_of_lt (by omega)]
    refine Nat.eq_of_testBit_eq fun j => ?_
    rw [Nat.testBit_and, Nat.testBit_two_pow]
    by_cases e : t = j
    · subst e; simp [h]
    · simp [e])
  have := congrArg BitVec.toNat hb
  rw [BitVec.toNat_add, BitVec.toNat_or, BitVec.toNat_ofNat, BitVec.toNat_ofNat, Nat.mod_eq_of_lt (a := s) (by omega), Nat.mod_eq_of_lt (a := 2 ^ t) (by omega), Nat.mod_eq_of_lt (by omega)] at this
  exact this
end Go.Ab.S
