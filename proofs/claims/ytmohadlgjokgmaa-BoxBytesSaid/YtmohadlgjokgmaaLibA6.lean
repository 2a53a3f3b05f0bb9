/- Part of a proof; no condition. -/
import Derived.Test.YtmohadlgjokgmaaLibA5
set_option linter.unusedSimpArgs false
set_option linter.unusedVariables false
namespace Go.Ab.S
open Go Go.Ab Go.Proofs
attribute [local irreducible] SemS
set_option maxRecDepth 100000
/-- The tags that have one in whose place they are. -/
def imgB (M : Nat → Nat) (s n u : Nat) : Bool := (List.range n).any fun t => s.testBit t && decide (M t = u)
def setN (M : Nat → Nat) (s : Nat) : Nat := setOf (imgB M s 16) 16
theorem imgB_iff {M : Nat → Nat} {s n u : Nat} : imgB M s n u = true ↔ ∃ t, t < n ∧ s.testBit t = true ∧ M t = u := by simp [imgB]
theorem imgB_step (M : Nat → Nat) (s n u : Nat) : imgB M s (n + 1) u = (imgB M s n u || (s.testBit n && decide (M n = u))) := by
  simp [imgB, List.range_succ]
theorem setN_lt {M : Nat → Nat} {s : Nat} : setN M s < 65536 := setOf_lt _ (Nat.le_refl 16)
theorem setN_bit {M : Nat → Nat} {s u : Nat} : (setN M s).testBit u = true ↔ u < 16 ∧ ∃ t, t < 16 ∧ s.testBit t = true ∧ M t = u := by
  rw [setN, setOf_bit, Bool.and_eq_true, decide_eq_true_eq, imgB_iff]
theorem or_self_bit {a u : Nat} : (a ||| 2 ^ u) ||| 2 ^ u = a ||| 2 ^ u := by rw [Nat.or_assoc, Nat.or_self]
end Go.Ab.S
