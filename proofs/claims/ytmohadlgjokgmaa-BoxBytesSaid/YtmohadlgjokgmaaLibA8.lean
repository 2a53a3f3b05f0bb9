/- Part of a proof; no condition. -/
import Derived.Test.YtmohadlgjokgmaaLibA7
set_option linter.unusedSimpArgs false
set_option linter.unusedVariables false
namespace Go.Ab.S
open Go Go.Ab Go.Proofs
attribute [local irreducible] SemS
set_option maxRecDepth 100000
theorem moved_has {M : Nat → Nat} {a : Int} (h0 : 0 ≤ a) (h1 : a ≤ 15) : hasN (movedN M) a = !staysB M a := by
  obtain ⟨a, rfl⟩ := Int.eq_ofNat_of_zero_le h0
  rw [hasN_nat (by omega), movedN, setOf_bit' _ (by omega)]
  have : staysB M a = decide (M a = a) := by
    simp only [staysB, Int.toNat_natCast]
    rw [decide_eq_true h0, decide_eq_true (show (a : Int) < 16 by omega)]
    simp only [Bool.true_and]
    apply decide_eq_decide.2; omega
  rw [this]
  simp
theorem stays_out {M : Nat → Nat} {a : Int} (h : ¬ (0 ≤ a ∧ a ≤ 15)) : staysB M a = false := by simp [staysB]; omega
end Go.Ab.S
