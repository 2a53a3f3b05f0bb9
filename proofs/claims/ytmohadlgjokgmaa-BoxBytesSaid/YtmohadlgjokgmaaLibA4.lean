/- Part of a proof; no condition. -/
import Derived.Test.YtmohadlgjokgmaaLibA3
set_option linter.unusedSimpArgs false
set_option linter.unusedVariables false
namespace Go.Ab.S
open Go Go.Ab Go.Proofs
attribute [local irreducible] SemS
set_option maxRecDepth 100000
def movedN (M : Nat → Nat) : Nat := setOf (fun t => decide (M t ≠ t)) 16
theorem ofN_nat {i : Nat} (h : i < 16) : ofN i = 2 ^ i := by
  unfold ofN
  rw [if_pos (by omega)]; rfl
theorem setOf_step (p : Nat → Bool) (n : Nat) : setOf p (n + 1) = if p n then setOf p n ||| 2 ^ n else setOf p n := rfl
theorem setOf_bit' (p : Nat → Bool) {n j : Nat} (h : j < n) : (setOf p n).testBit j = p j := by rw [setOf_bit]; simp [h]
theorem withN_nat {s i : Nat} (h : i < 16) : withN s i = s ||| 2 ^ i := by unfold withN; rw [if_pos (by omega)]; rfl
theorem hasN_nat {s i : Nat} (h : i < 16) : hasN s i = s.testBit i := by
  unfold hasN
  rw [decide_eq_true (show (0 : Int) ≤ i by omega), decide_eq_true (show (i : Int) ≤ 15 by omega)]; rfl
end Go.Ab.S
