/- Part of a proof; no condition. -/
import Derived.Test.YtmohadlgjokgmaaLibA4
set_option linter.unusedSimpArgs false
set_option linter.unusedVariables false
namespace Go.Ab.S
open Go Go.Ab Go.Proofs
attribute [local irreducible] SemS
set_option maxRecDepth 100000
theorem and_lt {a b : Nat} (ha : a < 65536) : a &&& b < 65536 := Nat.lt_of_le_of_lt Nat.and_le_left ha
theorem or_lt {a b : Nat} (ha : a < 65536) (hb : b < 65536) : a ||| b < 65536 := Nat.or_lt_two_pow (n := 16) ha hb
def lab (s i : Nat) : AV := .agg [.int .u16 s, .int .u16 i]
def touchesB (M : Nat → Nat) (s i : Nat) : Bool := !decide (((s ||| i) &&& movedN M) = 0)
theorem movedN_lt {M : Nat → Nat} : movedN M < 65536 := setOf_lt _ (Nat.le_refl 16)
theorem int_zero {a : Nat} : decide ((a : Int) = 0) = decide (a = 0) := by apply decide_eq_decide.2; omega
/-- May a map be? -/
def fineB (M : Nat → Nat) : Bool := (List.range 16).all fun t => decide (M t < 16) && decide (M (M t) = M t)
theorem fineB_iff {M : Nat → Nat} : fineB M = true ↔ ∀ t, t < 16 → M t < 16 ∧ M (M t) = M t := by simp [fineB]
theorem fineB_false {M : Nat → Nat} {t : Nat} (ht : t < 16) (h : ¬ (M t < 16 ∧ M (M t) = M t)) : fineB M = false := by
  cases hf : fineB M with
  | false => rfl
  | true => exact absurd (fineB_iff.1 hf t ht) h
end Go.Ab.S
