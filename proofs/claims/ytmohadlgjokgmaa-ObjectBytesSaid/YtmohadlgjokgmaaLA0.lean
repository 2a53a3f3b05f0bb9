/- Sets of tags as numbers: plain facts. No condition. -/
import Derived.Test.YtmohadlgjokgmaaFwE
set_option linter.unusedSimpArgs false
set_option linter.unusedVariables false
namespace Go.Ab
open Go

/-- A set's tags, rising. -/
def bitsN (s : Nat) : List Nat := (List.range 16).filter fun i => s.testBit i
def bitsL (s : Nat) : List Int := (bitsN s).map fun (i : Nat) => (i : Int)

/-- The set of the numbers below n that have a property. -/
def setOf (p : Nat → Bool) : Nat → Nat
  | 0 => 0
  | n + 1 => if p n then setOf p n ||| 2 ^ n else setOf p n
/-! ### 16 bits -/
end Go.Ab
