/- ReleaseFlows and ReleaseAll. No condition. -/
import Derived.Test.YtidmpmdhgiopgaaDoorLE4
set_option linter.unusedSimpArgs false
set_option linter.unusedVariables false
namespace Go.Ab.S
open Go Go.Ab Go.Proofs
attribute [local irreducible] SemS
set_option maxRecDepth 100000
/-! ### What is used -/
def usedN (s i s' i' : Nat) : Nat := diffN s s' ||| diffN i' i
end Go.Ab.S
