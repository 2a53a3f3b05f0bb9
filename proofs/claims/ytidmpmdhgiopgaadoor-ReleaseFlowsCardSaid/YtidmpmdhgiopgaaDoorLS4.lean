/- StampMay. No condition. -/
import Derived.Test.YtidmpmdhgiopgaaDoorLS3
set_option linter.unusedSimpArgs false
set_option linter.unusedVariables false
namespace Go.Ab.S
open Go Go.Ab Go.Proofs
attribute [local irreducible] SemS
set_option maxRecDepth 100000
/-! ### The plain law -/
def evenB (m : Msg) : Bool := decide (m.role.tmod 2 = 0)
end Go.Ab.S
