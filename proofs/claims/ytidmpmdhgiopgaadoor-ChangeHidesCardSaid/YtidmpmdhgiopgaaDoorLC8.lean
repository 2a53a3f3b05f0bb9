/- Any one change, by the document. No condition. -/
import Derived.Test.YtidmpmdhgiopgaaDoorLC7
set_option linter.unusedSimpArgs false
set_option linter.unusedVariables false
namespace Go.Ab.S
open Go Go.Ab Go.Proofs
attribute [local irreducible] SemS
set_option maxRecDepth 100000
end Go.Ab.S
