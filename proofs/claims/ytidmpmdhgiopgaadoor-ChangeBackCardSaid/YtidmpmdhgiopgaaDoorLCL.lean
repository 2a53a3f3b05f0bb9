/- Both readers of an update alike. No condition. -/
import Derived.Test.YtidmpmdhgiopgaaDoorLCJ
set_option linter.unusedSimpArgs false
set_option linter.unusedVariables false
namespace Go.Ab.S
open Go Go.Ab Go.Proofs
set_option maxRecDepth 100000
end Go.Ab.S
