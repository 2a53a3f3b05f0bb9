/- The document's undoing: all messages back into one row, a new one, and each number written into it. No condition. -/
import Derived.Test.YtmohadlgjokgmaaLUA
import Derived.Test.YtmohadlgjokgmaaFwH
set_option linter.unusedSimpArgs false
set_option linter.unusedVariables false
namespace Go.Ab.S
open Go Go.Ab Go.Proofs
attribute [local irreducible] SemS
set_option maxRecDepth 100000
end Go.Ab.S
