/- Part of a proof; no condition. -/
import Derived.Test.YtmohadlgjokgmaaLibN1
set_option linter.unusedSimpArgs false
set_option linter.unusedVariables false
namespace Go.Ab.S
open Go Go.Ab Go.Proofs
attribute [local irreducible] SemS
set_option maxRecDepth 100000
/-! ### What is known of Set, as a table -/
end Go.Ab.S
