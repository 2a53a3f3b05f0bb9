/- Part of a proof; no condition. -/
import Derived.Test.YtidmpmdhgiopgaaDoorLP1
set_option linter.unusedSimpArgs false
set_option linter.unusedVariables false
namespace Go.Ab.S
open Go Go.Ab Go.Proofs
set_option maxRecDepth 100000
/-! ### Policies that are handed in -/
abbrev shLb : Sh := .st (.cons 1 (.int .u16) (.cons 1 (.int .u16) .nil))
abbrev shPol : Sh := .st (.cons 1 (.int .u16) (.cons 32 (.arr 16 2 shLb) (.cons 16 (.arr 16 1 (.int .u16)) (.cons 16 (.arr 16 1 (.int .u8)) (.cons 1 (.int .u16) .nil)))))
end Go.Ab.S
