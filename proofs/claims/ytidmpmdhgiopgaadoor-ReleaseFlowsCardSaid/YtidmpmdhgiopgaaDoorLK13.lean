/- The document's mailboxes: which may be, letting go, each. No condition. -/
import Derived.Test.YtidmpmdhgiopgaaDoorLK12
set_option linter.unusedSimpArgs false
set_option linter.unusedVariables false
namespace Go.Ab.S
open Go Go.Ab Go.Proofs
attribute [local irreducible] SemS
set_option maxRecDepth 100000
def boolsR (l : List Bool) : List (List PV) := l.map fun b => [.bool b]
def epM (e : Int) (m : Msg) : Msg := { m with ep := e }
end Go.Ab.S
