/- Objects: which are the same. No condition. Objects: the program's word on which may be. No condition. -/
import Derived.Test.YtidmpmdhgiopgaaDoorLO1
set_option linter.unusedSimpArgs false
set_option linter.unusedVariables false
namespace Go.Ab.S
open Go Go.Ab Go.Proofs
attribute [local irreducible] SemS
set_option maxRecDepth 100000
end Go.Ab.S

namespace Go.Ab.S
open Go Go.Ab Go.Proofs
attribute [local irreducible] SemS
set_option maxRecDepth 100000
def Ob.room (o : Ob) : Int := if o.k = 2 ∨ o.dead = true then 0 else if o.k = 1 then 32 else 64
def Ob.ownB (o : Ob) : Bool := if o.k = 1 then decide (o.bx = Bx.emp) else if o.role = 0 ∧ o.dead = false then decide (o.k = 2) || decide (o.bx = Bx.emp) else false
end Go.Ab.S
