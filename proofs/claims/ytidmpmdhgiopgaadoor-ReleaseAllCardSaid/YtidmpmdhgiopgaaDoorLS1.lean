/- Objects stamped, and at the commit: the program's way, and the document's. No condition. -/
import Derived.Test.YtidmpmdhgiopgaaDoorLUA
import Derived.Test.YtidmpmdhgiopgaaDoorLK12
set_option linter.unusedSimpArgs false
set_option linter.unusedVariables false
namespace Go.Ab.S
open Go Go.Ab Go.Proofs
attribute [local irreducible] SemS
set_option maxRecDepth 100000
/-- A message at the commit. -/
def commM (M : Nat → Nat) (e : Int) (m : Msg) : Msg := if m.ep = e then m else { m.map M with ep := e }
def Ob.commit (M : Nat → Nat) (e : Int) (o : Ob) : Ob := { o with swept := false, ws := 0, wi := 0, bx := if o.k = 2 then o.bx.forget.each (commM M e) else o.bx }
end Go.Ab.S
