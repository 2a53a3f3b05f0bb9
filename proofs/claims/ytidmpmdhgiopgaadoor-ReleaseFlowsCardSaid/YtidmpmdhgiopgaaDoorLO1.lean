/- Objects: which may be, which are the same. No condition. -/
import Derived.Test.YtidmpmdhgiopgaaDoorLK13
set_option linter.unusedSimpArgs false
set_option linter.unusedVariables false
namespace Go.Ab.S
open Go Go.Ab Go.Proofs
attribute [local irreducible] SemS
set_option maxRecDepth 100000
def Ob.kindB (o : Ob) : Bool :=
  if o.k = 1 then decide (0 ≤ o.role) && (decide (o.role ≤ 15) && (decide (o.buf.length ≤ 32) && ((!o.dead || decide (o.buf = [])) && decide (o.bx = Bx.emp))))
  else if o.k = 2 then decide (o.role = 0) && (decide (o.buf = []) && (!o.dead && o.bx.fine))
  else decide (o.role = 0) && (decide (o.buf.length ≤ 64) && (!o.dead && decide (o.bx = Bx.emp)))
def Ob.wasB (o : Ob) : Bool := o.swept || (decide ((o.ws : Int) = 0) && decide ((o.wi : Int) = 0))
def Ob.fine (o : Ob) : Bool := idB o.k o.n && (decide (0 ≤ o.stamp) && (decide (o.stamp ≤ 255) && (o.wasB && o.kindB)))
/-- What one looks at of an object is not too long to be counted. -/
structure Ob.Lim (o : Ob) : Prop where
  bx : o.bx.len < 2 ^ 61
  buf : o.buf.length < 2 ^ 62
end Go.Ab.S
