/- Objects, undone: the program's way. No condition. Lanes undone; objects stamped by the document. No condition. -/
import Derived.Test.YtidmpmdhgiopgaaDoorLO3
set_option linter.unusedSimpArgs false
set_option linter.unusedVariables false
namespace Go.Ab.S
open Go Go.Ab Go.Proofs
attribute [local irreducible] SemS
set_option maxRecDepth 100000
abbrev mapOk (M : Nat → Nat) : Prop := ∀ i, i < 16 → M i ≤ 255
def minE (e : Int) (m : Msg) : Msg := { m with ep := if e < m.ep then e else m.ep }
def Ob.backB (M : Nat → Nat) (o : Ob) : Bool := o.swept && (!decide (o.k = 1) || touchesB M o.ws o.wi)
def Ob.undo (M : Nat → Nat) (e : Int) (o : Ob) : Ob := { o with
  ls := if o.backB M then o.ws else o.ls
  li := if o.backB M then o.wi else o.li
  stamp := e
  swept := false
  ws := 0
  wi := 0
  bx := if o.k = 2 then o.bx.restore.each (minE e) else o.bx }
end Go.Ab.S

namespace Go.Ab.S
open Go Go.Ab Go.Proofs
attribute [local irreducible] SemS
set_option maxRecDepth 100000
def obs (l : List Ob) : List (List PV) := l.map Ob.row
def Ob.stampO (M : Nat → Nat) (e : Int) (o : Ob) : Ob := if o.swept then o else { o with
  ws := o.ls
  wi := o.li
  ls := setN M o.ls
  li := setN M o.li
  swept := true
  stamp := e
  bx := if o.k = 2 then o.bx.aside else o.bx }
end Go.Ab.S
