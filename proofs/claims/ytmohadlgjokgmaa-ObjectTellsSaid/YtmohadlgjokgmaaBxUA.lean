/- Objects, undone: the program's way. No condition. Lanes undone; objects stamped by the document. No condition. -/
import Derived.Test.YtmohadlgjokgmaaBxO3
set_option linter.unusedSimpArgs false
set_option linter.unusedVariables false
namespace Go.Ab.S
open Go Go.Ab Go.Proofs
attribute [local irreducible] SemS
set_option maxRecDepth 100000
abbrev mapOk (M : Nat → Nat) : Prop := ∀ i, i < 16 → M i ≤ 255
def minE (e : Int) (m : Msg) : Msg := { m with ep := if e < m.ep then e else m.ep }
def Ob.backB (M : Nat → Nat) (o : Ob) : Bool := o.swept && (!decide (o.k = 1) || touchesB M o.ws o.wi)
def Ob.undo (M : Nat → Nat) (e : Int) (o : Ob) : Ob := { o with
  ls := if o.backB M then o.ws else o.ls
  li := if o.backB M then o.wi else o.li
  stamp := e
  swept := false
  ws := 0
  wi := 0
  bx := if o.k = 2 then o.bx.restore.each (minE e) else o.bx }
end Go.Ab.S

namespace Go.Ab.S
open Go Go.Ab Go.Proofs
attribute [local irreducible] SemS
set_option maxRecDepth 100000
def obs (l : List Ob) : List (List PV) := l.map Ob.row
theorem obs_len {l : List Ob} : (obs l).length = l.length := by simp [obs]
theorem obs_get {l : List Ob} {i : Nat} (h : i < l.length) : (obs l)[i]? = some l[i].row := by rw [obs, List.getElem?_map, List.getElem?_eq_getElem h]; rfl
theorem obs_app (a b : List Ob) : obs (a ++ b) = obs a ++ obs b := by simp [obs]
theorem obs_all (l : List Ob) : ((obs l).all fun r => r.length == 17) = true := by simp [obs, Ob.row]
theorem app_ob {n : Nat} {es : List (List PV)} {r : List PV} (h1 : n = es.length) (h2 : es.length ≤ 100000) (h3 : r.length = 17) : (true && decide (n = es.length ∧ 17 = 17 ∧ (n + [r].length) * 160 ≤ 2 ^ 47 ∧ n + [r].length < 2 ^ 62) && [r].all fun r => r.length == 17) = true := by
  rw [Bool.and_eq_true, Bool.and_eq_true]
  exact ⟨⟨rfl, decide_eq_true ⟨h1, rfl, by show (n + 1) * 160 ≤ _; omega, by show n + 1 < _; omega⟩⟩, by simp [h3]⟩
def Ob.stampO (M : Nat → Nat) (e : Int) (o : Ob) : Ob := if o.swept then o else { o with
  ws := o.ls
  wi := o.li
  ls := setN M o.ls
  li := setN M o.li
  swept := true
  stamp := e
  bx := if o.k = 2 then o.bx.aside else o.bx }
end Go.Ab.S
