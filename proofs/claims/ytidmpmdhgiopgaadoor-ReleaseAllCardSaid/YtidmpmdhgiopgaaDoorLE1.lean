/- What was set aside, let go: the document's way. No condition. -/
import Derived.Test.YtidmpmdhgiopgaaDoorLK13
import Derived.Test.YtidmpmdhgiopgaaDoorLP9
set_option linter.unusedSimpArgs false
set_option linter.unusedVariables false
namespace Go.Ab.S
open Go Go.Ab Go.Proofs
attribute [local irreducible] SemS
set_option maxRecDepth 100000
/-- A message as it is in an epoch. -/
def asIt (M : Nat → Nat) (e : Int) (m : Msg) : Msg := if m.ep = e then m else m.map M
theorem asIt_ok {M : Nat → Nat} {e : Int} {m : Msg} (h : m.Ok) : (asIt M e m).Ok := by
  unfold asIt
  split
  · exact h
  · exact Msg.map_ok h
def keepB (p : Pol) (M : Nat → Nat) (e : Int) (m : Msg) : Bool := subB (asIt M e m).used (capsN p (asIt M e m).role (asIt M e m).s (asIt M e m).i)
/-- What tells that a message was let go. -/
def evR (o : Ob) (e : Int) (x : Msg) : List PV := [.int .i64 4, .int .u16 x.s, .int .u16 x.i, .int .u16 o.ls, .int .u16 o.li, .int .i64 e, .int .i64 x.role, .int .u16 x.s, .int .u16 x.i, .int .u16 x.used]
def evsL (p : Pol) (M : Nat → Nat) (e : Int) (o : Ob) (l : List Msg) : List (List PV) := (l.filter (keepB p M e)).map fun m => evR o e (asIt M e m)
def Ob.let_ (o : Ob) (k : Msg → Bool) : Ob := { o with bx := o.bx.letK k }
theorem evs_len (p : Pol) (M : Nat → Nat) (e : Int) (o : Ob) (l : List Msg) : (evsL p M e o l).length ≤ l.length := by
  rw [evsL, List.length_map]; exact List.length_filter_le _ _
theorem evs_step (p : Pol) (M : Nat → Nat) (e : Int) (o : Ob) {l : List Msg} {i : Nat} (h : i < l.length) : evsL p M e o (l.take (i + 1)) = evsL p M e o (l.take i) ++ if keepB p M e l[i] then [evR o e (asIt M e l[i])] else [] := by
  rw [List.take_succ_eq_append_getElem h, evsL, List.filter_append, List.map_append]
  congr 1
  rw [List.filter_cons]
  split
  · rfl
  · rfl
theorem app_ev {n : Nat} {es : List (List PV)} {r : List PV} (h1 : n = es.length) (h2 : es.length ≤ 100000) (h3 : r.length = 10) : (true && decide (n = es.length ∧ 10 = 10 ∧ (n + [r].length) * 40 ≤ 2 ^ 47 ∧ n + [r].length < 2 ^ 62) && [r].all fun r => r.length == 10) = true := by
  rw [Bool.and_eq_true, Bool.and_eq_true]
  exact ⟨⟨rfl, decide_eq_true ⟨h1, rfl, by show (n + 1) * 40 ≤ _; omega, by show n + 1 < _; omega⟩⟩, by simp [h3]⟩
def zeroO : List C := [.p (.int .u16 0), .p (.int .u16 0), .p (.int .i64 0), .p (.int .i64 0), .p (.int .u16 0), .p (.int .u16 0), .p (.int .i64 0), .p (.bool false), .p (.int .u16 0), .p (.int .u16 0), .p (.int .i64 0), .p (.str []), .p (.bool false), .p (.int .i64 0), .nils, .nils, .nils]
end Go.Ab.S
