/- Messages are taken in the order in which they were put. No condition. What was set aside, and let, or not, and restored, waits as if nothing had been. No condition. The document's mailboxes. No condition. -/
import Derived.Test.YtidmpmdhgiopgaaDoorLK9
set_option linter.unusedSimpArgs false
set_option linter.unusedVariables false
namespace Go.Ab.S
open Go Go.Ab Go.Proofs
attribute [local irreducible] SemS
set_option maxRecDepth 100000
def strsR (l : List (List UInt8)) : List (List PV) := l.map fun s => [.str s]
def smsg (s : List UInt8) : Msg := ⟨0, 0, 0, 0, 0, 0, s⟩
/-- A mailbox in which all wait. -/
def qbox (n : Nat) (q : List Msg) : Bx := ⟨n, q, [], []⟩
def ordT (l : List (List UInt8)) (i : Nat) (w g : List (List UInt8)) : Tm := [(6, iv i), (4, .c (.os (.loc 1) w.length)), (5, .c (.os (.loc 2) g.length)), (3, .c (.ptr (.loc 0) 0)), (0, slv (strsR l))]
def ordH (n : Nat) (q : List Msg) (w g : List (List UInt8)) : Hp := ⟨[], [.row [.int .i64 n, .sl (msgs q), .sl [], .sl []], .arr 1 false (strsR w), .arr 1 false (strsR g)]⟩
end Go.Ab.S

namespace Go.Ab.S
open Go Go.Ab Go.Proofs
attribute [local irreducible] SemS
set_option maxRecDepth 100000
def rmsg (i : Nat) (s : List UInt8) : Msg := ⟨0, 0, 0, 0, (i : Int).tmod 4, 0, s⟩
def resT (l : List (List UInt8)) (more : List UInt8) (n : Int) (lt : Bool) (i : Nat) : Tm := [(11, iv i), (9, .c (.ptr (.loc 1) 0)), (10, .c (.ptr (.loc 2) 0)), (6, .c (.ptr (.loc 0) 0)), (0, slv (strsR l)), (1, .c (.p (.str more))), (3, bv lt)]
def bxr (b : Bx) : Blk := .row [.int .i64 b.next, .sl (msgs b.q), .sl (msgs b.a), .sl (msgs b.h)]
def resH (n : Int) (b c : Bx) : Hp := ⟨[], [.row [.int .i64 n], bxr b, bxr c]⟩
/-- What the mailbox comes to that was set aside and let. -/
def letB (lt : Bool) (n : Int) (b : Bx) : Bx := if lt then b.aside.letK (fun m => decide (m.role = n)) else b.aside
theorem let_perm (b : Bx) (k : Msg → Bool) : (b.letK k).all.Perm b.all := by
  show (isort (b.q ++ b.a.filter k) ++ [] ++ isort (b.h ++ b.a.filter fun m => !k m)).Perm (b.q ++ b.a ++ b.h)
  rw [List.append_nil, List.append_assoc]
  refine ((isort_perm _).append (isort_perm _)).trans ?_
  rw [List.append_assoc]
  refine List.Perm.append_left b.q ?_
  refine (List.Perm.append_left (b.a.filter k) List.perm_append_comm).trans ?_
  rw [← List.append_assoc]
  exact (List.filter_append_perm k b.a).append_right b.h
theorem put_all (b : Bx) (m : Msg) : (b.put m).all.Perm ({ m with no := b.next } :: b.all) := by
  show (b.q ++ [{ m with no := b.next }] ++ b.a ++ b.h).Perm (_ :: (b.q ++ b.a ++ b.h))
  rw [List.append_assoc, List.append_assoc, List.append_assoc]
  exact List.perm_middle
end Go.Ab.S

namespace Go.Ab.S
open Go Go.Ab Go.Proofs
attribute [local irreducible] SemS
set_option maxRecDepth 100000
end Go.Ab.S
