/- What the program does with mailboxes: putting, taking, each. No condition. What the program does with mailboxes: letting go. No condition. -/
import Derived.Test.YtmohadlgjokgmaaLK5
import Derived.Test.YtmohadlgjokgmaaFwH
set_option linter.unusedSimpArgs false
set_option linter.unusedVariables false
namespace Go.Ab.S
open Go Go.Ab Go.Proofs
attribute [local irreducible] SemS
set_option maxRecDepth 100000
def putR (b : Bx) (m : Msg) : Bx × Int := if 8 ≤ b.len ∨ 2147483647 ≤ b.next then (Bx.emp, 12) else (b.put m, 0)
def takeR (b : Bx) : Bx := if b.q = [] then Bx.emp else b.take
/-- Some messages done, the others as they were. -/
def part (f : Msg → Msg) (q : List Msg) (i : Nat) : List Msg := (q.take i).map f ++ q.drop i
/-- A function value that is handed over: what it does to a message, its own blocks left as they are. -/
def FnM (g : FuncId) (caps : List Id) (bs : List Blk) (m : Msg) (v : AV) : Prop := ∀ ls, EvR PR G g ([.agg m.row] ++ caps.map fun i => .c (.ptr i 0)) ⟨bs, ls⟩ v ⟨bs, ls⟩
end Go.Ab.S

namespace Go.Ab.S
open Go Go.Ab Go.Proofs
attribute [local irreducible] SemS
set_option maxRecDepth 100000
/-- A function value that tells which messages are kept; its own blocks may turn with each. -/
def FnK (g : FuncId) (caps : List Id) (bs : Nat → List Blk) (a : List Msg) (k : Msg → Bool) : Prop := ∀ i (h : i < a.length), ∀ ls, EvR PR G g ([.agg a[i].row] ++ caps.map fun i => .c (.ptr i 0)) ⟨bs i, ls⟩ (bv (k a[i])) ⟨bs (i + 1), ls⟩
def letH (g : FuncId) (caps : List Id) (bs : List Blk) (n : Int) (q a h l1 l2 : List Msg) : Hp :=
  ⟨bs, [.row [.int .i64 n, .sl (msgs q), .sl (msgs a), .sl (msgs h)], .mrow [.fn g caps], .mrow [.p (.int .i64 0), .nils, .nils, .nils], .mrow [.os (.loc 5) l1.length], .mrow [.os (.loc 6) l2.length], .arr 7 false (msgs l1), .arr 7 false (msgs l2)]⟩
end Go.Ab.S
