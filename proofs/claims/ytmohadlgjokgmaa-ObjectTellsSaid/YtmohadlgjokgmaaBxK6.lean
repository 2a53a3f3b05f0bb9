/- What the program does with mailboxes: putting, taking, each. No condition. -/
import Derived.Test.YtmohadlgjokgmaaBxK5
import Derived.Test.YtmohadlgjokgmaaFwH
set_option linter.unusedSimpArgs false
set_option linter.unusedVariables false
namespace Go.Ab.S
open Go Go.Ab Go.Proofs
attribute [local irreducible] SemS
set_option maxRecDepth 100000
def putR (b : Bx) (m : Msg) : Bx × Int := if 8 ≤ b.len ∨ 2147483647 ≤ b.next then (Bx.emp, 12) else (b.put m, 0)
def takeR (b : Bx) : Bx := if b.q = [] then Bx.emp else b.take
theorem get_at {A B : List Msg} {m : Msg} {i : Nat} (h : A.length = i) : (msgs (A ++ m :: B))[i]? = some m.row := by subst h; exact get_mid
theorem set_at {A B : List Msg} {m x : Msg} {i : Nat} (h : A.length = i) : (msgs (A ++ m :: B)).set i x.row = msgs (A ++ x :: B) := by subst h; exact set_mid
/-- Some messages done, the others as they were. -/
def part (f : Msg → Msg) (q : List Msg) (i : Nat) : List Msg := (q.take i).map f ++ q.drop i
theorem part_len {f : Msg → Msg} {q : List Msg} {i : Nat} : (part f q i).length = q.length := by simp only [part, List.length_append, List.length_map, List.length_take, List.length_drop]; omega
theorem part_at {f : Msg → Msg} {q : List Msg} {i : Nat} (h : i < q.length) : ∃ A B, A.length = i ∧ part f q i = A ++ q[i] :: B ∧ part f q (i + 1) = A ++ f q[i] :: B := by
  refine ⟨(q.take i).map f, q.drop (i + 1), by simp; omega, ?_, ?_⟩
  · rw [part, List.drop_eq_getElem_cons h]
  · rw [part, List.take_succ_eq_append_getElem h, List.map_append, List.append_assoc]; rfl
/-- A function value that is handed over: what it does to a message, its own blocks left as they are. -/
def FnM (g : FuncId) (caps : List Id) (bs : List Blk) (m : Msg) (v : AV) : Prop := ∀ ls, EvR PR G g ([.agg m.row] ++ caps.map fun i => .c (.ptr i 0)) ⟨bs, ls⟩ v ⟨bs, ls⟩
end Go.Ab.S
