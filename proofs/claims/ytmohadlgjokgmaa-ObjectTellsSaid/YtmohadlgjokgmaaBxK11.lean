/- What was set aside, and let, or not, and restored, waits as if nothing had been. No condition. -/
import Derived.Test.YtmohadlgjokgmaaBxK10
set_option linter.unusedSimpArgs false
set_option linter.unusedVariables false
namespace Go.Ab.S
open Go Go.Ab Go.Proofs
attribute [local irreducible] SemS
set_option maxRecDepth 100000
theorem back1 {r0 : List PV} {ls : List Blk} : backH [.par 0] ⟨[.row r0], ls⟩ ⟨[.row r0], []⟩ = ⟨[.row r0], ls⟩ := by
  show (⟨[.row r0], ls ++ []⟩ : Hp) = _; rw [List.append_nil]
theorem fnK1 {g : FuncId} {r0 : List PV} {a : List Msg} {k : Msg → Bool} (h : ∀ m ∈ a, EvR PR G g [.agg m.row, .c (.ptr (.par 0) 0)] ⟨[.row r0], []⟩ (bv (k m)) ⟨[.row r0], []⟩) : FnK g [.par 0] (fun _ => [.row r0]) a k := fun i hi ls => by
  have := EvR.fr (H := ⟨[.row r0], ls⟩) [.par 0] (h _ (List.getElem_mem hi)) rfl rfl ⟨rfl, trivial⟩ rfl
  rw [back1] at this
  exact this
theorem fnM1 {g : FuncId} {r0 : List PV} {m : Msg} {cs : List PV} (h : EvR PR G g [.agg m.row, .c (.ptr (.par 0) 0)] ⟨[.row r0], []⟩ (.agg cs) ⟨[.row r0], []⟩) : FnM g [.par 0] [.row r0] m (.agg cs) := fun ls => by
  have := EvR.fr (H := ⟨[.row r0], ls⟩) [.par 0] h rfl rfl ⟨rfl, trivial⟩ rfl
  rw [back1] at this
  exact this
def rmsg (i : Nat) (s : List UInt8) : Msg := ⟨0, 0, 0, 0, (i : Int).tmod 4, 0, s⟩
theorem tmod4 (i : Nat) : 0 ≤ (i : Int).tmod 4 ∧ (i : Int).tmod 4 < 4 := by
  rw [Int.tmod_eq_emod_of_nonneg (Int.natCast_nonneg i)]; omega
def resT (l : List (List UInt8)) (more : List UInt8) (n : Int) (lt : Bool) (i : Nat) : Tm := [(11, iv i), (9, .c (.ptr (.loc 1) 0)), (10, .c (.ptr (.loc 2) 0)), (6, .c (.ptr (.loc 0) 0)), (0, slv (strsR l)), (1, .c (.p (.str more))), (3, bv lt)]
def bxr (b : Bx) : Blk := .row [.int .i64 b.next, .sl (msgs b.q), .sl (msgs b.a), .sl (msgs b.h)]
def resH (n : Int) (b c : Bx) : Hp := ⟨[], [.row [.int .i64 n], bxr b, bxr c]⟩
/-- What the mailbox comes to that was set aside and let. -/
def letB (lt : Bool) (n : Int) (b : Bx) : Bx := if lt then b.aside.letK (fun m => decide (m.role = n)) else b.aside
theorem letB_next {lt : Bool} {n : Int} {b : Bx} : (letB lt n b).next = b.next := by cases lt <;> rfl
theorem letB_good {lt : Bool} {n : Int} {b : Bx} (h : b.Good) : (letB lt n b).Good := by
  cases lt
  · exact h.aside
  · exact h.aside.letK _
theorem aside_perm (b : Bx) : b.aside.all.Perm b.all := by
  show ([] ++ isort (b.a ++ b.q) ++ b.h).Perm (b.q ++ b.a ++ b.h)
  exact ((isort_perm _).trans List.perm_append_comm).append_right _
theorem let_perm (b : Bx) (k : Msg → Bool) : (b.letK k).all.Perm b.all := by
  show (isort (b.q ++ b.a.filter k) ++ [] ++ isort (b.h ++ b.a.filter fun m => !k m)).Perm (b.q ++ b.a ++ b.h)
  rw [List.append_nil, List.append_assoc]
  refine ((isort_perm _).append (isort_perm _)).trans ?_
  rw [List.append_assoc]
  refine List.Perm.append_left b.q ?_
  refine (List.Perm.append_left (b.a.filter k) List.perm_append_comm).trans ?_
  rw [← List.append_assoc]
  exact (List.filter_append_perm k b.a).append_right b.h
theorem letB_perm (lt : Bool) (n : Int) (b : Bx) : (letB lt n b).all.Perm b.all := by
  cases lt
  · exact aside_perm b
  · exact (let_perm _ _).trans (aside_perm b)
theorem put_all (b : Bx) (m : Msg) : (b.put m).all.Perm ({ m with no := b.next } :: b.all) := by
  show (b.q ++ [{ m with no := b.next }] ++ b.a ++ b.h).Perm (_ :: (b.q ++ b.a ++ b.h))
  rw [List.append_assoc, List.append_assoc, List.append_assoc]
  exact List.perm_middle
/-- All wait again. -/
theorem restore_of {b : Bx} {n : Nat} {q : List Msg} (hq : (qbox n q).Good) (hn : b.next = n) (p : b.all.Perm q) : b.restore = qbox n q := by
  have hd : Dif q := hq.q.dif
  have e : isort b.all = q := (isort_congr (hd.perm p.symm) p).trans (isort_of_str hq.q)
  show Bx.mk b.next (isort b.all) [] [] = _
  rw [e, hn]; rfl
theorem putR_lt {b : Bx} {m : Msg} (h1 : b.len < 8) (h2 : b.next < 2147483647) : putR b m = (b.put m, 0) := by
  unfold putR; rw [if_neg (by omega)]
end Go.Ab.S
