/- Messages are taken in the order in which they were put. No condition. What was set aside, and let, or not, and restored, waits as if nothing had been. No condition. The document's mailboxes. No condition. -/
import Derived.Test.YtmohadlgjokgmaaBxK9
set_option linter.unusedSimpArgs false
set_option linter.unusedVariables false
namespace Go.Ab.S
open Go Go.Ab Go.Proofs
attribute [local irreducible] SemS
set_option maxRecDepth 100000
/-- An empty mailbox that one has laid. -/
theorem weak_bx0 (H : Hp) (id : Id) (hg : H.get id = some (.mrow [.p (.int .i64 0), .nils, .nils, .nils])) : Weak H (H.set id (.row [.int .i64 0, .sl [], .sl [], .sl []])) := @Weak.row H H id _ _ [.int .i64 0, .sl [], .sl [], .sl []] hg rfl hg rfl
def strsR (l : List (List UInt8)) : List (List PV) := l.map fun s => [.str s]
theorem strsR_len {l : List (List UInt8)} : (strsR l).length = l.length := by simp [strsR]
theorem strsR_get {l : List (List UInt8)} {i : Nat} (h : i < l.length) : (strsR l)[i]? = some [.str l[i]] := by rw [strsR, List.getElem?_map, List.getElem?_eq_getElem h]; rfl
theorem strsR_snoc (l : List (List UInt8)) (s : List UInt8) : strsR (l ++ [s]) = strsR l ++ [[.str s]] := by simp [strsR]
theorem app_ok1 {n : Nat} {es new : List (List PV)} (h1 : n = es.length) (h2 : es.length + new.length ≤ 100000) (h3 : (new.all fun r => r.length == 1) = true) : (true && decide (n = es.length ∧ 1 = 1 ∧ (n + new.length) * 16 ≤ 2 ^ 47 ∧ n + new.length < 2 ^ 62) && new.all fun r => r.length == 1) = true := by
  rw [h3, Bool.and_true, Bool.true_and]
  exact decide_eq_true ⟨h1, rfl, by omega, by omega⟩
def smsg (s : List UInt8) : Msg := ⟨0, 0, 0, 0, 0, 0, s⟩
/-- A mailbox in which all wait. -/
def qbox (n : Nat) (q : List Msg) : Bx := ⟨n, q, [], []⟩
theorem qbox_len (n : Nat) (q : List Msg) : (qbox n q).len = q.length := by simp [qbox, Bx.len]
theorem put_q {n : Nat} {q : List Msg} {m : Msg} (hq : q.length < 8) (hn : n ≤ 1000) : putR (qbox n q) m = (qbox (n + 1) (q ++ [{ m with no := n }]), 0) := by
  unfold putR
  rw [qbox_len, if_neg (by show ¬ (8 ≤ q.length ∨ 2147483647 ≤ (n : Int)); omega)]
  rfl
theorem put_full {n : Nat} {q : List Msg} {m : Msg} (hq : 8 ≤ q.length) : putR (qbox n q) m = (Bx.emp, 12) := by
  unfold putR
  rw [qbox_len, if_pos (.inl hq)]
theorem take_q {n : Nat} {q1 q : List Msg} {m : Msg} (h : q1 = m :: q) (hq : q1.length ≤ 1000) : EvP PR G f_box_Take [.agg (qbox n q1).row] (.tup [.agg (qbox n q).row, .agg m.row, iv 0]) := by
  subst h
  have := box_Take_ok (qbox n (m :: q)) hq
  have e1 : takeR (qbox n (m :: q)) = qbox n q := by unfold takeR; rw [if_neg (by simp [qbox])]; rfl
  have e2 : (if (qbox n (m :: q)).q = [] then (13 : Int) else 0) = 0 := if_neg (by simp [qbox])
  rw [e1, e2] at this
  exact this
def ordT (l : List (List UInt8)) (i : Nat) (w g : List (List UInt8)) : Tm := [(6, iv i), (4, .c (.os (.loc 1) w.length)), (5, .c (.os (.loc 2) g.length)), (3, .c (.ptr (.loc 0) 0)), (0, slv (strsR l))]
def ordH (n : Nat) (q : List Msg) (w g : List (List UInt8)) : Hp := ⟨[], [.row [.int .i64 n, .sl (msgs q), .sl [], .sl []], .arr 1 false (strsR w), .arr 1 false (strsR g)]⟩
theorem strs_of : ∀ {es : List (List PV)}, (∀ r ∈ es, r.length = 1 ∧ wt .str r) → ∃ l : List (List UInt8), es = strsR l
  | [], _ => ⟨[], rfl⟩
  | r :: es, h => by
    obtain ⟨l, rfl⟩ := strs_of fun q hq => h q (List.mem_cons_of_mem _ hq)
    obtain ⟨-, s, rfl, -⟩ := h r List.mem_cons_self
    exact ⟨s :: l, rfl⟩
end Go.Ab.S

namespace Go.Ab.S
open Go Go.Ab Go.Proofs
attribute [local irreducible] SemS
set_option maxRecDepth 100000
theorem back1 {r0 : List PV} {ls : List Blk} : backH [.par 0] ⟨[.row r0], ls⟩ ⟨[.row r0], []⟩ = ⟨[.row r0], ls⟩ := by
  show (⟨[.row r0], ls ++ []⟩ : Hp) = _; rw [List.append_nil]
theorem fnK1 {g : FuncId} {r0 : List PV} {a : List Msg} {k : Msg → Bool} (h : ∀ m ∈ a, EvR PR G g [.agg m.row, .c (.ptr (.par 0) 0)] ⟨[.row r0], []⟩ (bv (k m)) ⟨[.row r0], []⟩) : FnK g [.par 0] (fun _ => [.row r0]) a k := fun i hi ls => by
  have := EvR.fr (H := ⟨[.row r0], ls⟩) [.par 0] (h _ (List.getElem_mem hi)) rfl rfl ⟨rfl, trivial⟩ rfl
  rw [back1] at this
  exact this
theorem fnM1 {g : FuncId} {r0 : List PV} {m : Msg} {cs : List PV} (h : EvR PR G g [.agg m.row, .c (.ptr (.par 0) 0)] ⟨[.row r0], []⟩ (.agg cs) ⟨[.row r0], []⟩) : FnM g [.par 0] [.row r0] m (.agg cs) := fun ls => by
  have := EvR.fr (H := ⟨[.row r0], ls⟩) [.par 0] h rfl rfl ⟨rfl, trivial⟩ rfl
  rw [back1] at this
  exact this
def rmsg (i : Nat) (s : List UInt8) : Msg := ⟨0, 0, 0, 0, (i : Int).tmod 4, 0, s⟩
theorem tmod4 (i : Nat) : 0 ≤ (i : Int).tmod 4 ∧ (i : Int).tmod 4 < 4 := by
  rw [Int.tmod_eq_emod_of_nonneg (Int.natCast_nonneg i)]; omega
def resT (l : List (List UInt8)) (more : List UInt8) (n : Int) (lt : Bool) (i : Nat) : Tm := [(11, iv i), (9, .c (.ptr (.loc 1) 0)), (10, .c (.ptr (.loc 2) 0)), (6, .c (.ptr (.loc 0) 0)), (0, slv (strsR l)), (1, .c (.p (.str more))), (3, bv lt)]
def bxr (b : Bx) : Blk := .row [.int .i64 b.next, .sl (msgs b.q), .sl (msgs b.a), .sl (msgs b.h)]
def resH (n : Int) (b c : Bx) : Hp := ⟨[], [.row [.int .i64 n], bxr b, bxr c]⟩
/-- What the mailbox comes to that was set aside and let. -/
def letB (lt : Bool) (n : Int) (b : Bx) : Bx := if lt then b.aside.letK (fun m => decide (m.role = n)) else b.aside
theorem letB_next {lt : Bool} {n : Int} {b : Bx} : (letB lt n b).next = b.next := by cases lt <;> rfl
theorem letB_good {lt : Bool} {n : Int} {b : Bx} (h : b.Good) : (letB lt n b).Good := by
  cases lt
  · exact h.aside
  · exact h.aside.letK _
theorem aside_perm (b : Bx) : b.aside.all.Perm b.all := by
  show ([] ++ isort (b.a ++ b.q) ++ b.h).Perm (b.q ++ b.a ++ b.h)
  exact ((isort_perm _).trans List.perm_append_comm).append_right _
theorem let_perm (b : Bx) (k : Msg → Bool) : (b.letK k).all.Perm b.all := by
  show (isort (b.q ++ b.a.filter k) ++ [] ++ isort (b.h ++ b.a.filter fun m => !k m)).Perm (b.q ++ b.a ++ b.h)
  rw [List.append_nil, List.append_assoc]
  refine ((isort_perm _).append (isort_perm _)).trans ?_
  rw [List.append_assoc]
  refine List.Perm.append_left b.q ?_
  refine (List.Perm.append_left (b.a.filter k) List.perm_append_comm).trans ?_
  rw [← List.append_assoc]
  exact (List.filter_append_perm k b.a).append_right b.h
theorem letB_perm (lt : Bool) (n : Int) (b : Bx) : (letB lt n b).all.Perm b.all := by
  cases lt
  · exact aside_perm b
  · exact (let_perm _ _).trans (aside_perm b)
theorem put_all (b : Bx) (m : Msg) : (b.put m).all.Perm ({ m with no := b.next } :: b.all) := by
  show (b.q ++ [{ m with no := b.next }] ++ b.a ++ b.h).Perm (_ :: (b.q ++ b.a ++ b.h))
  rw [List.append_assoc, List.append_assoc, List.append_assoc]
  exact List.perm_middle
/-- All wait again. -/
theorem restore_of {b : Bx} {n : Nat} {q : List Msg} (hq : (qbox n q).Good) (hn : b.next = n) (p : b.all.Perm q) : b.restore = qbox n q := by
  have hd : Dif q := hq.q.dif
  have e : isort b.all = q := (isort_congr (hd.perm p.symm) p).trans (isort_of_str hq.q)
  show Bx.mk b.next (isort b.all) [] [] = _
  rw [e, hn]; rfl
theorem putR_lt {b : Bx} {m : Msg} (h1 : b.len < 8) (h2 : b.next < 2147483647) : putR b m = (b.put m, 0) := by
  unfold putR; rw [if_neg (by omega)]
end Go.Ab.S

namespace Go.Ab.S
open Go Go.Ab Go.Proofs
attribute [local irreducible] SemS
set_option maxRecDepth 100000
end Go.Ab.S
