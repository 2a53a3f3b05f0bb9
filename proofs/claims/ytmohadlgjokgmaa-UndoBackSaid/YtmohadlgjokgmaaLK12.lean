/- Messages are taken in the order in which they were put. No condition. What was set aside, and let, or not, and restored, waits as if nothing had been. No condition. The document's mailboxes. No condition. -/
import Derived.Test.YtmohadlgjokgmaaLK9
set_option linter.unusedSimpArgs false
set_option linter.unusedVariables false
namespace Go.Ab.S
open Go Go.Ab Go.Proofs
attribute [local irreducible] SemS
set_option maxRecDepth 100000
def strsR (l : List (List UInt8)) : List (List PV) := l.map fun s => [.str s]
def smsg (s : List UInt8) : Msg := ⟨0, 0, 0, 0, 0, 0, s⟩
/-- A mailbox in which all wait. -/
def qbox (n : Nat) (q : List Msg) : Bx := ⟨n, q, [], []⟩
def ordT (l : List (List UInt8)) (i : Nat) (w g : List (List UInt8)) : Tm := [(6, iv i), (4, .c (.os (.loc 1) w.length)), (5, .c (.os (.loc 2) g.length)), (3, .c (.ptr (.loc 0) 0)), (0, slv (strsR l))]
def ordH (n : Nat) (q : List Msg) (w g : List (List UInt8)) : Hp := ⟨[], [.row [.int .i64 n, .sl (msgs q), .sl [], .sl []], .arr 1 false (strsR w), .arr 1 false (strsR g)]⟩
end Go.Ab.S

namespace Go.Ab.S
open Go Go.Ab Go.Proofs
attribute [local irreducible] SemS
set_option maxRecDepth 100000
theorem back1 {r0 : List PV} {ls : List Blk} : backH [.par 0] ⟨[.row r0], ls⟩ ⟨[.row r0], []⟩ = ⟨[.row r0], ls⟩ := by
  show (⟨[.row r0], ls ++ []⟩ : Hp) = _; rw [List.append_nil]
theorem fnM1 {g : FuncId} {r0 : List PV} {m : Msg} {cs : List PV} (h : EvR PR G g [.agg m.row, .c (.ptr (.par 0) 0)] ⟨[.row r0], []⟩ (.agg cs) ⟨[.row r0], []⟩) : FnM g [.par 0] [.row r0] m (.agg cs) := fun ls => by
  have := EvR.fr (H := ⟨[.row r0], ls⟩) [.par 0] h rfl rfl ⟨rfl, trivial⟩ rfl
  rw [back1] at this
  exact this
def rmsg (i : Nat) (s : List UInt8) : Msg := ⟨0, 0, 0, 0, (i : Int).tmod 4, 0, s⟩
def resT (l : List (List UInt8)) (more : List UInt8) (n : Int) (lt : Bool) (i : Nat) : Tm := [(11, iv i), (9, .c (.ptr (.loc 1) 0)), (10, .c (.ptr (.loc 2) 0)), (6, .c (.ptr (.loc 0) 0)), (0, slv (strsR l)), (1, .c (.p (.str more))), (3, bv lt)]
def bxr (b : Bx) : Blk := .row [.int .i64 b.next, .sl (msgs b.q), .sl (msgs b.a), .sl (msgs b.h)]
def resH (n : Int) (b c : Bx) : Hp := ⟨[], [.row [.int .i64 n], bxr b, bxr c]⟩
/-- What the mailbox comes to that was set aside and let. -/
def letB (lt : Bool) (n : Int) (b : Bx) : Bx := if lt then b.aside.letK (fun m => decide (m.role = n)) else b.aside
theorem aside_perm (b : Bx) : b.aside.all.Perm b.all := by
  show ([] ++ isort (b.a ++ b.q) ++ b.h).Perm (b.q ++ b.a ++ b.h)
  exact ((isort_perm _).trans List.perm_append_comm).append_right _
theorem let_perm (b : Bx) (k : Msg → Bool) : (b.letK k).all.Perm b.all := by
  show (isort (b.q ++ b.a.filter k) ++ [] ++ isort (b.h ++ b.a.filter fun m => !k m)).Perm (b.q ++ b.a ++ b.h)
  rw [List.append_nil, List.append_assoc]
  refine ((isort_perm _).append (isort_perm _)).trans ?_
  rw [List.append_assoc]
  refine List.Perm.append_left b.q ?_
  refine (List.Perm.append_left (b.a.filter k) List.perm_append_comm).trans ?_
  rw [← List.append_assoc]
  exact (List.filter_append_perm k b.a).append_right b.h
theorem put_all (b : Bx) (m : Msg) : (b.put m).all.Perm ({ m with no := b.next } :: b.all) := by
  show (b.q ++ [{ m with no := b.next }] ++ b.a ++ b.h).Perm (_ :: (b.q ++ b.a ++ b.h))
  rw [List.append_assoc, List.append_assoc, List.append_assoc]
  exact List.perm_middle
end Go.Ab.S

namespace Go.Ab.S
open Go Go.Ab Go.Proofs
attribute [local irreducible] SemS
set_option maxRecDepth 100000
theorem R23_SetAside_ok (b : Bx) (hg : b.Good) : EvP PR G f_R23_SetAside [.agg b.row] (.agg b.aside.row) := by
  have h0 := hg.aside_both
  have hl := hg.len
  have h1 := R23_Both_ok b.a b.q (by simp only [Bx.len] at hl; omega)
  rw [h0] at h1
  obtain ⟨n, q, a, h⟩ := b
  dsimp only at h1
  refine EvP.of_wpf true hm c_R23_SetAside rfl ?_
  conv => whnf
  repeat' ((first | refine brP_t (by assumption) ?_ | refine brP_f (by assumption) ?_ | refine brP_t (decide_eq_true (by omega)) ?_ | refine brP_f (decide_eq_false (by omega)) ?_ | refine brP_t (nd_t (by omega)) ?_ | refine brP_f (nd_f (by omega)) ?_ | refine callK_p h1 ?_ | refine callM_p h1 rfl ?_ | refine callK_pf rfl h1 ?_ | refine wpfS_seq1 ?_ | refine wpfS_go ?_ | fail) <;> conv => whnf)
  rfl
set_option maxHeartbeats 1000000 in
theorem R23_Put_ok (b : Bx) (m : Msg) (hg : b.Good) : EvP PR G f_R23_Put [.agg b.row, .agg m.row] (.tup [.agg (putR b m).1.row, iv (putR b m).2]) := by
  have hins := hg.put_ins m
  have hl := hg.len
  have hlo := hg.lo
  have hhi := hg.hi
  have hlen : b.len = b.q.length + b.a.length + b.h.length := rfl
  have hput : putR b m = if 8 ≤ b.len ∨ 2147483647 ≤ b.next then (Bx.emp, 12) else (b.put m, 0) := rfl
  have c1 := R23_in_ok b.q { m with no := b.next } (by omega)
  rw [hins] at c1
  obtain ⟨n, q, a, h⟩ := b
  obtain ⟨no, ep, s, i', role, used, data⟩ := m
  dsimp only at *
  have hql := msgs_len (l := q)
  have hal := msgs_len (l := a)
  have hhl := msgs_len (l := h)
  have w1 : IntKind.i64.wrap ((q.length : Int) + (a.length : Int)) = ((q.length + a.length : Nat) : Int) := by rw [wrap64 (by omega)]; rfl
  have w2 : IntKind.i64.wrap (((q.length + a.length : Nat) : Int) + (h.length : Int)) = ((q.length + a.length + h.length : Nat) : Int) := by rw [wrap64 (by omega)]; rfl
  rw [hput]
  refine EvP.of_wpf false hm c_R23_Put rfl ?_
  show wpf _ _ _ _ _ (argsT 0 [.agg [.int .i64 n, .sl (msgs q), .sl (msgs a), .sl (msgs h)], .agg [.int .i64 no, .int .i64 ep, .int .u16 s, .int .u16 i', .int .i64 role, .int .u16 used, .str data]]) _ _
  conv => whnf
  by_cases h1 : 8 ≤ (Bx.mk n q a h).len
  · rw [if_pos (.inl h1)]
    rw [hlen] at h1
    repeat' ((first | refine brP_t (by assumption) ?_ | refine brP_f (by assumption) ?_ | refine brP_t (decide_eq_true (by omega)) ?_ | refine brP_f (decide_eq_false (by omega)) ?_ | refine brP_t (nd_t (by omega)) ?_ | refine brP_f (nd_f (by omega)) ?_ | ((rw [hql])) | ((rw [hal])) | ((rw [hhl])) | ((rw [w1])) | ((rw [w2])) | refine wpfS_seq1 ?_ | refine wpfS_go ?_ | fail) <;> conv => whnf)
    rfl
  · rw [hlen] at h1
    by_cases h2 : 2147483647 ≤ n
    · rw [if_pos (.inr h2)]
      have : n = 2147483647 := by omega
      repeat' ((first | refine brP_t (by assumption) ?_ | refine brP_f (by assumption) ?_ | refine brP_t (decide_eq_true (by omega)) ?_ | refine brP_f (decide_eq_false (by omega)) ?_ | refine brP_t (nd_t (by omega)) ?_ | refine brP_f (nd_f (by omega)) ?_ | ((rw [hql])) | ((rw [hal])) | ((rw [hhl])) | ((rw [w1])) | ((rw [w2])) | refine wpfS_seq1 ?_ | refine wpfS_go ?_ | fail) <;> conv => whnf)
      rfl
    · rw [if_neg (by rw [hlen]; omega)]
      have hw : IntKind.i64.wrap (n + 1) = n + 1 := wrap64 (by omega)
      repeat' ((first | refine brP_t (by assumption) ?_ | refine brP_f (by assumption) ?_ | refine brP_t (decide_eq_true (by omega)) ?_ | refine brP_f (decide_eq_false (by omega)) ?_ | refine brP_t (nd_t (by omega)) ?_ | refine brP_f (nd_f (by omega)) ?_ | ((rw [hql])) | ((rw [hal])) | ((rw [hhl])) | ((rw [w1])) | ((rw [w2])) | refine callK_p c1 ?_ | refine callM_p c1 rfl ?_ | refine callK_pf rfl c1 ?_ | ((rw [hw])) | refine wpfS_seq1 ?_ | refine wpfS_go ?_ | fail) <;> conv => whnf)
      rfl
end Go.Ab.S
