/- Objects: which are the same. No condition. Objects: the program's word on which may be. No condition. -/
import Derived.Test.YtidmpmdhgiopgaaDoorLO1
set_option linter.unusedSimpArgs false
set_option linter.unusedVariables false
namespace Go.Ab.S
open Go Go.Ab Go.Proofs
attribute [local irreducible] SemS
set_option maxRecDepth 100000
theorem ob_eq (a b : Ob) : ((decide ((a.ids : Int) = b.ids) && (decide ((a.idi : Int) = b.idi) && (decide (a.k = b.k) && (decide (a.n = b.n) && true)))) && ((decide ((a.ls : Int) = b.ls) && (decide ((a.li : Int) = b.li) && true)) && (decide (a.stamp = b.stamp) && (decide (a.swept = b.swept) && ((decide ((a.ws : Int) = b.ws) && (decide ((a.wi : Int) = b.wi) && true)) && (decide (a.role = b.role) && (decide (a.buf = b.buf) && (decide (a.dead = b.dead) && decide (a.bx = b.bx))))))))) = decide (a = b) := by
  obtain ⟨a1, a2, a3, a4, a5, a6, a7, a8, a9, a10, a11, a12, a13, a14⟩ := a
  obtain ⟨b1, b2, b3, b4, b5, b6, b7, b8, b9, b10, b11, b12, b13, b14⟩ := b
  rw [Bool.eq_iff_iff]
  simp only [Bool.and_eq_true, decide_eq_true_eq, and_true, Ob.mk.injEq, Int.ofNat_inj]
  constructor
  · intro h; simp_all
  · intro h; simp_all
set_option maxHeartbeats 8000000 in
theorem R25_Same_ok (a b : Ob) (hl : a.Lim) : EvP PR G f_R25_Same [.agg a.row, .agg b.row] (bv (decide (a = b))) := by
  have hbl := hl.bx
  have hlen : a.bx.len = a.bx.q.length + a.bx.a.length + a.bx.h.length := rfl
  have c1 := R23_Same_ok a.bx b.bx (by omega) (by omega) (by omega)
  have hd := ob_eq a b
  rw [← hd]
  clear hd hbl hlen hl
  obtain ⟨ids, idi, k, n, ls, li, st, sw, ws, wi, role, buf, dead, bx⟩ := a
  obtain ⟨ids', idi', k', n', ls', li', st', sw', ws', wi', role', buf', dead', bx'⟩ := b
  obtain ⟨bn, bq, ba, bh⟩ := bx
  obtain ⟨bn', bq', ba', bh'⟩ := bx'
  dsimp only at *
  generalize decide (Bx.mk bn bq ba bh = Bx.mk bn' bq' ba' bh') = x at *
  generalize e1 : (decide ((ids : Int) = ids') && (decide ((idi : Int) = idi') && (decide (k = k') && (decide (n = n') && true)))) = q1 at *
  generalize e2 : (decide ((ls : Int) = ls') && (decide ((li : Int) = li') && true)) = q2 at *
  generalize e3 : (decide ((ws : Int) = ws') && (decide ((wi : Int) = wi') && true)) = q3 at *
  refine EvP.of_wpf false hm c_R25_Same rfl ?_
  show wpf _ _ _ _ _ (argsT 0 [.agg [.int .u16 ids, .int .u16 idi, .int .i64 k, .int .i64 n, .int .u16 ls, .int .u16 li, .int .i64 st, .bool sw, .int .u16 ws, .int .u16 wi, .int .i64 role, .str buf, .bool dead, .int .i64 bn, .sl (msgs bq), .sl (msgs ba), .sl (msgs bh)], .agg [.int .u16 ids', .int .u16 idi', .int .i64 k', .int .i64 n', .int .u16 ls', .int .u16 li', .int .i64 st', .bool sw', .int .u16 ws', .int .u16 wi', .int .i64 role', .str buf', .bool dead', .int .i64 bn', .sl (msgs bq'), .sl (msgs ba'), .sl (msgs bh')]]) _ _
  conv => whnf
  cases q1 with
  | false =>
    repeat' ((first | refine brP_t (by assumption) ?_ | refine brP_f (by assumption) ?_ | refine brP_t (decide_eq_true (by omega)) ?_ | refine brP_f (decide_eq_false (by omega)) ?_ | refine brP_t (nd_t (by omega)) ?_ | refine brP_f (nd_f (by omega)) ?_ | ((rw [e1])) | ((rw [e2])) | ((rw [e3])) | refine callK_p c1 ?_ | refine callM_p c1 rfl ?_ | refine callK_pf rfl c1 ?_ | refine wpfS_seq1 ?_ | refine wpfS_go ?_ | fail) <;> conv => whnf)
    rfl
  | true =>
  cases q2 with
  | false =>
    repeat' ((first | refine brP_t (by assumption) ?_ | refine brP_f (by assumption) ?_ | refine brP_t (decide_eq_true (by omega)) ?_ | refine brP_f (decide_eq_false (by omega)) ?_ | refine brP_t (nd_t (by omega)) ?_ | refine brP_f (nd_f (by omega)) ?_ | ((rw [e1])) | ((rw [e2])) | ((rw [e3])) | refine callK_p c1 ?_ | refine callM_p c1 rfl ?_ | refine callK_pf rfl c1 ?_ | refine wpfS_seq1 ?_ | refine wpfS_go ?_ | fail) <;> conv => whnf)
    rfl
  | true =>
  by_cases h1 : st = st'
  case neg =>
    rw [decide_eq_false h1]
    repeat' ((first | refine brP_t (by assumption) ?_ | refine brP_f (by assumption) ?_ | refine brP_t (decide_eq_true (by omega)) ?_ | refine brP_f (decide_eq_false (by omega)) ?_ | refine brP_t (nd_t (by omega)) ?_ | refine brP_f (nd_f (by omega)) ?_ | ((rw [e1])) | ((rw [e2])) | ((rw [e3])) | refine callK_p c1 ?_ | refine callM_p c1 rfl ?_ | refine callK_pf rfl c1 ?_ | refine wpfS_seq1 ?_ | refine wpfS_go ?_ | fail) <;> conv => whnf)
    rfl
  by_cases h2 : sw = sw'
  case neg =>
    rw [decide_eq_true h1, decide_eq_false h2]
    repeat' ((first | refine brP_t (by assumption) ?_ | refine brP_f (by assumption) ?_ | refine brP_t (decide_eq_true (by omega)) ?_ | refine brP_f (decide_eq_false (by omega)) ?_ | refine brP_t (nd_t (by omega)) ?_ | refine brP_f (nd_f (by omega)) ?_ | ((rw [e1])) | ((rw [e2])) | ((rw [e3])) | refine callK_p c1 ?_ | refine callM_p c1 rfl ?_ | refine callK_pf rfl c1 ?_ | refine wpfS_seq1 ?_ | refine wpfS_go ?_ | fail) <;> conv => whnf)
    rfl
  cases q3 with
  | false =>
    rw [decide_eq_true h1, decide_eq_true h2]
    repeat' ((first | refine brP_t (by assumption) ?_ | refine brP_f (by assumption) ?_ | refine brP_t (decide_eq_true (by omega)) ?_ | refine brP_f (decide_eq_false (by omega)) ?_ | refine brP_t (nd_t (by omega)) ?_ | refine brP_f (nd_f (by omega)) ?_ | ((rw [e1])) | ((rw [e2])) | ((rw [e3])) | refine callK_p c1 ?_ | refine callM_p c1 rfl ?_ | refine callK_pf rfl c1 ?_ | refine wpfS_seq1 ?_ | refine wpfS_go ?_ | fail) <;> conv => whnf)
    rfl
  | true =>
  by_cases h3 : role = role'
  case neg =>
    rw [decide_eq_true h1, decide_eq_true h2, decide_eq_false h3]
    repeat' ((first | refine brP_t (by assumption) ?_ | refine brP_f (by assumption) ?_ | refine brP_t (decide_eq_true (by omega)) ?_ | refine brP_f (decide_eq_false (by omega)) ?_ | refine brP_t (nd_t (by omega)) ?_ | refine brP_f (nd_f (by omega)) ?_ | ((rw [e1])) | ((rw [e2])) | ((rw [e3])) | refine callK_p c1 ?_ | refine callM_p c1 rfl ?_ | refine callK_pf rfl c1 ?_ | refine wpfS_seq1 ?_ | refine wpfS_go ?_ | fail) <;> conv => whnf)
    rfl
  by_cases h4 : buf = buf'
  case neg =>
    rw [decide_eq_true h1, decide_eq_true h2, decide_eq_true h3, decide_eq_false h4]
    repeat' ((first | refine brP_t (by assumption) ?_ | refine brP_f (by assumption) ?_ | refine brP_t (decide_eq_true (by omega)) ?_ | refine brP_f (decide_eq_false (by omega)) ?_ | refine brP_t (nd_t (by omega)) ?_ | refine brP_f (nd_f (by omega)) ?_ | ((rw [e1])) | ((rw [e2])) | ((rw [e3])) | refine callK_p c1 ?_ | refine callM_p c1 rfl ?_ | refine callK_pf rfl c1 ?_ | refine wpfS_seq1 ?_ | refine wpfS_go ?_ | fail) <;> conv => whnf)
    rfl
  by_cases h5 : dead = dead'
  case neg =>
    rw [decide_eq_true h1, decide_eq_true h2, decide_eq_true h3, decide_eq_true h4, decide_eq_false h5]
    repeat' ((first | refine brP_t (by assumption) ?_ | refine brP_f (by assumption) ?_ | refine brP_t (decide_eq_true (by omega)) ?_ | refine brP_f (decide_eq_false (by omega)) ?_ | refine brP_t (nd_t (by omega)) ?_ | refine brP_f (nd_f (by omega)) ?_ | ((rw [e1])) | ((rw [e2])) | ((rw [e3])) | refine callK_p c1 ?_ | refine callM_p c1 rfl ?_ | refine callK_pf rfl c1 ?_ | refine wpfS_seq1 ?_ | refine wpfS_go ?_ | fail) <;> conv => whnf)
    rfl
  rw [decide_eq_true h1, decide_eq_true h2, decide_eq_true h3, decide_eq_true h4, decide_eq_true h5]
  repeat' ((first | refine brP_t (by assumption) ?_ | refine brP_f (by assumption) ?_ | refine brP_t (decide_eq_true (by omega)) ?_ | refine brP_f (decide_eq_false (by omega)) ?_ | refine brP_t (nd_t (by omega)) ?_ | refine brP_f (nd_f (by omega)) ?_ | ((rw [e1])) | ((rw [e2])) | ((rw [e3])) | refine callK_p c1 ?_ | refine callM_p c1 rfl ?_ | refine callK_pf rfl c1 ?_ | refine wpfS_seq1 ?_ | refine wpfS_go ?_ | fail) <;> conv => whnf)
  rfl
end Go.Ab.S

namespace Go.Ab.S
open Go Go.Ab Go.Proofs
attribute [local irreducible] SemS
set_option maxRecDepth 100000
def Ob.room (o : Ob) : Int := if o.k = 2 ∨ o.dead = true then 0 else if o.k = 1 then 32 else 64
def Ob.ownB (o : Ob) : Bool := if o.k = 1 then decide (o.bx = Bx.emp) else if o.role = 0 ∧ o.dead = false then decide (o.k = 2) || decide (o.bx = Bx.emp) else false
end Go.Ab.S
