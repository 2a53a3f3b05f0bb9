/- Objects, undone: the program's way. No condition. -/
import Derived.Test.YtmohadlgjokgmaaBxO3
set_option linter.unusedSimpArgs false
set_option linter.unusedVariables false
namespace Go.Ab.S
open Go Go.Ab Go.Proofs
attribute [local irreducible] SemS
set_option maxRecDepth 100000
abbrev mapOk (M : Nat → Nat) : Prop := ∀ i, i < 16 → M i ≤ 255
def minE (e : Int) (m : Msg) : Msg := { m with ep := if e < m.ep then e else m.ep }
def Ob.backB (M : Nat → Nat) (o : Ob) : Bool := o.swept && (!decide (o.k = 1) || touchesB M o.ws o.wi)
def Ob.undo (M : Nat → Nat) (e : Int) (o : Ob) : Ob := { o with
  ls := if o.backB M then o.ws else o.ls
  li := if o.backB M then o.wi else o.li
  stamp := e
  swept := false
  ws := 0
  wi := 0
  bx := if o.k = 2 then o.bx.restore.each (minE e) else o.bx }
theorem undo_1_ok (m : Msg) (e : Int) : EvR PR G f_undo_One_1 [.agg m.row, .c (.ptr (.par 0) 0)] ⟨[.row [.int .i64 e]], []⟩ (.agg (minE e m).row) ⟨[.row [.int .i64 e]], []⟩ := by
  obtain ⟨no, ep, s, i', role, used, data⟩ := m
  refine EvR.of_wpfC false true hm c_undo_One_1 rfl rfl ?_
  conv => whnf
  repeat' ((first | refine brP_t (by assumption) ?_ | refine brP_f (by assumption) ?_ | refine brP_t (decide_eq_true (by omega)) ?_ | refine brP_f (decide_eq_false (by omega)) ?_ | refine brP_t (nd_t (by omega)) ?_ | refine brP_f (nd_f (by omega)) ?_ | refine wpfS_seq1 ?_ | refine wpfS_go ?_ | fail) <;> conv => whnf)
  exact ⟨rfl, rfl⟩
theorem undo_back_ok (M : Nat → Nat) (hM : mapOk M) (o : Ob) (hs : o.ws < 65536) (hi : o.wi < 65536) : EvP PR G f_undo_back [mv M, .agg o.row] (lab (if o.backB M then o.ws else o.ls) (if o.backB M then o.wi else o.li)) := by
  have c1 := relabel_Touches_ok M hM o.ws o.wi hs hi
  have hb : o.backB M = (o.swept && (!decide (o.k = 1) || touchesB M o.ws o.wi)) := rfl
  obtain ⟨ids, idi, k, n, ls, li, st, sw, ws, wi, role, buf, dead, bx⟩ := o
  obtain ⟨bn, bq, ba, bh⟩ := bx
  dsimp only at *
  generalize touchesB M ws wi = q at *
  generalize Ob.backB M _ = B at *
  show EvP PR G f_undo_back [mv M, .agg [.int .u16 ids, .int .u16 idi, .int .i64 k, .int .i64 n, .int .u16 ls, .int .u16 li, .int .i64 st, .bool sw, .int .u16 ws, .int .u16 wi, .int .i64 role, .str buf, .bool dead, .int .i64 bn, .sl (msgs bq), .sl (msgs ba), .sl (msgs bh)]] _
  refine EvP.of_wpf false hm c_undo_back rfl ?_
  refine wpf_seq1 ?_
  conv => whnf
  cases sw with
  | false =>
    subst hb
    repeat' ((first | refine brP_t (by assumption) ?_ | refine brP_f (by assumption) ?_ | refine brP_t (decide_eq_true (by omega)) ?_ | refine brP_f (decide_eq_false (by omega)) ?_ | refine brP_t (nd_t (by omega)) ?_ | refine brP_f (nd_f (by omega)) ?_ | refine callK_p c1 ?_ | refine callM_p c1 rfl ?_ | refine callK_pf rfl c1 ?_ | refine wpfS_seq1 ?_ | refine wpfS_go ?_ | fail) <;> conv => whnf)
    rfl
  | true =>
    by_cases hk : k = 1
    · rw [decide_eq_true hk] at hb
      cases q with
      | true =>
        subst hb
        repeat' ((first | refine brP_t (by assumption) ?_ | refine brP_f (by assumption) ?_ | refine brP_t (decide_eq_true (by omega)) ?_ | refine brP_f (decide_eq_false (by omega)) ?_ | refine brP_t (nd_t (by omega)) ?_ | refine brP_f (nd_f (by omega)) ?_ | refine callK_p c1 ?_ | refine callM_p c1 rfl ?_ | refine callK_pf rfl c1 ?_ | refine brP_f (nd_f (by omega)) ?_ | refine wpfS_seq1 ?_ | refine wpfS_go ?_ | fail) <;> conv => whnf)
        rfl
      | false =>
        subst hb
        repeat' ((first | refine brP_t (by assumption) ?_ | refine brP_f (by assumption) ?_ | refine brP_t (decide_eq_true (by omega)) ?_ | refine brP_f (decide_eq_false (by omega)) ?_ | refine brP_t (nd_t (by omega)) ?_ | refine brP_f (nd_f (by omega)) ?_ | refine callK_p c1 ?_ | refine callM_p c1 rfl ?_ | refine callK_pf rfl c1 ?_ | refine brP_f (nd_f (by omega)) ?_ | refine wpfS_seq1 ?_ | refine wpfS_go ?_ | fail) <;> conv => whnf)
        rfl
    · rw [decide_eq_false hk] at hb
      subst hb
      repeat' ((first | refine brP_t (by assumption) ?_ | refine brP_f (by assumption) ?_ | refine brP_t (decide_eq_true (by omega)) ?_ | refine brP_f (decide_eq_false (by omega)) ?_ | refine brP_t (nd_t (by omega)) ?_ | refine brP_f (nd_f (by omega)) ?_ | refine callK_p c1 ?_ | refine callM_p c1 rfl ?_ | refine callK_pf rfl c1 ?_ | refine brP_t (nd_t (by omega)) ?_ | refine wpfS_seq1 ?_ | refine wpfS_go ?_ | fail) <;> conv => whnf)
      rfl
set_option maxHeartbeats 4000000 in
theorem undo_One_ok (M : Nat → Nat) (hM : mapOk M) (e : Int) (o : Ob) (hs : o.ws < 65536) (hi : o.wi < 65536) (hl : o.k = 2 → o.bx.len ≤ 19) : EvP PR G f_undo_One [mv M, iv e, .agg o.row] (.agg (o.undo M e).row) := by
  have c1 := undo_back_ok M hM o hs hi
  have c2 : o.k = 2 → _ := fun h => box_Restore_ok o.bx (hl h)
  have hrl : o.k = 2 → o.bx.restore.q.length ≤ 1000 := fun h => by
    have := hl h
    show (isort o.bx.all).length ≤ 1000
    rw [(isort_perm _).length_eq, Bx.all_len]; omega
  have c3 : o.k = 2 → EvR PR G f_box_Each [.agg o.bx.restore.row, .c (.fn f_undo_One_1 [.par 0])] ⟨[.row [.int .i64 e]], []⟩ (.agg (o.bx.restore.each (minE e)).row) ⟨[.row [.int .i64 e]], []⟩ :=
    fun h => box_Each_ok f_undo_One_1 [.par 0] [.row [.int .i64 e]] (fun _ => rfl) (fun _ => rfl) (minE e) o.bx.restore (hrl h) fun m _ => fnM1 (undo_1_ok m e)
  have hu : (o.undo M e) = { o with ls := if o.backB M then o.ws else o.ls, li := if o.backB M then o.wi else o.li, stamp := e, swept := false, ws := 0, wi := 0, bx := if o.k = 2 then o.bx.restore.each (minE e) else o.bx } := rfl
  rw [hu]
  generalize (if o.backB M then o.ws else o.ls) = l1 at *
  generalize (if o.backB M then o.wi else o.li) = l2 at *
  obtain ⟨ids, idi, k, n, ls, li, st, sw, ws, wi, role, buf, dead, bx⟩ := o
  dsimp only at *
  by_cases hk : k = 2
  · have c2 := c2 hk
    have c3 := c3 hk
    rw [if_pos hk]
    generalize bx.restore.each (minE e) = b2 at *
    generalize bx.restore = b1 at *
    obtain ⟨bn, bq, ba, bh⟩ := bx
    obtain ⟨bn2, bq2, ba2, bh2⟩ := b2
    show EvP PR G f_undo_One [mv M, _, .agg [.int .u16 ids, .int .u16 idi, .int .i64 k, .int .i64 n, .int .u16 ls, .int .u16 li, .int .i64 st, .bool sw, .int .u16 ws, .int .u16 wi, .int .i64 role, .str buf, .bool dead, .int .i64 bn, .sl (msgs bq), .sl (msgs ba), .sl (msgs bh)]] _
    refine EvP.of_wpf false hm c_undo_One rfl ?_
    refine wpf_seq1 ?_
    conv => whnf
    repeat' ((first | refine brP_t (by assumption) ?_ | refine brP_f (by assumption) ?_ | refine brP_t (decide_eq_true (by omega)) ?_ | refine brP_f (decide_eq_false (by omega)) ?_ | refine brP_t (nd_t (by omega)) ?_ | refine brP_f (nd_f (by omega)) ?_ | refine callK_p c1 ?_ | refine callM_p c1 rfl ?_ | refine callK_pf rfl c1 ?_ | refine callK_p c2 ?_ | refine callM_p c2 rfl ?_ | refine callK_pf rfl c2 ?_ | refine callK_r (EvR.fr [_] c3 rfl rfl ⟨rfl, trivial⟩ rfl) ?_ | refine callM_l (LEv.fr [_] c3 rfl rfl ⟨rfl, trivial⟩ rfl rfl) ?_ | refine callK_rt (EvR.fr [_] c3 rfl rfl ⟨rfl, trivial⟩ rfl) ?_ | refine callK_rf rfl (EvR.fr [_] c3 rfl rfl ⟨rfl, trivial⟩ rfl) ?_ | refine callK_rft rfl (EvR.fr [_] c3 rfl rfl ⟨rfl, trivial⟩ rfl) ?_ | refine wpfS_seq1 ?_ | refine wpfS_go ?_ | fail) <;> conv => whnf)
    rfl
  · rw [if_neg hk]
    obtain ⟨bn, bq, ba, bh⟩ := bx
    show EvP PR G f_undo_One [mv M, _, .agg [.int .u16 ids, .int .u16 idi, .int .i64 k, .int .i64 n, .int .u16 ls, .int .u16 li, .int .i64 st, .bool sw, .int .u16 ws, .int .u16 wi, .int .i64 role, .str buf, .bool dead, .int .i64 bn, .sl (msgs bq), .sl (msgs ba), .sl (msgs bh)]] _
    refine EvP.of_wpf false hm c_undo_One rfl ?_
    refine wpf_seq1 ?_
    conv => whnf
    repeat' ((first | refine brP_t (by assumption) ?_ | refine brP_f (by assumption) ?_ | refine brP_t (decide_eq_true (by omega)) ?_ | refine brP_f (decide_eq_false (by omega)) ?_ | refine brP_t (nd_t (by omega)) ?_ | refine brP_f (nd_f (by omega)) ?_ | refine callK_p c1 ?_ | refine callM_p c1 rfl ?_ | refine callK_pf rfl c1 ?_ | refine wpfS_seq1 ?_ | refine wpfS_go ?_ | fail) <;> conv => whnf)
    rfl
end Go.Ab.S
