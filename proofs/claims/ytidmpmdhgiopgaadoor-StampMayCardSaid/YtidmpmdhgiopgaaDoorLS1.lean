/- Objects stamped, and at the commit: the program's way, and the document's. No condition. -/
import Derived.Test.YtidmpmdhgiopgaaDoorLUA
import Derived.Test.YtidmpmdhgiopgaaDoorLK12
set_option linter.unusedSimpArgs false
set_option linter.unusedVariables false
namespace Go.Ab.S
open Go Go.Ab Go.Proofs
attribute [local irreducible] SemS
set_option maxRecDepth 100000
set_option maxHeartbeats 4000000 in
theorem stamp_One_ok (M : Nat → Nat) (hM : mapOk M) (e : Int) (o : Ob) (hs : o.ls < 65536) (hi : o.li < 65536) (hl : o.k = 2 → o.bx.len ≤ 19) : EvP PR G f_stamp_One [mv M, iv e, .agg o.row] (.agg (o.stampO M e).row) := by
  have c1 := relabel_Label_ok M hM o.ls o.li hs hi
  have c2 : o.k = 2 → _ := fun h => box_SetAside_ok o.bx (hl h)
  have hu : o.stampO M e = if o.swept then o else { o with ws := o.ls, wi := o.li, ls := setN M o.ls, li := setN M o.li, swept := true, stamp := e, bx := if o.k = 2 then o.bx.aside else o.bx } := rfl
  rw [hu]
  obtain ⟨ids, idi, k, n, ls, li, st, sw, ws, wi, role, buf, dead, bx⟩ := o
  dsimp only at *
  generalize setN M ls = l1 at *
  generalize setN M li = l2 at *
  cases sw with
  | true =>
    obtain ⟨bn, bq, ba, bh⟩ := bx
    show EvP PR G f_stamp_One [mv M, _, .agg [.int .u16 ids, .int .u16 idi, .int .i64 k, .int .i64 n, .int .u16 ls, .int .u16 li, .int .i64 st, .bool true, .int .u16 ws, .int .u16 wi, .int .i64 role, .str buf, .bool dead, .int .i64 bn, .sl (msgs bq), .sl (msgs ba), .sl (msgs bh)]] _
    refine EvP.of_wpf false hm c_stamp_One rfl ?_
    refine wpf_seq1 ?_
    conv => whnf
    repeat' ((first | refine brP_t (by assumption) ?_ | refine brP_f (by assumption) ?_ | refine brP_t (decide_eq_true (by omega)) ?_ | refine brP_f (decide_eq_false (by omega)) ?_ | refine brP_t (nd_t (by omega)) ?_ | refine brP_f (nd_f (by omega)) ?_ | refine wpfS_seq1 ?_ | refine wpfS_go ?_ | fail) <;> conv => whnf)
    rfl
  | false =>
    rw [if_neg (by decide)]
    by_cases hk : k = 2
    · have c2 := c2 hk
      rw [if_pos hk]
      generalize bx.aside = b2 at *
      obtain ⟨bn, bq, ba, bh⟩ := bx
      show EvP PR G f_stamp_One [mv M, _, .agg [.int .u16 ids, .int .u16 idi, .int .i64 k, .int .i64 n, .int .u16 ls, .int .u16 li, .int .i64 st, .bool false, .int .u16 ws, .int .u16 wi, .int .i64 role, .str buf, .bool dead, .int .i64 bn, .sl (msgs bq), .sl (msgs ba), .sl (msgs bh)]] _
      refine EvP.of_wpf false hm c_stamp_One rfl ?_
      refine wpf_seq1 ?_
      conv => whnf
      repeat' ((first | refine brP_t (by assumption) ?_ | refine brP_f (by assumption) ?_ | refine brP_t (decide_eq_true (by omega)) ?_ | refine brP_f (decide_eq_false (by omega)) ?_ | refine brP_t (nd_t (by omega)) ?_ | refine brP_f (nd_f (by omega)) ?_ | refine callK_p c1 ?_ | refine callM_p c1 rfl ?_ | refine callK_pf rfl c1 ?_ | refine callK_pk rfl c1 ?_ | refine callK_p c2 ?_ | refine callM_p c2 rfl ?_ | refine callK_pf rfl c2 ?_ | refine callK_pk rfl c2 ?_ | refine wpfS_seq1 ?_ | refine wpfS_go ?_ | fail) <;> conv => whnf)
      rfl
    · rw [if_neg hk]
      obtain ⟨bn, bq, ba, bh⟩ := bx
      show EvP PR G f_stamp_One [mv M, _, .agg [.int .u16 ids, .int .u16 idi, .int .i64 k, .int .i64 n, .int .u16 ls, .int .u16 li, .int .i64 st, .bool false, .int .u16 ws, .int .u16 wi, .int .i64 role, .str buf, .bool dead, .int .i64 bn, .sl (msgs bq), .sl (msgs ba), .sl (msgs bh)]] _
      refine EvP.of_wpf false hm c_stamp_One rfl ?_
      refine wpf_seq1 ?_
      conv => whnf
      repeat' ((first | refine brP_t (by assumption) ?_ | refine brP_f (by assumption) ?_ | refine brP_t (decide_eq_true (by omega)) ?_ | refine brP_f (decide_eq_false (by omega)) ?_ | refine brP_t (nd_t (by omega)) ?_ | refine brP_f (nd_f (by omega)) ?_ | refine callK_p c1 ?_ | refine callM_p c1 rfl ?_ | refine callK_pf rfl c1 ?_ | refine callK_pk rfl c1 ?_ | refine wpfS_seq1 ?_ | refine wpfS_go ?_ | fail) <;> conv => whnf)
      rfl
/-- A message at the commit. -/
def commM (M : Nat → Nat) (e : Int) (m : Msg) : Msg := if m.ep = e then m else { m.map M with ep := e }
def Ob.commit (M : Nat → Nat) (e : Int) (o : Ob) : Ob := { o with swept := false, ws := 0, wi := 0, bx := if o.k = 2 then o.bx.forget.each (commM M e) else o.bx }
theorem back2 {r0 r1 : List PV} {ls : List Blk} : backH [.par 0, .par 1] ⟨[.row r0, .row r1], ls⟩ ⟨[.row r0, .row r1], []⟩ = ⟨[.row r0, .row r1], ls⟩ := by
  show (⟨[.row r0, .row r1], ls ++ []⟩ : Hp) = _; rw [List.append_nil]
theorem fnM2 {g : FuncId} {r0 r1 : List PV} {m : Msg} {cs : List PV} (h : EvR PR G g [.agg m.row, .c (.ptr (.par 0) 0), .c (.ptr (.par 1) 0)] ⟨[.row r0, .row r1], []⟩ (.agg cs) ⟨[.row r0, .row r1], []⟩) : FnM g [.par 0, .par 1] [.row r0, .row r1] m (.agg cs) := fun ls => by
  have := EvR.fr (H := ⟨[.row r0, .row r1], ls⟩) [.par 0, .par 1] h rfl rfl ⟨rfl, rfl, trivial⟩ rfl
  rw [back2] at this
  exact this
theorem stamp_Commit_1_ok (M : Nat → Nat) (hM : mapOk M) (e : Int) (m : Msg) (hmo : m.Ok) : EvR PR G f_stamp_Commit_1 [.agg m.row, .c (.ptr (.par 0) 0), .c (.ptr (.par 1) 0)] ⟨[.row [.int .i64 e], .row (mrow M)], []⟩ (.agg (commM M e m).row) ⟨[.row [.int .i64 e], .row (mrow M)], []⟩ := by
  have c1 := message_Mapped_ok M hM m hmo
  have hu : commM M e m = if m.ep = e then m else { m.map M with ep := e } := rfl
  rw [hu]
  generalize m.map M = m2 at *
  obtain ⟨no, ep, s, i', role, used, data⟩ := m
  obtain ⟨no2, ep2, s2, i2, role2, used2, data2⟩ := m2
  dsimp only
  by_cases he : ep = e
  · rw [if_pos he]
    refine EvR.of_wpfC false true hm c_stamp_Commit_1 rfl rfl ?_
    refine wpf_seq1 ?_
    conv => whnf
    repeat' ((first | refine brP_t (by assumption) ?_ | refine brP_f (by assumption) ?_ | refine brP_t (decide_eq_true (by omega)) ?_ | refine brP_f (decide_eq_false (by omega)) ?_ | refine brP_t (nd_t (by omega)) ?_ | refine brP_f (nd_f (by omega)) ?_ | refine callK_p c1 ?_ | refine callM_p c1 rfl ?_ | refine callK_pf rfl c1 ?_ | refine callK_pk rfl c1 ?_ | refine wpfS_seq1 ?_ | refine wpfS_go ?_ | fail) <;> conv => whnf)
    exact ⟨rfl, rfl⟩
  · rw [if_neg he]
    refine EvR.of_wpfC false true hm c_stamp_Commit_1 rfl rfl ?_
    refine wpf_seq1 ?_
    conv => whnf
    repeat' ((first | refine brP_t (by assumption) ?_ | refine brP_f (by assumption) ?_ | refine brP_t (decide_eq_true (by omega)) ?_ | refine brP_f (decide_eq_false (by omega)) ?_ | refine brP_t (nd_t (by omega)) ?_ | refine brP_f (nd_f (by omega)) ?_ | refine callK_p c1 ?_ | refine callM_p c1 rfl ?_ | refine callK_pf rfl c1 ?_ | refine callK_pk rfl c1 ?_ | refine wpfS_seq1 ?_ | refine wpfS_go ?_ | fail) <;> conv => whnf)
    exact ⟨rfl, rfl⟩
set_option maxHeartbeats 4000000 in
theorem stamp_Commit_ok (M : Nat → Nat) (hM : mapOk M) (e : Int) (o : Ob) (hl : o.bx.q.length ≤ 1000) (hq : ∀ m ∈ o.bx.q, m.Ok) : EvP PR G f_stamp_Commit [mv M, iv e, .agg o.row] (.agg (o.commit M e).row) := by
  have c1 := box_Forget_ok o.bx
  have c2 : EvR PR G f_box_Each [.agg o.bx.forget.row, .c (.fn f_stamp_Commit_1 [.par 0, .par 1])] ⟨[.row [.int .i64 e], .row (mrow M)], []⟩ (.agg (o.bx.forget.each (commM M e)).row) ⟨[.row [.int .i64 e], .row (mrow M)], []⟩ :=
    box_Each_ok f_stamp_Commit_1 [.par 0, .par 1] [.row [.int .i64 e], .row (mrow M)] (fun _ => rfl) (fun _ => rfl) (commM M e) o.bx.forget hl fun m hm => fnM2 (stamp_Commit_1_ok M hM e m (hq m hm))
  have hu : o.commit M e = { o with swept := false, ws := 0, wi := 0, bx := if o.k = 2 then o.bx.forget.each (commM M e) else o.bx } := rfl
  rw [hu]
  obtain ⟨ids, idi, k, n, ls, li, st, sw, ws, wi, role, buf, dead, bx⟩ := o
  dsimp only at *
  generalize bx.forget.each (commM M e) = b2 at *
  generalize bx.forget = b1 at *
  obtain ⟨bn, bq, ba, bh⟩ := bx
  show EvP PR G f_stamp_Commit [mv M, _, .agg [.int .u16 ids, .int .u16 idi, .int .i64 k, .int .i64 n, .int .u16 ls, .int .u16 li, .int .i64 st, .bool sw, .int .u16 ws, .int .u16 wi, .int .i64 role, .str buf, .bool dead, .int .i64 bn, .sl (msgs bq), .sl (msgs ba), .sl (msgs bh)]] _
  refine EvP.of_wpf false hm c_stamp_Commit rfl ?_
  refine wpf_seq1 ?_
  conv => whnf
  by_cases hk : k = 2
  · rw [if_pos hk]
    repeat' ((first | refine brP_t (by assumption) ?_ | refine brP_f (by assumption) ?_ | refine brP_t (decide_eq_true (by omega)) ?_ | refine brP_f (decide_eq_false (by omega)) ?_ | refine brP_t (nd_t (by omega)) ?_ | refine brP_f (nd_f (by omega)) ?_ | refine wpfS_seq1 ?_ | refine wpfS_go ?_ | fail) <;> conv => whnf)
    (first | refine callK_p c1 ?_ | refine callM_p c1 rfl ?_ | refine callK_pf rfl c1 ?_ | refine callK_pk rfl c1 ?_)
    conv => whnf
    repeat' ((first | refine brP_t (by assumption) ?_ | refine brP_f (by assumption) ?_ | refine brP_t (decide_eq_true (by omega)) ?_ | refine brP_f (decide_eq_false (by omega)) ?_ | refine brP_t (nd_t (by omega)) ?_ | refine brP_f (nd_f (by omega)) ?_ | refine wpfS_seq1 ?_ | refine wpfS_go ?_ | fail) <;> conv => whnf)
    (first | refine callK_r (EvR.fr [_, _] c2 rfl rfl ⟨rfl, rfl, trivial⟩ rfl) ?_ | refine callM_l (LEv.fr [_, _] c2 rfl rfl ⟨rfl, rfl, trivial⟩ rfl rfl) ?_ | refine callK_rt (EvR.fr [_, _] c2 rfl rfl ⟨rfl, rfl, trivial⟩ rfl) ?_ | refine callK_rf rfl (EvR.fr [_, _] c2 rfl rfl ⟨rfl, rfl, trivial⟩ rfl) ?_ | refine callK_rft rfl (EvR.fr [_, _] c2 rfl rfl ⟨rfl, rfl, trivial⟩ rfl) ?_)
    conv => whnf
    repeat' ((first | refine brP_t (by assumption) ?_ | refine brP_f (by assumption) ?_ | refine brP_t (decide_eq_true (by omega)) ?_ | refine brP_f (decide_eq_false (by omega)) ?_ | refine brP_t (nd_t (by omega)) ?_ | refine brP_f (nd_f (by omega)) ?_ | refine wpfS_seq1 ?_ | refine wpfS_go ?_ | fail) <;> conv => whnf)
    rfl
  · rw [if_neg hk]
    repeat' ((first | refine brP_t (by assumption) ?_ | refine brP_f (by assumption) ?_ | refine brP_t (decide_eq_true (by omega)) ?_ | refine brP_f (decide_eq_false (by omega)) ?_ | refine brP_t (nd_t (by omega)) ?_ | refine brP_f (nd_f (by omega)) ?_ | refine wpfS_seq1 ?_ | refine wpfS_go ?_ | fail) <;> conv => whnf)
    rfl
theorem comm_ok {M : Nat → Nat} {e : Int} {m : Msg} (h : m.Ok) (he : in64 e) : (commM M e m).Ok := by
  unfold commM
  split
  · exact h
  · have := Msg.map_ok (M := M) h
    exact ⟨this.no, he, this.s, this.i, this.role, this.used⟩
end Go.Ab.S
