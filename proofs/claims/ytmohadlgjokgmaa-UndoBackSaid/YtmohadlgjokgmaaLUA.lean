/- Objects, undone: the program's way. No condition. Lanes undone; objects stamped by the document. No condition. -/
import Derived.Test.YtmohadlgjokgmaaLO3
set_option linter.unusedSimpArgs false
set_option linter.unusedVariables false
namespace Go.Ab.S
open Go Go.Ab Go.Proofs
attribute [local irreducible] SemS
set_option maxRecDepth 100000
abbrev mapOk (M : Nat → Nat) : Prop := ∀ i, i < 16 → M i ≤ 255
def minE (e : Int) (m : Msg) : Msg := { m with ep := if e < m.ep then e else m.ep }
def Ob.backB (M : Nat → Nat) (o : Ob) : Bool := o.swept && (!decide (o.k = 1) || touchesB M o.ws o.wi)
def Ob.undo (M : Nat → Nat) (e : Int) (o : Ob) : Ob := { o with
  ls := if o.backB M then o.ws else o.ls
  li := if o.backB M then o.wi else o.li
  stamp := e
  swept := false
  ws := 0
  wi := 0
  bx := if o.k = 2 then o.bx.restore.each (minE e) else o.bx }
theorem undo_1_ok (m : Msg) (e : Int) : EvR PR G f_undo_One_1 [.agg m.row, .c (.ptr (.par 0) 0)] ⟨[.row [.int .i64 e]], []⟩ (.agg (minE e m).row) ⟨[.row [.int .i64 e]], []⟩ := by
  obtain ⟨no, ep, s, i', role, used, data⟩ := m
  refine EvR.of_wpfC false true hm c_undo_One_1 rfl rfl ?_
  conv => whnf
  repeat' ((first | refine brP_t (by assumption) ?_ | refine brP_f (by assumption) ?_ | refine brP_t (decide_eq_true (by omega)) ?_ | refine brP_f (decide_eq_false (by omega)) ?_ | refine brP_t (nd_t (by omega)) ?_ | refine brP_f (nd_f (by omega)) ?_ | refine wpfS_seq1 ?_ | refine wpfS_go ?_ | fail) <;> conv => whnf)
  exact ⟨rfl, rfl⟩
theorem undo_back_ok (M : Nat → Nat) (hM : mapOk M) (o : Ob) (hs : o.ws < 65536) (hi : o.wi < 65536) : EvP PR G f_undo_back [mv M, .agg o.row] (lab (if o.backB M then o.ws else o.ls) (if o.backB M then o.wi else o.li)) := by
  have c1 := relabel_Touches_ok M hM o.ws o.wi hs hi
  have hb : o.backB M = (o.swept && (!decide (o.k = 1) || touchesB M o.ws o.wi)) := rfl
  obtain ⟨ids, idi, k, n, ls, li, st, sw, ws, wi, role, buf, dead, bx⟩ := o
  obtain ⟨bn, bq, ba, bh⟩ := bx
  dsimp only at *
  generalize touchesB M ws wi = q at *
  generalize Ob.backB M _ = B at *
  show EvP PR G f_undo_back [mv M, .agg [.int .u16 ids, .int .u16 idi, .int .i64 k, .int .i64 n, .int .u16 ls, .int .u16 li, .int .i64 st, .bool sw, .int .u16 ws, .int .u16 wi, .int .i64 role, .str buf, .bool dead, .int .i64 bn, .sl (msgs bq), .sl (msgs ba), .sl (msgs bh)]] _
  refine EvP.of_wpf false hm c_undo_back rfl ?_
  refine wpf_seq1 ?_
  conv => whnf
  cases sw with
  | false =>
    subst hb
    repeat' ((first | refine brP_t (by assumption) ?_ | refine brP_f (by assumption) ?_ | refine brP_t (decide_eq_true (by omega)) ?_ | refine brP_f (decide_eq_false (by omega)) ?_ | refine brP_t (nd_t (by omega)) ?_ | refine brP_f (nd_f (by omega)) ?_ | refine callK_p c1 ?_ | refine callM_p c1 rfl ?_ | refine callK_pf rfl c1 ?_ | refine wpfS_seq1 ?_ | refine wpfS_go ?_ | fail) <;> conv => whnf)
    rfl
  | true =>
    by_cases hk : k = 1
    · rw [decide_eq_true hk] at hb
      cases q with
      | true =>
        subst hb
        repeat' ((first | refine brP_t (by assumption) ?_ | refine brP_f (by assumption) ?_ | refine brP_t (decide_eq_true (by omega)) ?_ | refine brP_f (decide_eq_false (by omega)) ?_ | refine brP_t (nd_t (by omega)) ?_ | refine brP_f (nd_f (by omega)) ?_ | refine callK_p c1 ?_ | refine callM_p c1 rfl ?_ | refine callK_pf rfl c1 ?_ | refine brP_f (nd_f (by omega)) ?_ | refine wpfS_seq1 ?_ | refine wpfS_go ?_ | fail) <;> conv => whnf)
        rfl
      | false =>
        subst hb
        repeat' ((first | refine brP_t (by assumption) ?_ | refine brP_f (by assumption) ?_ | refine brP_t (decide_eq_true (by omega)) ?_ | refine brP_f (decide_eq_false (by omega)) ?_ | refine brP_t (nd_t (by omega)) ?_ | refine brP_f (nd_f (by omega)) ?_ | refine callK_p c1 ?_ | refine callM_p c1 rfl ?_ | refine callK_pf rfl c1 ?_ | refine brP_f (nd_f (by omega)) ?_ | refine wpfS_seq1 ?_ | refine wpfS_go ?_ | fail) <;> conv => whnf)
        rfl
    · rw [decide_eq_false hk] at hb
      subst hb
      repeat' ((first | refine brP_t (by assumption) ?_ | refine brP_f (by assumption) ?_ | refine brP_t (decide_eq_true (by omega)) ?_ | refine brP_f (decide_eq_false (by omega)) ?_ | refine brP_t (nd_t (by omega)) ?_ | refine brP_f (nd_f (by omega)) ?_ | refine callK_p c1 ?_ | refine callM_p c1 rfl ?_ | refine callK_pf rfl c1 ?_ | refine brP_t (nd_t (by omega)) ?_ | refine wpfS_seq1 ?_ | refine wpfS_go ?_ | fail) <;> conv => whnf)
      rfl
set_option maxHeartbeats 4000000 in
theorem undo_One_ok (M : Nat → Nat) (hM : mapOk M) (e : Int) (o : Ob) (hs : o.ws < 65536) (hi : o.wi < 65536) (hl : o.k = 2 → o.bx.len ≤ 19) : EvP PR G f_undo_One [mv M, iv e, .agg o.row] (.agg (o.undo M e).row) := by
  have c1 := undo_back_ok M hM o hs hi
  have c2 : o.k = 2 → _ := fun h => box_Restore_ok o.bx (hl h)
  have hrl : o.k = 2 → o.bx.restore.q.length ≤ 1000 := fun h => by
    have := hl h
    show (isort o.bx.all).length ≤ 1000
    rw [(isort_perm _).length_eq, Bx.all_len]; omega
  have c3 : o.k = 2 → EvR PR G f_box_Each [.agg o.bx.restore.row, .c (.fn f_undo_One_1 [.par 0])] ⟨[.row [.int .i64 e]], []⟩ (.agg (o.bx.restore.each (minE e)).row) ⟨[.row [.int .i64 e]], []⟩ :=
    fun h => box_Each_ok f_undo_One_1 [.par 0] [.row [.int .i64 e]] (fun _ => rfl) (fun _ => rfl) (minE e) o.bx.restore (hrl h) fun m _ => fnM1 (undo_1_ok m e)
  have hu : (o.undo M e) = { o with ls := if o.backB M then o.ws else o.ls, li := if o.backB M then o.wi else o.li, stamp := e, swept := false, ws := 0, wi := 0, bx := if o.k = 2 then o.bx.restore.each (minE e) else o.bx } := rfl
  rw [hu]
  generalize (if o.backB M then o.ws else o.ls) = l1 at *
  generalize (if o.backB M then o.wi else o.li) = l2 at *
  obtain ⟨ids, idi, k, n, ls, li, st, sw, ws, wi, role, buf, dead, bx⟩ := o
  dsimp only at *
  by_cases hk : k = 2
  · have c2 := c2 hk
    have c3 := c3 hk
    rw [if_pos hk]
    generalize bx.restore.each (minE e) = b2 at *
    generalize bx.restore = b1 at *
    obtain ⟨bn, bq, ba, bh⟩ := bx
    obtain ⟨bn2, bq2, ba2, bh2⟩ := b2
    show EvP PR G f_undo_One [mv M, _, .agg [.int .u16 ids, .int .u16 idi, .int .i64 k, .int .i64 n, .int .u16 ls, .int .u16 li, .int .i64 st, .bool sw, .int .u16 ws, .int .u16 wi, .int .i64 role, .str buf, .bool dead, .int .i64 bn, .sl (msgs bq), .sl (msgs ba), .sl (msgs bh)]] _
    refine EvP.of_wpf false hm c_undo_One rfl ?_
    refine wpf_seq1 ?_
    conv => whnf
    repeat' ((first | refine brP_t (by assumption) ?_ | refine brP_f (by assumption) ?_ | refine brP_t (decide_eq_true (by omega)) ?_ | refine brP_f (decide_eq_false (by omega)) ?_ | refine brP_t (nd_t (by omega)) ?_ | refine brP_f (nd_f (by omega)) ?_ | refine callK_p c1 ?_ | refine callM_p c1 rfl ?_ | refine callK_pf rfl c1 ?_ | refine callK_p c2 ?_ | refine callM_p c2 rfl ?_ | refine callK_pf rfl c2 ?_ | refine callK_r (EvR.fr [_] c3 rfl rfl ⟨rfl, trivial⟩ rfl) ?_ | refine callM_l (LEv.fr [_] c3 rfl rfl ⟨rfl, trivial⟩ rfl rfl) ?_ | refine callK_rt (EvR.fr [_] c3 rfl rfl ⟨rfl, trivial⟩ rfl) ?_ | refine callK_rf rfl (EvR.fr [_] c3 rfl rfl ⟨rfl, trivial⟩ rfl) ?_ | refine callK_rft rfl (EvR.fr [_] c3 rfl rfl ⟨rfl, trivial⟩ rfl) ?_ | refine wpfS_seq1 ?_ | refine wpfS_go ?_ | fail) <;> conv => whnf)
    rfl
  · rw [if_neg hk]
    obtain ⟨bn, bq, ba, bh⟩ := bx
    show EvP PR G f_undo_One [mv M, _, .agg [.int .u16 ids, .int .u16 idi, .int .i64 k, .int .i64 n, .int .u16 ls, .int .u16 li, .int .i64 st, .bool sw, .int .u16 ws, .int .u16 wi, .int .i64 role, .str buf, .bool dead, .int .i64 bn, .sl (msgs bq), .sl (msgs ba), .sl (msgs bh)]] _
    refine EvP.of_wpf false hm c_undo_One rfl ?_
    refine wpf_seq1 ?_
    conv => whnf
    repeat' ((first | refine brP_t (by assumption) ?_ | refine brP_f (by assumption) ?_ | refine brP_t (decide_eq_true (by omega)) ?_ | refine brP_f (decide_eq_false (by omega)) ?_ | refine brP_t (nd_t (by omega)) ?_ | refine brP_f (nd_f (by omega)) ?_ | refine callK_p c1 ?_ | refine callM_p c1 rfl ?_ | refine callK_pf rfl c1 ?_ | refine wpfS_seq1 ?_ | refine wpfS_go ?_ | fail) <;> conv => whnf)
    rfl
end Go.Ab.S

namespace Go.Ab.S
open Go Go.Ab Go.Proofs
attribute [local irreducible] SemS
set_option maxRecDepth 100000
def obs (l : List Ob) : List (List PV) := l.map Ob.row
theorem obs_len {l : List Ob} : (obs l).length = l.length := by simp [obs]
theorem obs_get {l : List Ob} {i : Nat} (h : i < l.length) : (obs l)[i]? = some l[i].row := by rw [obs, List.getElem?_map, List.getElem?_eq_getElem h]; rfl
theorem obs_app (a b : List Ob) : obs (a ++ b) = obs a ++ obs b := by simp [obs]
theorem app_ob {n : Nat} {es : List (List PV)} {r : List PV} (h1 : n = es.length) (h2 : es.length ≤ 100000) (h3 : r.length = 17) : (true && decide (n = es.length ∧ 17 = 17 ∧ (n + [r].length) * 160 ≤ 2 ^ 47 ∧ n + [r].length < 2 ^ 62) && [r].all fun r => r.length == 17) = true := by
  rw [Bool.and_eq_true, Bool.and_eq_true]
  exact ⟨⟨rfl, decide_eq_true ⟨h1, rfl, by show (n + 1) * 160 ≤ _; omega, by show n + 1 < _; omega⟩⟩, by simp [h3]⟩
set_option maxHeartbeats 2000000 in
theorem undo_Lane_ok (M : Nat → Nat) (hM : mapOk M) (e : Int) (l : List Ob) (hl : l.length ≤ 1000) (ho : ∀ o ∈ l, o.ws < 65536 ∧ o.wi < 65536 ∧ (o.k = 2 → o.bx.len ≤ 19)) : EvP PR G f_undo_Lane [mv M, iv e, slv (obs l)] (slv (obs (l.map (Ob.undo M e)))) := by
  have hlen := obs_len (l := l)
  refine EvP.of_wpf false hm c_undo_Lane rfl ?_
  generalize ha : slv (obs l) = a
  refine wpf_seq1 ?_
  conv => whnf
  refine wpfS_seq1 ?_
  refine wpf_cut 2 ?_
  subst ha
  conv => whnf
  rw [hlen]
  refine wpfS_mk0 (n := l.length) rfl (by omega) (by omega) ?_
  repeat' ((first | refine brP_t (by assumption) ?_ | refine brP_f (by assumption) ?_ | refine brP_t (decide_eq_true (by omega)) ?_ | refine brP_f (decide_eq_false (by omega)) ?_ | refine brP_t (nd_t (by omega)) ?_ | refine brP_f (nd_f (by omega)) ?_ | ((rw [hlen])) | refine wpfS_seq1 ?_ | refine wpfS_go ?_ | fail) <;> conv => whnf)
  refine SemS.loopC false hm (σ := Nat) (fun i => [(15, iv i), (14, iv l.length), (13, slv (obs l)), (7, .c (.os (.loc 1) i)), (3, .c (.ptr (.loc 0) 0)), (1, iv e)])
    (fun i => ⟨[], [.row (mrow M), .arr 17 false (obs ((l.take i).map (Ob.undo M e)))]⟩) (fun i => l.length - i) (fun i => i ≤ l.length) 0 (Nat.zero_le _) ⟨rfl, rfl, rfl, rfl, rfl, rfl, trivial⟩ rfl ?_
  intro i hi
  refine wpf_seq1 ?_
  conv => whnf
  try (refine wpfS_seq1 ?_; conv => whnf)
  refine brP_mk (fun h => ?_) (fun h => ?_)
  · have hi' : i < l.length := by have := of_decide_eq_true h; omega
    clear h
    have hget := obs_get hi'
    have hw2 : IntKind.i64.wrap ((i : Int) + 1) = ((i + 1 : Nat) : Int) := by rw [wrap64 (by omega)]; rfl
    obtain ⟨h1, h2, h3⟩ := ho l[i] (List.getElem_mem hi')
    have c1 := undo_One_ok M hM e l[i] h1 h2 h3
    have hbl : (obs ((l.take i).map (Ob.undo M e))).length = i := by rw [obs_len, List.length_map, List.length_take]; omega
    have htk : obs ((l.take (i + 1)).map (Ob.undo M e)) = obs ((l.take i).map (Ob.undo M e)) ++ [(l[i].undo M e).row] := by
      rw [List.take_succ_eq_append_getElem hi', List.map_append, obs_app]; rfl
    generalize l[i].undo M e = x at *
    generalize l[i] = o at *
    repeat' ((first | refine brP_t (by assumption) ?_ | refine brP_f (by assumption) ?_ | refine brP_t (decide_eq_true (by omega)) ?_ | refine brP_f (decide_eq_false (by omega)) ?_ | refine brP_t (nd_t (by omega)) ?_ | refine brP_f (nd_f (by omega)) ?_ | ((conv in (opS _ _ _ _) => whnf); rw [Int.toNat_natCast, hget]) | ((conv in (opM _ _ _ _ _) => whnf); (conv in (opS _ _ _ _) => whnf); rw [Int.toNat_natCast, hget]) | refine callK_p c1 ?_ | refine callM_p c1 rfl ?_ | refine callK_pf rfl c1 ?_ | (refine gd_mk ?_ ?_; focus (exact app_ob hbl.symm (by omega) rfl; done)) | ((rw [hw2])) | refine wpfS_seq1 ?_ | refine wpfS_go ?_ | fail) <;> conv => whnf)
    refine ⟨i + 1, 2, hi', (show l.length - (i + 1) < l.length - i by omega), ⟨rfl, rfl, rfl, rfl, rfl, rfl, trivial⟩, Nat.le_refl _, ?_, rfl, rfl⟩
    show _ = (⟨[], [_, .arr 17 false (obs ((l.take (i + 1)).map (Ob.undo M e)))]⟩ : Hp)
    rw [htk]; rfl
  · have hi' : i = l.length := by have := of_decide_eq_false h; omega
    subst hi'
    clear h
    rw [List.take_length]
    have hbl : (obs (l.map (Ob.undo M e))).length = l.length := by rw [obs_len, List.length_map]
    repeat' ((first | refine brP_t (by assumption) ?_ | refine brP_f (by assumption) ?_ | refine brP_t (decide_eq_true (by omega)) ?_ | refine brP_f (decide_eq_false (by omega)) ?_ | refine brP_t (nd_t (by omega)) ?_ | refine brP_f (nd_f (by omega)) ?_ | (refine gd_mk ?_ ?_; focus (rw [Bool.and_true]; exact decide_eq_true hbl.symm; done)) | refine wpfS_seq1 ?_ | refine wpfS_go ?_ | fail) <;> conv => whnf)
    rfl
def Ob.stampO (M : Nat → Nat) (e : Int) (o : Ob) : Ob := if o.swept then o else { o with
  ws := o.ls
  wi := o.li
  ls := setN M o.ls
  li := setN M o.li
  swept := true
  stamp := e
  bx := if o.k = 2 then o.bx.aside else o.bx }
set_option maxHeartbeats 4000000 in
theorem R31_One_ok (M : Nat → Nat) (hM : mapOk M) (e : Int) (o : Ob) (hs : o.ls < 65536) (hi : o.li < 65536) (hg : o.k = 2 → o.bx.Good) : EvP PR G f_R31_One [mv M, iv e, .agg o.row] (.agg (o.stampO M e).row) := by
  have c1 := R04_Label_ok M hM o.ls o.li hs hi
  have c2 : o.k = 2 → _ := fun h => R23_SetAside_ok o.bx (hg h)
  have hu : o.stampO M e = if o.swept then o else { o with ws := o.ls, wi := o.li, ls := setN M o.ls, li := setN M o.li, swept := true, stamp := e, bx := if o.k = 2 then o.bx.aside else o.bx } := rfl
  rw [hu]
  obtain ⟨ids, idi, k, n, ls, li, st, sw, ws, wi, role, buf, dead, bx⟩ := o
  dsimp only at *
  generalize setN M ls = l1 at *
  generalize setN M li = l2 at *
  cases sw with
  | true =>
    obtain ⟨bn, bq, ba, bh⟩ := bx
    show EvP PR G f_R31_One [mv M, _, .agg [.int .u16 ids, .int .u16 idi, .int .i64 k, .int .i64 n, .int .u16 ls, .int .u16 li, .int .i64 st, .bool true, .int .u16 ws, .int .u16 wi, .int .i64 role, .str buf, .bool dead, .int .i64 bn, .sl (msgs bq), .sl (msgs ba), .sl (msgs bh)]] _
    refine EvP.of_wpf false hm c_R31_One rfl ?_
    refine wpf_seq1 ?_
    conv => whnf
    repeat' ((first | refine brP_t (by assumption) ?_ | refine brP_f (by assumption) ?_ | refine brP_t (decide_eq_true (by omega)) ?_ | refine brP_f (decide_eq_false (by omega)) ?_ | refine brP_t (nd_t (by omega)) ?_ | refine brP_f (nd_f (by omega)) ?_ | refine wpfS_seq1 ?_ | refine wpfS_go ?_ | fail) <;> conv => whnf)
    rfl
  | false =>
    rw [if_neg (by decide)]
    by_cases hk : k = 2
    · have c2 := c2 hk
      rw [if_pos hk]
      generalize bx.aside = b2 at *
      obtain ⟨bn, bq, ba, bh⟩ := bx
      show EvP PR G f_R31_One [mv M, _, .agg [.int .u16 ids, .int .u16 idi, .int .i64 k, .int .i64 n, .int .u16 ls, .int .u16 li, .int .i64 st, .bool false, .int .u16 ws, .int .u16 wi, .int .i64 role, .str buf, .bool dead, .int .i64 bn, .sl (msgs bq), .sl (msgs ba), .sl (msgs bh)]] _
      refine EvP.of_wpf false hm c_R31_One rfl ?_
      refine wpf_seq1 ?_
      conv => whnf
      repeat' ((first | refine brP_t (by assumption) ?_ | refine brP_f (by assumption) ?_ | refine brP_t (decide_eq_true (by omega)) ?_ | refine brP_f (decide_eq_false (by omega)) ?_ | refine brP_t (nd_t (by omega)) ?_ | refine brP_f (nd_f (by omega)) ?_ | refine callK_p c1 ?_ | refine callM_p c1 rfl ?_ | refine callK_pf rfl c1 ?_ | refine callK_p c2 ?_ | refine callM_p c2 rfl ?_ | refine callK_pf rfl c2 ?_ | refine wpfS_seq1 ?_ | refine wpfS_go ?_ | fail) <;> conv => whnf)
      rfl
    · rw [if_neg hk]
      obtain ⟨bn, bq, ba, bh⟩ := bx
      show EvP PR G f_R31_One [mv M, _, .agg [.int .u16 ids, .int .u16 idi, .int .i64 k, .int .i64 n, .int .u16 ls, .int .u16 li, .int .i64 st, .bool false, .int .u16 ws, .int .u16 wi, .int .i64 role, .str buf, .bool dead, .int .i64 bn, .sl (msgs bq), .sl (msgs ba), .sl (msgs bh)]] _
      refine EvP.of_wpf false hm c_R31_One rfl ?_
      refine wpf_seq1 ?_
      conv => whnf
      repeat' ((first | refine brP_t (by assumption) ?_ | refine brP_f (by assumption) ?_ | refine brP_t (decide_eq_true (by omega)) ?_ | refine brP_f (decide_eq_false (by omega)) ?_ | refine brP_t (nd_t (by omega)) ?_ | refine brP_f (nd_f (by omega)) ?_ | refine callK_p c1 ?_ | refine callM_p c1 rfl ?_ | refine callK_pf rfl c1 ?_ | refine wpfS_seq1 ?_ | refine wpfS_go ?_ | fail) <;> conv => whnf)
      rfl
end Go.Ab.S
