/- What is undone may be. No condition. -/
import Derived.Test.YtmohadlgjokgmaaBxUA
set_option linter.unusedSimpArgs false
set_option linter.unusedVariables false
namespace Go.Ab.S
open Go Go.Ab Go.Proofs
attribute [local irreducible] SemS
set_option maxRecDepth 100000
/-! ### The calls at the end of each statement of layer 33 -/
def vo : Ob := ⟨4, 0, 2, 0, 4, 0, 0, false, 0, 0, 0, [], false, ⟨1, [⟨0, 0, 4, 0, 0, 0, []⟩], [], []⟩⟩
def vp : Ob := ⟨0, 0, 1, 0, 1, 0, 1, true, 0, 0, 0, [], false, Bx.emp⟩
def vp2 : Ob := { vp with ws := 4 }
def vq : Ob := ⟨0, 0, 1, 0, 1, 0, 0, false, 0, 0, 0, [], false, Bx.emp⟩
def vr : Ob := ⟨0, 0, 1, 0, 4, 0, 0, false, 0, 0, 0, [], false, Bx.emp⟩
set_option maxHeartbeats 4000000 in
theorem L33_alive_ok : EvP PR G f_L33_alive [] (bv true) := by
  have hM : mapOk (madeN [(2, 5)]) := fun i hi => by have := made_lt [(2, 5)] i hi; omega
  have c0 := R04_Made_ok [(2, 5)] (by decide)
  have c1 := R31_One_ok (madeN [(2, 5)]) hM 1 vo (by decide) (by decide) (fun _ => Bx.fine_iff.1 rfl)
  have c2 := undo_One_ok (madeN [(2, 5)]) hM 0 (vo.stampO (madeN [(2, 5)]) 1) (by decide) (by decide) (fun _ => by decide)
  rw [show (vo.stampO (madeN [(2, 5)]) 1).undo (madeN [(2, 5)]) 0 = vo by decide +kernel] at c2
  have c3 := undo_One_ok (madeN [(2, 5)]) hM 0 vp (by decide) (by decide) (fun _ => by decide)
  rw [show vp.undo (madeN [(2, 5)]) 0 = vq by decide +kernel] at c3
  have c4 := undo_One_ok (madeN [(2, 5)]) hM 0 vp2 (by decide) (by decide) (fun _ => by decide)
  rw [show vp2.undo (madeN [(2, 5)]) 0 = vr by decide +kernel] at c4
  have c5 := undo_Lane_ok (madeN [(2, 5)]) hM 0 [vp2, vo] (by decide) (by decide)
  rw [show [vp2, vo].map (Ob.undo (madeN [(2, 5)]) 0) = [vr, vo] by decide +kernel] at c5
  have c6 := R25_Same_ok vo vo ⟨by decide, by decide⟩
  rw [decide_eq_true rfl] at c6
  have c7 := R25_Same_ok vr vr ⟨by decide, by decide⟩
  rw [decide_eq_true rfl] at c7
  generalize vo.stampO (madeN [(2, 5)]) 1 = vs at *
  generalize madeN [(2, 5)] = M at *
  refine EvP.of_wpf false hm c_L33_alive rfl ?_
  refine wpf_seq1 ?_
  conv => whnf
  repeat' ((first | refine brP_t (by assumption) ?_ | refine brP_f (by assumption) ?_ | refine brP_t (decide_eq_true (by omega)) ?_ | refine brP_f (decide_eq_false (by omega)) ?_ | refine brP_t (nd_t (by omega)) ?_ | refine brP_f (nd_f (by omega)) ?_ | refine callK_p c0 ?_ | refine callM_p c0 rfl ?_ | refine callK_pf rfl c0 ?_ | refine callK_p c1 ?_ | refine callM_p c1 rfl ?_ | refine callK_pf rfl c1 ?_ | refine callK_p c2 ?_ | refine callM_p c2 rfl ?_ | refine callK_pf rfl c2 ?_ | refine callK_p c3 ?_ | refine callM_p c3 rfl ?_ | refine callK_pf rfl c3 ?_ | refine callK_p c4 ?_ | refine callM_p c4 rfl ?_ | refine callK_pf rfl c4 ?_ | refine callK_p c5 ?_ | refine callM_p c5 rfl ?_ | refine callK_pf rfl c5 ?_ | refine callK_p c6 ?_ | refine callM_p c6 rfl ?_ | refine callK_pf rfl c6 ?_ | refine callK_p c7 ?_ | refine callM_p c7 rfl ?_ | refine callK_pf rfl c7 ?_ | refine callK_pk rfl c6 ?_ | refine callK_pk rfl c7 ?_ | refine wpfS_seq1 ?_ | refine wpfS_go ?_ | fail) <;> conv => whnf)
  rfl
/-! ### What is undone may be -/
theorem minE_fine {e : Int} (he : 0 ≤ e) {m : Msg} (h : m.fine = true) : (minE e m).fine = true := by
  rw [Msg.fine_iff] at h ⊢
  obtain ⟨h1, h2, h3, h4, h5⟩ := h
  refine ⟨h1, h2, ?_, ?_, h5⟩
  · show 0 ≤ (if e < m.ep then e else m.ep); split <;> omega
  · show (if e < m.ep then e else m.ep) ≤ 255; split <;> omega
theorem fine_good {o : Ob} (h : o.fine = true) (hk : o.k = 2) : o.bx.Good := by
  unfold Ob.fine Ob.kindB at h
  simp only [Bool.and_eq_true] at h
  have h2 := h.2.2.2.2
  rw [if_neg (by omega), if_pos hk] at h2
  simp only [Bool.and_eq_true] at h2
  exact Bx.fine_iff.1 h2.2.2.2
theorem fine_emp {o : Ob} (h : o.fine = true) (hk : ¬ o.k = 2) : o.bx = Bx.emp := by
  unfold Ob.fine Ob.kindB at h
  simp only [Bool.and_eq_true] at h
  have h2 := h.2.2.2.2
  by_cases h1 : o.k = 1
  · rw [if_pos h1] at h2
    simp only [Bool.and_eq_true, decide_eq_true_eq] at h2
    exact h2.2.2.2.2
  · rw [if_neg h1, if_neg hk] at h2
    simp only [Bool.and_eq_true, decide_eq_true_eq] at h2
    exact h2.2.2.2
theorem fine_len {o : Ob} (h : o.fine = true) : o.bx.len ≤ 8 := by
  by_cases hk : o.k = 2
  · exact (fine_good h hk).len
  · rw [fine_emp h hk]; decide
theorem Bx.restore_len (b : Bx) : b.restore.len = b.len := by
  show (isort b.all).length + 0 + 0 = _
  rw [(isort_perm _).length_eq, Bx.all_len]; rfl
theorem Bx.each_len (b : Bx) (f : Msg → Msg) : (b.each f).len = b.len := by
  show (b.q.map f).length + _ + _ = _
  rw [List.length_map]; rfl
theorem undo_len (M : Nat → Nat) (e : Int) (o : Ob) : (o.undo M e).bx.len = o.bx.len := by
  show (if o.k = 2 then o.bx.restore.each (minE e) else o.bx).len = _
  split
  · rw [Bx.each_len, Bx.restore_len]
  · rfl
theorem undo_fine {M : Nat → Nat} {e : Int} (he : 0 ≤ e ∧ e ≤ 255) {o : Ob} (h : o.fine = true) : (o.undo M e).fine = true := by
  have hb : o.k = 2 → (o.bx.restore.each (minE e)).fine = true := fun hk => by
    have hg := fine_good h hk
    exact Bx.fine_iff.2 (hg.restore.each (fun _ => rfl) fun m hm => minE_fine he.1 (hg.restore.ms m (by simp [Bx.all, hm])).1)
  unfold Ob.fine at h ⊢
  simp only [Bool.and_eq_true, decide_eq_true_eq] at h ⊢
  obtain ⟨h1, -, -, -, h5⟩ := h
  refine ⟨h1, he.1, he.2, rfl, ?_⟩
  unfold Ob.kindB at h5 ⊢
  by_cases k1 : o.k = 1
  · have k2 : ¬ o.k = 2 := by omega
    rw [if_pos k1] at h5
    rw [if_pos (show (o.undo M e).k = 1 from k1)]
    have : (o.undo M e).bx = o.bx := if_neg k2
    rw [this]
    exact h5
  · rw [if_neg k1] at h5
    rw [if_neg (show ¬ (o.undo M e).k = 1 from k1)]
    by_cases k2 : o.k = 2
    · rw [if_pos k2] at h5
      rw [if_pos (show (o.undo M e).k = 2 from k2)]
      have : (o.undo M e).bx = o.bx.restore.each (minE e) := if_pos k2
      rw [this]
      simp only [Bool.and_eq_true, decide_eq_true_eq] at h5 ⊢
      exact ⟨h5.1, h5.2.1, h5.2.2.1, hb k2⟩
    · rw [if_neg k2] at h5
      rw [if_neg (show ¬ (o.undo M e).k = 2 from k2)]
      have : (o.undo M e).bx = o.bx := if_neg k2
      rw [this]
      exact h5
theorem lab_self (a b : Nat) : (decide ((a : Int) = a) && (decide ((b : Int) = b) && true)) = true := by simp
theorem Ob.lim {o : Ob} (hb : o.bx.len < 2 ^ 61) (hs : o.buf.length < 2 ^ 62) : o.Lim := ⟨hb, hs⟩
set_option maxHeartbeats 16000000 in
theorem undoMay_ok (l : List (Int × Int)) (hl63 : l.length < 2 ^ 63) (ep : Nat) (hep : ep < 256) (o : Ob) (ho : o.Ok) (hlim : o.Lim) : EvP PR G f_L33_UndoMay [slv (prows l), .c (.p (.int .u8 ep)), .agg o.row] (bv true) := by
  have hlen : (prows l).length = l.length := by simp [prows]
  have cF := R25_Fine_ok o hlim
  cases hf : o.fine with
  | false =>
    rw [hf] at cF
    refine EvP.of_wpf false hm c_L33_UndoMay rfl ?_
    refine wpf_seq1 ?_
    conv => whnf
    by_cases h20 : 20 < l.length
    · repeat' ((first | refine brP_t (by assumption) ?_ | refine brP_f (by assumption) ?_ | refine brP_t (decide_eq_true (by omega)) ?_ | refine brP_f (decide_eq_false (by omega)) ?_ | refine brP_t (nd_t (by omega)) ?_ | refine brP_f (nd_f (by omega)) ?_ | ((rw [hlen])) | refine callK_p L33_alive_ok ?_ | refine callM_p L33_alive_ok rfl ?_ | refine callK_pf rfl L33_alive_ok ?_ | refine wpfS_seq1 ?_ | refine wpfS_go ?_ | fail) <;> conv => whnf)
      rfl
    · repeat' ((first | refine brP_t (by assumption) ?_ | refine brP_f (by assumption) ?_ | refine brP_t (decide_eq_true (by omega)) ?_ | refine brP_f (decide_eq_false (by omega)) ?_ | refine brP_t (nd_t (by omega)) ?_ | refine brP_f (nd_f (by omega)) ?_ | ((rw [hlen])) | refine callK_p cF ?_ | refine callM_p cF rfl ?_ | refine callK_pf rfl cF ?_ | refine callK_p L33_alive_ok ?_ | refine callM_p L33_alive_ok rfl ?_ | refine callK_pf rfl L33_alive_ok ?_ | refine wpfS_seq1 ?_ | refine wpfS_go ?_ | fail) <;> conv => whnf)
      rfl
  | true =>
  rw [hf] at cF
  by_cases h20 : 20 < l.length
  · refine EvP.of_wpf false hm c_L33_UndoMay rfl ?_
    refine wpf_seq1 ?_
    conv => whnf
    repeat' ((first | refine brP_t (by assumption) ?_ | refine brP_f (by assumption) ?_ | refine brP_t (decide_eq_true (by omega)) ?_ | refine brP_f (decide_eq_false (by omega)) ?_ | refine brP_t (nd_t (by omega)) ?_ | refine brP_f (nd_f (by omega)) ?_ | ((rw [hlen])) | refine callK_p L33_alive_ok ?_ | refine callM_p L33_alive_ok rfl ?_ | refine callK_pf rfl L33_alive_ok ?_ | refine wpfS_seq1 ?_ | refine wpfS_go ?_ | fail) <;> conv => whnf)
    rfl
  by_cases he255 : ep = 255
  · subst he255
    refine EvP.of_wpf false hm c_L33_UndoMay rfl ?_
    refine wpf_seq1 ?_
    conv => whnf
    repeat' ((first | refine brP_t (by assumption) ?_ | refine brP_f (by assumption) ?_ | refine brP_t (decide_eq_true (by omega)) ?_ | refine brP_f (decide_eq_false (by omega)) ?_ | refine brP_t (nd_t (by omega)) ?_ | refine brP_f (nd_f (by omega)) ?_ | ((rw [hlen])) | refine callK_p cF ?_ | refine callM_p cF rfl ?_ | refine callK_pf rfl cF ?_ | refine callK_p L33_alive_ok ?_ | refine callM_p L33_alive_ok rfl ?_ | refine callK_pf rfl L33_alive_ok ?_ | refine wpfS_seq1 ?_ | refine wpfS_go ?_ | fail) <;> conv => whnf)
    rfl
  have hM : mapOk (madeN l) := fun i hi => by have := made_lt l i hi; omega
  have c0 := R04_Made_ok l (by omega)
  generalize madeN l = M at *
  have hwe : IntKind.i64.wrap (ep : Int) = (ep : Int) := wrap64 (by omega)
  have h8 := fine_len hf
  have c1 := undo_One_ok M hM ep o ho.ws ho.wi (fun _ => by omega)
  have hxl := undo_len M ep o
  have hxf := undo_fine (M := M) (e := (ep : Int)) (by omega) hf
  have c2 := object_Fine_ok (o.undo M ep) ⟨by rw [hxl]; omega, hlim.buf⟩
  rw [hxf] at c2
  have c3 := box_Len_ok (o.undo M ep).bx (by rw [hxl]; omega)
  rw [hxl] at c3
  have c4 := box_Len_ok o.bx (by omega)
  have c5 := relabel_Touches_ok M hM o.ws o.wi ho.ws ho.wi
  have hz : o.k = 2 → (o.undo M ep).bx.a = [] ∧ (o.undo M ep).bx.h = [] := fun hk => by
    have : (o.undo M ep).bx = o.bx.restore.each (minE ep) := if_pos hk
    rw [this]; exact ⟨rfl, rfl⟩
  have hz2 : ¬ o.k = 2 → (o.undo M ep).bx.a = [] ∧ (o.undo M ep).bx.h = [] := fun hk => by
    have : (o.undo M ep).bx = o.bx := if_neg hk
    rw [this, fine_emp hf hk]; exact ⟨rfl, rfl⟩
  have hz3 : (o.undo M ep).bx.a = [] ∧ (o.undo M ep).bx.h = [] := by
    by_cases hk : o.k = 2
    · exact hz hk
    · exact hz2 hk
  have hu : (o.undo M ep) = { o with ls := if o.backB M then o.ws else o.ls, li := if o.backB M then o.wi else o.li, stamp := ep, swept := false, ws := 0, wi := 0, bx := (o.undo M ep).bx } := rfl
  rw [hu] at c1 c2
  have hbk : o.backB M = (o.swept && (!decide (o.k = 1) || touchesB M o.ws o.wi)) := rfl
  generalize (o.undo M ep).bx = b2 at *
  generalize o.bx.len = L at *
  obtain ⟨bn2, bq2, ba2, bh2⟩ := b2
  obtain ⟨hz3, hz4⟩ := hz3
  dsimp only at hz3 hz4
  subst hz3 hz4
  generalize o.backB M = B at *
  clear hu hxf hf hxl hz hz2 h8 ho hlim
  obtain ⟨ids, idi, k, n, ls, li, st, sw, ws, wi, role, buf, dead, bx⟩ := o
  obtain ⟨bn, bq, ba, bh⟩ := bx
  dsimp only at *
  generalize touchesB M ws wi = q at *
  have e1 := lab_self ls li
  have e2 := lab_self ws wi
  show EvP PR G f_L33_UndoMay [_, _, .agg [.int .u16 ids, .int .u16 idi, .int .i64 k, .int .i64 n, .int .u16 ls, .int .u16 li, .int .i64 st, .bool sw, .int .u16 ws, .int .u16 wi, .int .i64 role, .str buf, .bool dead, .int .i64 bn, .sl (msgs bq), .sl (msgs ba), .sl (msgs bh)]] _
  refine EvP.of_wpf false hm c_L33_UndoMay rfl ?_
  refine wpf_seq1 ?_
  conv => whnf
  cases sw with
  | false =>
    subst hbk
    repeat' ((first | refine brP_t (by assumption) ?_ | refine brP_f (by assumption) ?_ | refine brP_t (decide_eq_true (by omega)) ?_ | refine brP_f (decide_eq_false (by omega)) ?_ | refine brP_t (nd_t (by omega)) ?_ | refine brP_f (nd_f (by omega)) ?_ | ((rw [hlen])) | refine callK_p cF ?_ | refine callM_p cF rfl ?_ | refine callK_pf rfl cF ?_ | refine callK_p c0 ?_ | refine callM_p c0 rfl ?_ | refine callK_pf rfl c0 ?_ | ((rw [hwe])) | refine callK_p c1 ?_ | refine callM_p c1 rfl ?_ | refine callK_pf rfl c1 ?_ | refine callK_p c2 ?_ | refine callM_p c2 rfl ?_ | refine callK_pf rfl c2 ?_ | refine callK_p c3 ?_ | refine callM_p c3 rfl ?_ | refine callK_pf rfl c3 ?_ | refine callK_p c4 ?_ | refine callM_p c4 rfl ?_ | refine callK_pf rfl c4 ?_ | refine callK_p c5 ?_ | refine callM_p c5 rfl ?_ | refine callK_pf rfl c5 ?_ | ((rw [e1])) | ((rw [e2])) | refine brP_f (nd_f rfl) ?_ | refine brP_t (decide_eq_true rfl) ?_ | refine callK_p L33_alive_ok ?_ | refine callM_p L33_alive_ok rfl ?_ | refine callK_pf rfl L33_alive_ok ?_ | refine wpfS_seq1 ?_ | refine wpfS_go ?_ | fail) <;> conv => whnf)
    rfl
  | true =>
    by_cases hk : k = 1
    · rw [decide_eq_true hk] at hbk
      cases q with
      | true =>
        subst hbk
        repeat' ((first | refine brP_t (by assumption) ?_ | refine brP_f (by assumption) ?_ | refine brP_t (decide_eq_true (by omega)) ?_ | refine brP_f (decide_eq_false (by omega)) ?_ | refine brP_t (nd_t (by omega)) ?_ | refine brP_f (nd_f (by omega)) ?_ | ((rw [hlen])) | refine callK_p cF ?_ | refine callM_p cF rfl ?_ | refine callK_pf rfl cF ?_ | refine callK_p c0 ?_ | refine callM_p c0 rfl ?_ | refine callK_pf rfl c0 ?_ | ((rw [hwe])) | refine callK_p c1 ?_ | refine callM_p c1 rfl ?_ | refine callK_pf rfl c1 ?_ | refine callK_p c2 ?_ | refine callM_p c2 rfl ?_ | refine callK_pf rfl c2 ?_ | refine callK_p c3 ?_ | refine callM_p c3 rfl ?_ | refine callK_pf rfl c3 ?_ | refine callK_p c4 ?_ | refine callM_p c4 rfl ?_ | refine callK_pf rfl c4 ?_ | refine callK_p c5 ?_ | refine callM_p c5 rfl ?_ | refine callK_pf rfl c5 ?_ | ((rw [e1])) | ((rw [e2])) | refine brP_f (nd_f rfl) ?_ | refine brP_t (decide_eq_true rfl) ?_ | refine callK_p L33_alive_ok ?_ | refine callM_p L33_alive_ok rfl ?_ | refine callK_pf rfl L33_alive_ok ?_ | refine wpfS_seq1 ?_ | refine wpfS_go ?_ | fail) <;> conv => whnf)
        rfl
      | false =>
        subst hbk
        repeat' ((first | refine brP_t (by assumption) ?_ | refine brP_f (by assumption) ?_ | refine brP_t (decide_eq_true (by omega)) ?_ | refine brP_f (decide_eq_false (by omega)) ?_ | refine brP_t (nd_t (by omega)) ?_ | refine brP_f (nd_f (by omega)) ?_ | ((rw [hlen])) | refine callK_p cF ?_ | refine callM_p cF rfl ?_ | refine callK_pf rfl cF ?_ | refine callK_p c0 ?_ | refine callM_p c0 rfl ?_ | refine callK_pf rfl c0 ?_ | ((rw [hwe])) | refine callK_p c1 ?_ | refine callM_p c1 rfl ?_ | refine callK_pf rfl c1 ?_ | refine callK_p c2 ?_ | refine callM_p c2 rfl ?_ | refine callK_pf rfl c2 ?_ | refine callK_p c3 ?_ | refine callM_p c3 rfl ?_ | refine callK_pf rfl c3 ?_ | refine callK_p c4 ?_ | refine callM_p c4 rfl ?_ | refine callK_pf rfl c4 ?_ | refine callK_p c5 ?_ | refine callM_p c5 rfl ?_ | refine callK_pf rfl c5 ?_ | ((rw [e1])) | ((rw [e2])) | refine brP_f (nd_f rfl) ?_ | refine brP_t (decide_eq_true rfl) ?_ | refine callK_p L33_alive_ok ?_ | refine callM_p L33_alive_ok rfl ?_ | refine callK_pf rfl L33_alive_ok ?_ | refine wpfS_seq1 ?_ | refine wpfS_go ?_ | fail) <;> conv => whnf)
        rfl
    · rw [decide_eq_false hk] at hbk
      subst hbk
      repeat' ((first | refine brP_t (by assumption) ?_ | refine brP_f (by assumption) ?_ | refine brP_t (decide_eq_true (by omega)) ?_ | refine brP_f (decide_eq_false (by omega)) ?_ | refine brP_t (nd_t (by omega)) ?_ | refine brP_f (nd_f (by omega)) ?_ | ((rw [hlen])) | refine callK_p cF ?_ | refine callM_p cF rfl ?_ | refine callK_pf rfl cF ?_ | refine callK_p c0 ?_ | refine callM_p c0 rfl ?_ | refine callK_pf rfl c0 ?_ | ((rw [hwe])) | refine callK_p c1 ?_ | refine callM_p c1 rfl ?_ | refine callK_pf rfl c1 ?_ | refine callK_p c2 ?_ | refine callM_p c2 rfl ?_ | refine callK_pf rfl c2 ?_ | refine callK_p c3 ?_ | refine callM_p c3 rfl ?_ | refine callK_pf rfl c3 ?_ | refine callK_p c4 ?_ | refine callM_p c4 rfl ?_ | refine callK_pf rfl c4 ?_ | refine callK_p c5 ?_ | refine callM_p c5 rfl ?_ | refine callK_pf rfl c5 ?_ | ((rw [e1])) | ((rw [e2])) | refine brP_f (nd_f rfl) ?_ | refine brP_t (decide_eq_true rfl) ?_ | refine callK_p L33_alive_ok ?_ | refine callM_p L33_alive_ok rfl ?_ | refine callK_pf rfl L33_alive_ok ?_ | refine wpfS_seq1 ?_ | refine wpfS_go ?_ | fail) <;> conv => whnf)
      rfl
theorem bx_lim {cs : List PV} (h : wt shBx cs) : ∀ b : Bx, cs = b.row → b.len < 2 ^ 61 := by
  obtain ⟨a, _, rfl, -, ⟨next, rfl, hn⟩, b, _, rfl, -, ⟨q, rfl, hql, -, hq⟩, c, _, rfl, -, ⟨x, rfl, hxl, -, hx⟩, d, _, rfl, -, ⟨y, rfl, hyl, -, hy⟩, rfl⟩ := h
  intro b hb
  obtain ⟨n, q', x', y'⟩ := b
  have hb : [PV.int .i64 next, .sl q, .sl x, .sl y] = [.int .i64 n, .sl (msgs q'), .sl (msgs x'), .sl (msgs y')] := hb
  simp only [List.cons.injEq, PV.sl.injEq, and_true] at hb
  obtain ⟨-, rfl, rfl, rfl⟩ := hb
  rw [msgs_len] at hql hxl hyl
  have h1 : q'.length * 56 ≤ 0x7ffffffff000 := hql
  have h2 : x'.length * 56 ≤ 0x7ffffffff000 := hxl
  have h3 : y'.length * 56 ≤ 0x7ffffffff000 := hyl
  show q'.length + x'.length + y'.length < _
  omega
theorem ob_lim {cs : List PV} (h : wt shOb cs) : ∃ o : Ob, cs = o.row ∧ o.Ok ∧ o.Lim := by
  obtain ⟨a, _, rfl, -, hid, b, _, rfl, -, hl, c, _, rfl, -, ⟨st, rfl, hst⟩, d, _, rfl, -, ⟨sw, rfl⟩, e, _, rfl, -, hw, f, _, rfl, -, ⟨role, rfl, hrole⟩, g, _, rfl, -, ⟨buf, rfl, hbuf⟩, h', _, rfl, -, ⟨dead, rfl⟩, j, _, rfl, -, hbx, rfl⟩ := h
  obtain ⟨ids, idi, k, n, rfl, h1, h2, h3, h4⟩ := id_of hid
  obtain ⟨ls, li, rfl, h5, h6⟩ := lab_of hl
  obtain ⟨ws, wi, rfl, h7, h8⟩ := lab_of hw
  have hbl := bx_lim hbx
  obtain ⟨bx, rfl, hb⟩ := bx_of hbx
  exact ⟨⟨ids, idi, k, n, ls, li, st, sw, ws, wi, role, buf, dead, bx⟩, rfl, ⟨h1, h2, h3, h4, h5, h6, i64_of hst, h7, h8, i64_of hrole, hb⟩, ⟨hbl bx rfl, by have : buf.length ≤ 0x7ffffffff000 := hbuf; show buf.length < _; omega⟩⟩
theorem law_undoMay (pvss : List (List PV)) (hw : wts [shMoves, .int .u8, shOb] pvss) : EvP PR G f_L33_UndoMay (argAVs [shMoves, .int .u8, shOb] pvss) (.c (.p (.bool true))) := by
  obtain ⟨a, _, rfl, ha, hw⟩ := wts_cons hw
  obtain ⟨b, _, rfl, hb, hw⟩ := wts_cons hw
  obtain ⟨c, _, rfl, hc, hw⟩ := wts_cons hw
  cases wts_nil hw
  obtain ⟨t, rfl, -, hl, ht⟩ := ha
  obtain ⟨t, rfl⟩ := prows_of ht
  obtain ⟨e, rfl, he⟩ := hb
  obtain ⟨e', rfl, he'⟩ := u8_of he
  obtain ⟨o, rfl, ho, hol⟩ := ob_lim hc
  have : t.length < 2 ^ 63 := by
    have := len63 hl
    simpa [prows] using this
  exact undoMay_ok t this e' he' o ho hol
end Go.Ab.S
