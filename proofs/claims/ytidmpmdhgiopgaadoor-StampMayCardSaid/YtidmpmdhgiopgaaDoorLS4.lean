/- StampMay. No condition. -/
import Derived.Test.YtidmpmdhgiopgaaDoorLS3
set_option linter.unusedSimpArgs false
set_option linter.unusedVariables false
namespace Go.Ab.S
open Go Go.Ab Go.Proofs
attribute [local irreducible] SemS
set_option maxRecDepth 100000
/-! ### The plain law -/
theorem restore_perm {b c : Bx} (hg : b.Good) (hn : c.next = b.next) (p : c.all.Perm b.all) : c.restore = b.restore := by
  show Bx.mk c.next (isort c.all) [] [] = Bx.mk b.next (isort b.all) [] []
  rw [hn, isort_congr (hg.dif.perm p.symm) p]
theorem kind_bx {o : Ob} {b : Bx} (h : o.kindB = true) (h2 : o.k = 2 → b.fine = true) (h1 : ¬ o.k = 2 → b = Bx.emp) : Ob.kindB { o with bx := b } = true := by
  unfold Ob.kindB at h ⊢
  dsimp only
  by_cases k1 : o.k = 1
  · rw [if_pos k1] at h ⊢
    simp only [Bool.and_eq_true, decide_eq_true_eq] at h ⊢
    exact ⟨h.1, h.2.1, h.2.2.1, h.2.2.2.1, h1 (by omega)⟩
  · rw [if_neg k1] at h ⊢
    by_cases k2 : o.k = 2
    · rw [if_pos k2] at h ⊢
      simp only [Bool.and_eq_true, decide_eq_true_eq] at h ⊢
      exact ⟨h.1, h.2.1, h.2.2.1, h2 k2⟩
    · rw [if_neg k2] at h ⊢
      simp only [Bool.and_eq_true, decide_eq_true_eq] at h ⊢
      exact ⟨h.1, h.2.1, h.2.2.1, h1 k2⟩
theorem fine_kind {o : Ob} (h : o.fine = true) : o.kindB = true := by
  unfold Ob.fine at h
  simp only [Bool.and_eq_true] at h
  exact h.2.2.2.2
/-- Another mailbox that may be: the object may be. -/
theorem fine_bx {o : Ob} {b : Bx} (h : o.fine = true) (h2 : o.k = 2 → b.fine = true) (h1 : ¬ o.k = 2 → b = Bx.emp) : Ob.fine { o with bx := b } = true := by
  have hk := kind_bx (fine_kind h) h2 h1
  unfold Ob.fine at h ⊢
  simp only [Bool.and_eq_true] at h ⊢
  exact ⟨h.1, h.2.1, h.2.2.1, h.2.2.2.1, hk⟩
theorem fine_sw {o : Ob} {e : Int} {a b c d : Nat} (he : 0 ≤ e ∧ e ≤ 255) (h : o.fine = true) : Ob.fine { o with stamp := e, swept := true, ls := a, li := b, ws := c, wi := d } = true := by
  have hk := fine_kind h
  unfold Ob.fine at h ⊢
  simp only [Bool.and_eq_true, decide_eq_true_eq] at h ⊢
  exact ⟨h.1, he.1, he.2, rfl, hk⟩
theorem fine_un {o : Ob} (h : o.fine = true) : Ob.fine { o with swept := false, ws := 0, wi := 0 } = true := by
  have hk := fine_kind h
  unfold Ob.fine at h ⊢
  simp only [Bool.and_eq_true, decide_eq_true_eq] at h ⊢
  exact ⟨h.1, h.2.1, h.2.2.1, rfl, hk⟩
theorem comm_fine {M : Nat → Nat} {e : Int} (he : 0 ≤ e ∧ e ≤ 255) {m : Msg} (h : m.fine = true) : (commM M e m).fine = true := by
  unfold commM
  split
  · exact h
  · rw [Msg.fine_iff] at h ⊢
    obtain ⟨h1, h2, h3, h4, h5⟩ := h
    exact ⟨h1, h2, he.1, he.2, h5⟩
theorem comm_no {M : Nat → Nat} {e : Int} (m : Msg) : (commM M e m).no = m.no := by
  unfold commM; split <;> rfl
theorem comm_role {M : Nat → Nat} {e : Int} (m : Msg) : (commM M e m).role = m.role := by
  unfold commM; split <;> rfl
theorem comm_data {M : Nat → Nat} {e : Int} (m : Msg) : (commM M e m).data = m.data := by
  unfold commM; split <;> rfl
theorem comm_ep {M : Nat → Nat} {e : Int} (m : Msg) : (commM M e m).ep = e := by
  unfold commM; split
  · rename_i h; exact h
  · rfl
theorem comm_touch {M : Nat → Nat} (hf : fineB M = true) {e : Int} {m : Msg} (h : ¬ m.ep = e) : touchesB M (commM M e m).s (commM M e m).i = false := by
  unfold commM; rw [if_neg h]
  exact touches_img hf
theorem commit_fine {M : Nat → Nat} {e : Int} (he : 0 ≤ e ∧ e ≤ 255) {o : Ob} (h : o.fine = true) : (o.commit M e).fine = true := by
  refine fine_bx (o := { o with swept := false, ws := 0, wi := 0 }) (b := if o.k = 2 then o.bx.forget.each (commM M e) else o.bx) (fine_un h) (fun hk => ?_) fun hk => ?_
  · have hk : o.k = 2 := hk
    rw [if_pos hk]
    have hg := (fine_good h hk).forget
    exact Bx.fine_iff.2 (hg.each comm_no fun m hm => comm_fine he (hg.ms m (by simp [Bx.all, hm])).1)
  · have hk : ¬ o.k = 2 := hk
    rw [if_neg hk]
    exact fine_emp h hk
theorem stampO_eq {M : Nat → Nat} {e : Int} {o : Ob} (hs : o.swept = false) : o.stampO M e = { o with ws := o.ls, wi := o.li, ls := setN M o.ls, li := setN M o.li, swept := true, stamp := e, bx := if o.k = 2 then o.bx.aside else o.bx } := by
  unfold Ob.stampO; rw [hs]; rfl
def evenB (m : Msg) : Bool := decide (m.role.tmod 2 = 0)
theorem StampMay_1_ok (m : Msg) : EvP PR G f_L31_StampMay_1 [.agg m.row] (bv (evenB m)) := by
  obtain ⟨no, ep, s, i', role, used, data⟩ := m
  refine EvP.of_wpf false hm c_L31_StampMay_1 rfl ?_
  conv => whnf
  repeat' ((first | refine brP_t (by assumption) ?_ | refine brP_f (by assumption) ?_ | refine brP_t (decide_eq_true (by omega)) ?_ | refine brP_f (decide_eq_false (by omega)) ?_ | refine brP_t (nd_t (by omega)) ?_ | refine brP_f (nd_f (by omega)) ?_ | refine wpfS_seq1 ?_ | refine wpfS_go ?_ | fail) <;> conv => whnf)
  rfl
set_option maxHeartbeats 16000000 in
theorem stampMay_ok (l : List (Int × Int)) (hl63 : l.length < 2 ^ 63) (ep : Nat) (hep : ep < 256) (o : Ob) (ho : o.Ok) (hlim : o.Lim) : EvP PR G f_L31_StampMay [slv (prows l), .c (.p (.int .u8 ep)), .agg o.row] (bv true) := by
  have hlen : (prows l).length = l.length := by simp [prows]
  have cF := R25_Fine_ok o hlim
  have hrow : o.row = [.int .u16 o.ids, .int .u16 o.idi, .int .i64 o.k, .int .i64 o.n, .int .u16 o.ls, .int .u16 o.li, .int .i64 o.stamp, .bool o.swept, .int .u16 o.ws, .int .u16 o.wi, .int .i64 o.role, .str o.buf, .bool o.dead, .int .i64 o.bx.next, .sl (msgs o.bx.q), .sl (msgs o.bx.a), .sl (msgs o.bx.h)] := rfl
  refine EvP.of_wpf false hm c_L31_StampMay rfl ?_
  rw [hrow]
  rw [hrow] at cF
  refine wpf_seq1 ?_
  conv => whnf
  by_cases h20 : 20 < l.length
  · repeat' ((first | refine brP_t (by assumption) ?_ | refine brP_f (by assumption) ?_ | refine brP_t (decide_eq_true (by omega)) ?_ | refine brP_f (decide_eq_false (by omega)) ?_ | refine brP_t (nd_t (by omega)) ?_ | refine brP_f (nd_f (by omega)) ?_ | ((rw [hlen])) | refine callK_p L31_alive_ok ?_ | refine callM_p L31_alive_ok rfl ?_ | refine callK_pf rfl L31_alive_ok ?_ | refine callK_pk rfl L31_alive_ok ?_ | refine wpfS_seq1 ?_ | refine wpfS_go ?_ | fail) <;> conv => whnf)
    rfl
  cases hf : o.fine with
  | false =>
    rw [hf] at cF
    repeat' ((first | refine brP_t (by assumption) ?_ | refine brP_f (by assumption) ?_ | refine brP_t (decide_eq_true (by omega)) ?_ | refine brP_f (decide_eq_false (by omega)) ?_ | refine brP_t (nd_t (by omega)) ?_ | refine brP_f (nd_f (by omega)) ?_ | ((rw [hlen])) | refine callK_p cF ?_ | refine callM_p cF rfl ?_ | refine callK_pf rfl cF ?_ | refine callK_pk rfl cF ?_ | refine callK_p L31_alive_ok ?_ | refine callM_p L31_alive_ok rfl ?_ | refine callK_pf rfl L31_alive_ok ?_ | refine callK_pk rfl L31_alive_ok ?_ | refine wpfS_seq1 ?_ | refine wpfS_go ?_ | fail) <;> conv => whnf)
    rfl
  | true =>
  rw [hf] at cF
  by_cases he0 : ep = 0
  · subst he0
    repeat' ((first | refine brP_t (by assumption) ?_ | refine brP_f (by assumption) ?_ | refine brP_t (decide_eq_true (by omega)) ?_ | refine brP_f (decide_eq_false (by omega)) ?_ | refine brP_t (nd_t (by omega)) ?_ | refine brP_f (nd_f (by omega)) ?_ | ((rw [hlen])) | refine callK_p cF ?_ | refine callM_p cF rfl ?_ | refine callK_pf rfl cF ?_ | refine callK_pk rfl cF ?_ | refine callK_p L31_alive_ok ?_ | refine callM_p L31_alive_ok rfl ?_ | refine callK_pf rfl L31_alive_ok ?_ | refine callK_pk rfl L31_alive_ok ?_ | refine wpfS_seq1 ?_ | refine wpfS_go ?_ | fail) <;> conv => whnf)
    rfl
  cases hsw : o.swept with
  | true =>
    rw [hsw] at cF
    repeat' ((first | refine brP_t (by assumption) ?_ | refine brP_f (by assumption) ?_ | refine brP_t (decide_eq_true (by omega)) ?_ | refine brP_f (decide_eq_false (by omega)) ?_ | refine brP_t (nd_t (by omega)) ?_ | refine brP_f (nd_f (by omega)) ?_ | ((rw [hlen])) | refine callK_p cF ?_ | refine callM_p cF rfl ?_ | refine callK_pf rfl cF ?_ | refine callK_pk rfl cF ?_ | refine callK_p L31_alive_ok ?_ | refine callM_p L31_alive_ok rfl ?_ | refine callK_pf rfl L31_alive_ok ?_ | refine callK_pk rfl L31_alive_ok ?_ | refine wpfS_seq1 ?_ | refine wpfS_go ?_ | fail) <;> conv => whnf)
    rfl
  | false =>
  rw [hsw] at cF
  have hM : mapOk (madeN l) := fun i hi => by have := made_lt l i hi; omega
  have hfM : fineB (madeN l) = true := made_fine l
  have c0 := R04_Made_ok l (by omega)
  generalize madeN l = M at *
  have hwe : IntKind.i64.wrap (ep : Int) = (ep : Int) := wrap64 (by omega)
  have hE : (0 : Int) ≤ ep ∧ (ep : Int) ≤ 255 := by omega
  have h8 := fine_len hf
  -- the stamped one
  have c1 := stamp_One_ok M hM ep o ho.ls ho.li (fun _ => by omega)
  rw [hrow, hsw, stampO_eq hsw] at c1
  generalize hB : (if o.k = 2 then o.bx.aside else o.bx) = B at *
  have hBlen : B.len = o.bx.len := by
    rw [← hB]; split
    · rw [← Bx.all_len, (aside_perm o.bx).length_eq, Bx.all_len]
    · rfl
  have hBf : o.k = 2 → B.Good := fun hk => by rw [← hB, if_pos hk]; exact (fine_good hf hk).aside
  have hBe : ¬ o.k = 2 → B = Bx.emp := fun hk => by rw [← hB, if_neg hk]; exact fine_emp hf hk
  have hBr : B.restore = o.bx.restore := by
    by_cases hk : o.k = 2
    · rw [← hB, if_pos hk]; exact restore_perm (fine_good hf hk) rfl (aside_perm o.bx)
    · rw [← hB, if_neg hk]
  have hBq : ∀ m ∈ B.all, m.Ok := fun m hm => by
    have : m ∈ o.bx.all := by
      rw [← hB] at hm; split at hm
      · exact (aside_perm o.bx).mem_iff.1 hm
      · exact hm
    simp only [Bx.all, List.mem_append] at this
    rcases this with (h | h) | h
    · exact ho.bx.q m h
    · exact ho.bx.a m h
    · exact ho.bx.h m h
  clear hB
  have fX : Ob.fine { o with ws := o.ls, wi := o.li, ls := setN M o.ls, li := setN M o.li, swept := true, stamp := ep, bx := B } = true :=
    fine_bx (o := { o with ws := o.ls, wi := o.li, ls := setN M o.ls, li := setN M o.li, swept := true, stamp := ep }) (fine_sw hE hf) (fun hk => Bx.fine_iff.2 (hBf hk)) hBe
  have c2 := object_Fine_ok { o with ws := o.ls, wi := o.li, ls := setN M o.ls, li := setN M o.li, swept := true, stamp := ep, bx := B } ⟨by show B.len < _; rw [hBlen]; exact hlim.bx, hlim.buf⟩
  rw [fX] at c2
  have c3 := relabel_Touches_ok M hM (setN M o.ls) (setN M o.li) setN_lt setN_lt
  rw [touches_img hfM] at c3
  have c4 := relabel_Label_ok M hM o.ls o.li ho.ls ho.li
  have c5 := box_Len_ok B (by omega)
  rw [hBlen] at c5
  have c6 := box_Len_ok o.bx (by omega)
  have c7 := box_Restore_ok B (by omega)
  have c8 := box_Restore_ok o.bx (by omega)
  rw [hBr] at c7
  have hrl : o.bx.restore.q.length < 2 ^ 63 ∧ o.bx.restore.a.length < 2 ^ 63 ∧ o.bx.restore.h.length < 2 ^ 63 := by
    refine ⟨?_, by show (0 : Nat) < 2 ^ 63; decide, by show (0 : Nat) < 2 ^ 63; decide⟩
    show (isort o.bx.all).length < 2 ^ 63
    rw [(isort_perm _).length_eq, Bx.all_len]; omega
  have c9 := R23_Same_ok o.bx.restore o.bx.restore hrl.1 hrl.2.1 hrl.2.2
  rw [decide_eq_true rfl] at c9
  -- let go
  have d0 : EvR PR G f_box_Let [.agg B.row, .c (.fn f_L31_StampMay_1 [])] ⟨[], []⟩ (.agg (B.letK evenB).row) ⟨[], []⟩ :=
    box_Let_ok f_L31_StampMay_1 [] (fun _ => []) (fun _ => rfl) (fun _ _ => rfl) evenB B (by omega) fun i h ls => (StampMay_1_ok B.a[i]).at _
  have hC : (B.letK evenB).len = B.len := by rw [← Bx.all_len, (let_perm B evenB).length_eq, Bx.all_len]
  have hCf : o.k = 2 → (B.letK evenB).Good := fun hk => (hBf hk).letK evenB
  have hCe : ¬ o.k = 2 → B.letK evenB = Bx.emp := fun hk => by rw [hBe hk]; rfl
  have hCa : (B.letK evenB).a = [] := rfl
  have hCq : ∀ m ∈ (B.letK evenB).q, m.Ok := fun m hm => hBq m ((let_perm B evenB).mem_iff.1 (by simp [Bx.all, hm]))
  generalize B.letK evenB = D at *
  have hDlen : D.len = D.q.length + D.a.length + D.h.length := rfl
  have fY : Ob.fine { o with ws := o.ls, wi := o.li, ls := setN M o.ls, li := setN M o.li, swept := true, stamp := ep, bx := D } = true :=
    fine_bx (o := { o with ws := o.ls, wi := o.li, ls := setN M o.ls, li := setN M o.li, swept := true, stamp := ep }) (fine_sw hE hf) (fun hk => Bx.fine_iff.2 (hCf hk)) hCe
  have d1 := stamp_Commit_ok M hM ep { o with ws := o.ls, wi := o.li, ls := setN M o.ls, li := setN M o.li, swept := true, stamp := ep, bx := D } (by show D.q.length ≤ 1000; omega) hCq
  have fZ := commit_fine (M := M) hE fY
  have hZ : Ob.commit M ep { o with ws := o.ls, wi := o.li, ls := setN M o.ls, li := setN M o.li, swept := true, stamp := ep, bx := D } = { o with ws := 0, wi := 0, ls := setN M o.ls, li := setN M o.li, swept := false, stamp := ep, bx := ⟨D.next, D.q.map (commM M ep), [], []⟩ } := by
    have hb : (if o.k = 2 then D.forget.each (commM M ep) else D) = ⟨D.next, D.q.map (commM M ep), [], []⟩ := by
      by_cases hk : o.k = 2
      · rw [if_pos hk]
        show Bx.mk D.next (D.q.map (commM M ep)) D.a [] = _
        rw [hCa]
      · rw [if_neg hk, hCe hk]; rfl
    show Ob.mk _ _ _ _ _ _ _ _ _ _ _ _ _ (if o.k = 2 then D.forget.each (commM M ep) else D) = _
    rw [hb]
  rw [hZ] at d1 fZ
  have d2 := object_Fine_ok { o with ws := 0, wi := 0, ls := setN M o.ls, li := setN M o.li, swept := false, stamp := ep, bx := ⟨D.next, D.q.map (commM M ep), [], []⟩ } ⟨by show (D.q.map (commM M ep)).length + 0 + 0 < _; rw [List.length_map]; omega, hlim.buf⟩
  rw [fZ] at d2
  have d3 := box_Len_ok ⟨D.next, D.q.map (commM M ep), [], []⟩ (by show (D.q.map (commM M ep)).length + 0 + 0 < _; rw [List.length_map]; omega)
  rw [show Bx.len ⟨D.next, D.q.map (commM M ep), [], []⟩ = D.q.length by show (D.q.map (commM M ep)).length + 0 + 0 = _; rw [List.length_map]; rfl] at d3
  have e1 := lab_self o.ls o.li
  have e2 := lab_self (setN M o.ls) (setN M o.li)
  have hlq := msgs_len (l := D.q)
  have hlz := msgs_len (l := D.q.map (commM M ep))
  rw [List.length_map] at hlz
  clear fX fY fZ hZ hBe hBf hCe hCf hBr hrl hBq
  generalize o.bx.len = LL at *
  generalize setN M o.ls = s1 at *
  generalize setN M o.li = s2 at *
  obtain ⟨Bn, Bq, Ba, Bh⟩ := B
  obtain ⟨Rn, Rq, Ra, Rh⟩ := o.bx.restore
  repeat' ((first | refine brP_t (by assumption) ?_ | refine brP_f (by assumption) ?_ | refine brP_t (decide_eq_true (by omega)) ?_ | refine brP_f (decide_eq_false (by omega)) ?_ | refine brP_t (nd_t (by omega)) ?_ | refine brP_f (nd_f (by omega)) ?_ | ((rw [hlen])) | ((rw [hwe])) | ((rw [e1])) | ((rw [e2])) | ((rw [hlq])) | ((rw [hlz])) | refine brP_f (nd_f rfl) ?_ | refine brP_t (decide_eq_true rfl) ?_ | refine wpfS_seq1 ?_ | refine wpfS_go ?_ | fail) <;> conv => whnf)
  (first | refine callK_p cF ?_ | refine callM_p cF rfl ?_ | refine callK_pf rfl cF ?_ | refine callK_pk rfl cF ?_)
  conv => whnf
  repeat' ((first | refine brP_t (by assumption) ?_ | refine brP_f (by assumption) ?_ | refine brP_t (decide_eq_true (by omega)) ?_ | refine brP_f (decide_eq_false (by omega)) ?_ | refine brP_t (nd_t (by omega)) ?_ | refine brP_f (nd_f (by omega)) ?_ | ((rw [hlen])) | ((rw [hwe])) | ((rw [e1])) | ((rw [e2])) | ((rw [hlq])) | ((rw [hlz])) | refine brP_f (nd_f rfl) ?_ | refine brP_t (decide_eq_true rfl) ?_ | refine wpfS_seq1 ?_ | refine wpfS_go ?_ | fail) <;> conv => whnf)
  (first | refine callK_p c0 ?_ | refine callM_p c0 rfl ?_ | refine callK_pf rfl c0 ?_ | refine callK_pk rfl c0 ?_)
  conv => whnf
  repeat' ((first | refine brP_t (by assumption) ?_ | refine brP_f (by assumption) ?_ | refine brP_t (decide_eq_true (by omega)) ?_ | refine brP_f (decide_eq_false (by omega)) ?_ | refine brP_t (nd_t (by omega)) ?_ | refine brP_f (nd_f (by omega)) ?_ | ((rw [hlen])) | ((rw [hwe])) | ((rw [e1])) | ((rw [e2])) | ((rw [hlq])) | ((rw [hlz])) | refine brP_f (nd_f rfl) ?_ | refine brP_t (decide_eq_true rfl) ?_ | refine wpfS_seq1 ?_ | refine wpfS_go ?_ | fail) <;> conv => whnf)
  (first | refine callK_p c1 ?_ | refine callM_p c1 rfl ?_ | refine callK_pf rfl c1 ?_ | refine callK_pk rfl c1 ?_)
  conv => whnf
  repeat' ((first | refine brP_t (by assumption) ?_ | refine brP_f (by assumption) ?_ | refine brP_t (decide_eq_true (by omega)) ?_ | refine brP_f (decide_eq_false (by omega)) ?_ | refine brP_t (nd_t (by omega)) ?_ | refine brP_f (nd_f (by omega)) ?_ | ((rw [hlen])) | ((rw [hwe])) | ((rw [e1])) | ((rw [e2])) | ((rw [hlq])) | ((rw [hlz])) | refine brP_f (nd_f rfl) ?_ | refine brP_t (decide_eq_true rfl) ?_ | refine wpfS_seq1 ?_ | refine wpfS_go ?_ | fail) <;> conv => whnf)
  (first | refine callK_p c2 ?_ | refine callM_p c2 rfl ?_ | refine callK_pf rfl c2 ?_ | refine callK_pk rfl c2 ?_)
  conv => whnf
  repeat' ((first | refine brP_t (by assumption) ?_ | refine brP_f (by assumption) ?_ | refine brP_t (decide_eq_true (by omega)) ?_ | refine brP_f (decide_eq_false (by omega)) ?_ | refine brP_t (nd_t (by omega)) ?_ | refine brP_f (nd_f (by omega)) ?_ | ((rw [hlen])) | ((rw [hwe])) | ((rw [e1])) | ((rw [e2])) | ((rw [hlq])) | ((rw [hlz])) | refine brP_f (nd_f rfl) ?_ | refine brP_t (decide_eq_true rfl) ?_ | refine wpfS_seq1 ?_ | refine wpfS_go ?_ | fail) <;> conv => whnf)
  (first | refine callK_p c3 ?_ | refine callM_p c3 rfl ?_ | refine callK_pf rfl c3 ?_ | refine callK_pk rfl c3 ?_)
  conv => whnf
  repeat' ((first | refine brP_t (by assumption) ?_ | refine brP_f (by assumption) ?_ | refine brP_t (decide_eq_true (by omega)) ?_ | refine brP_f (decide_eq_false (by omega)) ?_ | refine brP_t (nd_t (by omega)) ?_ | refine brP_f (nd_f (by omega)) ?_ | ((rw [hlen])) | ((rw [hwe])) | ((rw [e1])) | ((rw [e2])) | ((rw [hlq])) | ((rw [hlz])) | refine brP_f (nd_f rfl) ?_ | refine brP_t (decide_eq_true rfl) ?_ | refine wpfS_seq1 ?_ | refine wpfS_go ?_ | fail) <;> conv => whnf)
  (first | refine callK_p c4 ?_ | refine callM_p c4 rfl ?_ | refine callK_pf rfl c4 ?_ | refine callK_pk rfl c4 ?_)
  conv => whnf
  repeat' ((first | refine brP_t (by assumption) ?_ | refine brP_f (by assumption) ?_ | refine brP_t (decide_eq_true (by omega)) ?_ | refine brP_f (decide_eq_false (by omega)) ?_ | refine brP_t (nd_t (by omega)) ?_ | refine brP_f (nd_f (by omega)) ?_ | ((rw [hlen])) | ((rw [hwe])) | ((rw [e1])) | ((rw [e2])) | ((rw [hlq])) | ((rw [hlz])) | refine brP_f (nd_f rfl) ?_ | refine brP_t (decide_eq_true rfl) ?_ | refine wpfS_seq1 ?_ | refine wpfS_go ?_ | fail) <;> conv => whnf)
  (first | refine callK_p c5 ?_ | refine callM_p c5 rfl ?_ | refine callK_pf rfl c5 ?_ | refine callK_pk rfl c5 ?_)
  conv => whnf
  repeat' ((first | refine brP_t (by assumption) ?_ | refine brP_f (by assumption) ?_ | refine brP_t (decide_eq_true (by omega)) ?_ | refine brP_f (decide_eq_false (by omega)) ?_ | refine brP_t (nd_t (by omega)) ?_ | refine brP_f (nd_f (by omega)) ?_ | ((rw [hlen])) | ((rw [hwe])) | ((rw [e1])) | ((rw [e2])) | ((rw [hlq])) | ((rw [hlz])) | refine brP_f (nd_f rfl) ?_ | refine brP_t (decide_eq_true rfl) ?_ | refine wpfS_seq1 ?_ | refine wpfS_go ?_ | fail) <;> conv => whnf)
  (first | refine callK_p c6 ?_ | refine callM_p c6 rfl ?_ | refine callK_pf rfl c6 ?_ | refine callK_pk rfl c6 ?_)
  conv => whnf
  repeat' ((first | refine brP_t (by assumption) ?_ | refine brP_f (by assumption) ?_ | refine brP_t (decide_eq_true (by omega)) ?_ | refine brP_f (decide_eq_false (by omega)) ?_ | refine brP_t (nd_t (by omega)) ?_ | refine brP_f (nd_f (by omega)) ?_ | ((rw [hlen])) | ((rw [hwe])) | ((rw [e1])) | ((rw [e2])) | ((rw [hlq])) | ((rw [hlz])) | refine brP_f (nd_f rfl) ?_ | refine brP_t (decide_eq_true rfl) ?_ | refine wpfS_seq1 ?_ | refine wpfS_go ?_ | fail) <;> conv => whnf)
  (first | refine callK_p c7 ?_ | refine callM_p c7 rfl ?_ | refine callK_pf rfl c7 ?_ | refine callK_pk rfl c7 ?_)
  conv => whnf
  repeat' ((first | refine brP_t (by assumption) ?_ | refine brP_f (by assumption) ?_ | refine brP_t (decide_eq_true (by omega)) ?_ | refine brP_f (decide_eq_false (by omega)) ?_ | refine brP_t (nd_t (by omega)) ?_ | refine brP_f (nd_f (by omega)) ?_ | ((rw [hlen])) | ((rw [hwe])) | ((rw [e1])) | ((rw [e2])) | ((rw [hlq])) | ((rw [hlz])) | refine brP_f (nd_f rfl) ?_ | refine brP_t (decide_eq_true rfl) ?_ | refine wpfS_seq1 ?_ | refine wpfS_go ?_ | fail) <;> conv => whnf)
  (first | refine callK_p c8 ?_ | refine callM_p c8 rfl ?_ | refine callK_pf rfl c8 ?_ | refine callK_pk rfl c8 ?_)
  conv => whnf
  repeat' ((first | refine brP_t (by assumption) ?_ | refine brP_f (by assumption) ?_ | refine brP_t (decide_eq_true (by omega)) ?_ | refine brP_f (decide_eq_false (by omega)) ?_ | refine brP_t (nd_t (by omega)) ?_ | refine brP_f (nd_f (by omega)) ?_ | ((rw [hlen])) | ((rw [hwe])) | ((rw [e1])) | ((rw [e2])) | ((rw [hlq])) | ((rw [hlz])) | refine brP_f (nd_f rfl) ?_ | refine brP_t (decide_eq_true rfl) ?_ | refine wpfS_seq1 ?_ | refine wpfS_go ?_ | fail) <;> conv => whnf)
  (first | refine callK_p c9 ?_ | refine callM_p c9 rfl ?_ | refine callK_pf rfl c9 ?_ | refine callK_pk rfl c9 ?_)
  conv => whnf
  repeat' ((first | refine brP_t (by assumption) ?_ | refine brP_f (by assumption) ?_ | refine brP_t (decide_eq_true (by omega)) ?_ | refine brP_f (decide_eq_false (by omega)) ?_ | refine brP_t (nd_t (by omega)) ?_ | refine brP_f (nd_f (by omega)) ?_ | ((rw [hlen])) | ((rw [hwe])) | ((rw [e1])) | ((rw [e2])) | ((rw [hlq])) | ((rw [hlz])) | refine brP_f (nd_f rfl) ?_ | refine brP_t (decide_eq_true rfl) ?_ | refine wpfS_seq1 ?_ | refine wpfS_go ?_ | fail) <;> conv => whnf)
  (first | refine callK_r (EvR.fr [] d0 rfl rfl trivial rfl) ?_ | refine callM_l (LEv.fr [] d0 rfl rfl trivial rfl rfl) ?_ | refine callK_rt (EvR.fr [] d0 rfl rfl trivial rfl) ?_ | refine callK_rf rfl (EvR.fr [] d0 rfl rfl trivial rfl) ?_ | refine callK_rft rfl (EvR.fr [] d0 rfl rfl trivial rfl) ?_)
  conv => whnf
  repeat' ((first | refine brP_t (by assumption) ?_ | refine brP_f (by assumption) ?_ | refine brP_t (decide_eq_true (by omega)) ?_ | refine brP_f (decide_eq_false (by omega)) ?_ | refine brP_t (nd_t (by omega)) ?_ | refine brP_f (nd_f (by omega)) ?_ | ((rw [hlen])) | ((rw [hwe])) | ((rw [e1])) | ((rw [e2])) | ((rw [hlq])) | ((rw [hlz])) | refine brP_f (nd_f rfl) ?_ | refine brP_t (decide_eq_true rfl) ?_ | refine wpfS_seq1 ?_ | refine wpfS_go ?_ | fail) <;> conv => whnf)
  (first | refine callK_p d1 ?_ | refine callM_p d1 rfl ?_ | refine callK_pf rfl d1 ?_ | refine callK_pk rfl d1 ?_)
  conv => whnf
  repeat' ((first | refine brP_t (by assumption) ?_ | refine brP_f (by assumption) ?_ | refine brP_t (decide_eq_true (by omega)) ?_ | refine brP_f (decide_eq_false (by omega)) ?_ | refine brP_t (nd_t (by omega)) ?_ | refine brP_f (nd_f (by omega)) ?_ | ((rw [hlen])) | ((rw [hwe])) | ((rw [e1])) | ((rw [e2])) | ((rw [hlq])) | ((rw [hlz])) | refine brP_f (nd_f rfl) ?_ | refine brP_t (decide_eq_true rfl) ?_ | refine wpfS_seq1 ?_ | refine wpfS_go ?_ | fail) <;> conv => whnf)
  (first | refine callK_p d2 ?_ | refine callM_p d2 rfl ?_ | refine callK_pf rfl d2 ?_ | refine callK_pk rfl d2 ?_)
  conv => whnf
  repeat' ((first | refine brP_t (by assumption) ?_ | refine brP_f (by assumption) ?_ | refine brP_t (decide_eq_true (by omega)) ?_ | refine brP_f (decide_eq_false (by omega)) ?_ | refine brP_t (nd_t (by omega)) ?_ | refine brP_f (nd_f (by omega)) ?_ | ((rw [hlen])) | ((rw [hwe])) | ((rw [e1])) | ((rw [e2])) | ((rw [hlq])) | ((rw [hlz])) | refine brP_f (nd_f rfl) ?_ | refine brP_t (decide_eq_true rfl) ?_ | refine wpfS_seq1 ?_ | refine wpfS_go ?_ | fail) <;> conv => whnf)
  (first | refine callK_p d3 ?_ | refine callM_p d3 rfl ?_ | refine callK_pf rfl d3 ?_ | refine callK_pk rfl d3 ?_)
  conv => whnf
  repeat' ((first | refine brP_t (by assumption) ?_ | refine brP_f (by assumption) ?_ | refine brP_t (decide_eq_true (by omega)) ?_ | refine brP_f (decide_eq_false (by omega)) ?_ | refine brP_t (nd_t (by omega)) ?_ | refine brP_f (nd_f (by omega)) ?_ | ((rw [hlen])) | ((rw [hwe])) | ((rw [e1])) | ((rw [e2])) | ((rw [hlq])) | ((rw [hlz])) | refine brP_f (nd_f rfl) ?_ | refine brP_t (decide_eq_true rfl) ?_ | refine wpfS_seq1 ?_ | refine wpfS_go ?_ | fail) <;> conv => whnf)
  refine SemS.loopC false hm (σ := Nat) (fun i => [(11, iv i), (10, .c (.ptr (.loc 4) 0)), (9, .c (.ptr (.loc 3) 0)), (7, .c (.ptr (.loc 1) 0)), (1, .c (.p (.int .u8 ep)))])
    (fun i => ⟨[], [.row [.int .u16 o.ids, .int .u16 o.idi, .int .i64 o.k, .int .i64 o.n, .int .u16 o.ls, .int .u16 o.li, .int .i64 o.stamp, .bool false, .int .u16 o.ws, .int .u16 o.wi, .int .i64 o.role, .str o.buf, .bool o.dead, .int .i64 o.bx.next, .sl (msgs o.bx.q), .sl (msgs o.bx.a), .sl (msgs o.bx.h)], .row (mrow M), .mrow ((Ob.row { o with ws := o.ls, wi := o.li, ls := s1, li := s2, swept := true, stamp := ep, bx := ⟨Bn, Bq, Ba, Bh⟩ }).map .p), .mrow ((Ob.row { o with ws := o.ls, wi := o.li, ls := s1, li := s2, swept := true, stamp := ep, bx := D }).map .p), .mrow ((Ob.row { o with ws := 0, wi := 0, ls := s1, li := s2, swept := false, stamp := ep, bx := ⟨D.next, D.q.map (commM M ep), [], []⟩ }).map .p)]⟩) (fun i => D.q.length - i) (fun i => i ≤ D.q.length) 0 (Nat.zero_le _) ⟨rfl, rfl, rfl, rfl, rfl, trivial⟩ rfl ?_
  intro i hi
  refine wpf_seq1 ?_
  conv => whnf
  rw [hlz]
  refine brP_mk (fun h => ?_) (fun h => ?_)
  · have hi' : i < D.q.length := by have := of_decide_eq_true h; omega
    clear h
    have hgy := msgs_get hi'
    have hgz : (msgs (D.q.map (commM M ep)))[i]? = some (commM M ep D.q[i]).row := by
      have := msgs_get (l := D.q.map (commM M ep)) (i := i) (by rw [List.length_map]; exact hi')
      rw [List.getElem_map] at this
      exact this
    have hw2 : IntKind.i64.wrap ((i : Int) + 1) = ((i + 1 : Nat) : Int) := by rw [wrap64 (by omega)]; rfl
    have n1 := comm_no (M := M) (e := (ep : Int)) D.q[i]
    have n2 := comm_role (M := M) (e := (ep : Int)) D.q[i]
    have n3 := comm_data (M := M) (e := (ep : Int)) D.q[i]
    have n4 := comm_ep (M := M) (e := (ep : Int)) D.q[i]
    have n5 := comm_touch (M := M) hfM (e := (ep : Int)) (m := D.q[i])
    have hzo := comm_ok (M := M) (e := (ep : Int)) (hCq _ (List.getElem_mem hi')) ⟨by omega, by omega⟩
    generalize commM M ep D.q[i] = z at *
    generalize D.q[i] = m at *
    obtain ⟨zno, zep, zs, zi, zrole, zused, zdata⟩ := z
    obtain ⟨no, mep, s, i', role, used, data⟩ := m
    dsimp only at n1 n2 n3 n4 n5 hzo
    subst n1 n2 n3 n4
    by_cases hme : mep = ep
    · repeat' ((first | refine brP_t (by assumption) ?_ | refine brP_f (by assumption) ?_ | refine brP_t (decide_eq_true (by omega)) ?_ | refine brP_f (decide_eq_false (by omega)) ?_ | refine brP_t (nd_t (by omega)) ?_ | refine brP_f (nd_f (by omega)) ?_ | ((rw [hlz])) | ((conv in (opS _ _ _ _) => whnf); rw [Int.toNat_natCast, hgy]) | ((conv in (opM _ _ _ _ _) => whnf); (conv in (opS _ _ _ _) => whnf); rw [Int.toNat_natCast, hgy]) | ((conv in (opS _ _ _ _) => whnf); rw [Int.toNat_natCast, hgz]) | ((conv in (opM _ _ _ _ _) => whnf); (conv in (opS _ _ _ _) => whnf); rw [Int.toNat_natCast, hgz]) | ((rw [hwe])) | refine brP_f (nd_f rfl) ?_ | ((rw [hw2])) | refine wpfS_seq1 ?_ | refine wpfS_go ?_ | fail) <;> conv => whnf)
      exact ⟨i + 1, 5, hi', (show D.q.length - (i + 1) < D.q.length - i by omega), ⟨rfl, rfl, rfl, rfl, rfl, trivial⟩, Nat.le_refl _, rfl, rfl, rfl⟩
    · have g1 := relabel_Touches_ok M hM zs zi hzo.s hzo.i
      rw [n5 hme] at g1
      repeat' ((first | refine brP_t (by assumption) ?_ | refine brP_f (by assumption) ?_ | refine brP_t (decide_eq_true (by omega)) ?_ | refine brP_f (decide_eq_false (by omega)) ?_ | refine brP_t (nd_t (by omega)) ?_ | refine brP_f (nd_f (by omega)) ?_ | ((rw [hlz])) | ((conv in (opS _ _ _ _) => whnf); rw [Int.toNat_natCast, hgy]) | ((conv in (opM _ _ _ _ _) => whnf); (conv in (opS _ _ _ _) => whnf); rw [Int.toNat_natCast, hgy]) | ((conv in (opS _ _ _ _) => whnf); rw [Int.toNat_natCast, hgz]) | ((conv in (opM _ _ _ _ _) => whnf); (conv in (opS _ _ _ _) => whnf); rw [Int.toNat_natCast, hgz]) | ((rw [hwe])) | refine brP_f (nd_f rfl) ?_ | refine callK_p g1 ?_ | refine callM_p g1 rfl ?_ | refine callK_pf rfl g1 ?_ | refine callK_pk rfl g1 ?_ | ((rw [hw2])) | refine wpfS_seq1 ?_ | refine wpfS_go ?_ | fail) <;> conv => whnf)
      exact ⟨i + 1, 5, hi', (show D.q.length - (i + 1) < D.q.length - i by omega), ⟨rfl, rfl, rfl, rfl, rfl, trivial⟩, Nat.le_refl _, rfl, rfl, rfl⟩
  · repeat' ((first | refine brP_t (by assumption) ?_ | refine brP_f (by assumption) ?_ | refine brP_t (decide_eq_true (by omega)) ?_ | refine brP_f (decide_eq_false (by omega)) ?_ | refine brP_t (nd_t (by omega)) ?_ | refine brP_f (nd_f (by omega)) ?_ | refine callK_p L31_alive_ok ?_ | refine callM_p L31_alive_ok rfl ?_ | refine callK_pf rfl L31_alive_ok ?_ | refine callK_pk rfl L31_alive_ok ?_ | refine wpfS_seq1 ?_ | refine wpfS_go ?_ | fail) <;> conv => whnf)
    rfl
theorem law_stampMay (pvss : List (List PV)) (hw : wts [shMoves, .int .u8, shOb] pvss) : EvP PR G f_L31_StampMay (argAVs [shMoves, .int .u8, shOb] pvss) (.c (.p (.bool true))) := by
  obtain ⟨a, _, rfl, ha, hw⟩ := wts_cons hw
  obtain ⟨b, _, rfl, hb, hw⟩ := wts_cons hw
  obtain ⟨c, _, rfl, hc, hw⟩ := wts_cons hw
  cases wts_nil hw
  obtain ⟨t, rfl, -, hl, ht⟩ := ha
  obtain ⟨t, rfl⟩ := prows_of ht
  obtain ⟨e, rfl, he⟩ := hb
  obtain ⟨e', rfl, he'⟩ := u8_of he
  obtain ⟨o, rfl, ho, hol⟩ := ob_lim hc
  have : t.length < 2 ^ 63 := by
    have := len63 hl
    simpa [prows] using this
  exact stampMay_ok t this e' he' o ho hol
end Go.Ab.S
