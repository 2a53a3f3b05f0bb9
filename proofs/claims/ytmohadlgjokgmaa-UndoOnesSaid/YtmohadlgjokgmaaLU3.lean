/- The document's undoing: all messages back into one row, a new one, and each number written into it. No condition. -/
import Derived.Test.YtmohadlgjokgmaaLUA
import Derived.Test.YtmohadlgjokgmaaFwH
set_option linter.unusedSimpArgs false
set_option linter.unusedVariables false
namespace Go.Ab.S
open Go Go.Ab Go.Proofs
attribute [local irreducible] SemS
set_option maxRecDepth 100000
set_option maxHeartbeats 1000000 in
theorem R23_Restore_own (b : Bx) (hg : b.Good) : EvR PR G f_R23_Restore [.agg b.row] ⟨[], []⟩ (.mg [.p (.int .i64 b.next), .os (.loc 0) b.restore.q.length, .nils, .nils]) ⟨[], [.arr 7 false (msgs b.restore.q)]⟩ := by
  have hl := hg.len
  have hlen : b.len = b.q.length + b.a.length + b.h.length := rfl
  have c1 := R23_Both_ok b.q b.a (by omega)
  have c2 := R23_Both_own (both b.q b.a) b.h (by rw [both_len]; omega)
  rw [hg.restore_both] at c2
  have hq : b.restore.q = isort b.all := rfl
  rw [hq]
  have hml := msgs_len (l := isort b.all)
  generalize isort b.all = X at *
  generalize both b.q b.a = Y at *
  obtain ⟨n, q, a, h⟩ := b
  dsimp only at *
  refine EvG.own (Q := fun r h => r = .mg [.p (.int .i64 n), .os (.loc 2) X.length, .nils, .nils] ∧ h.par = [] ∧ h.loc[2]? = some (.arr 7 false (msgs X))) ?_ (fun r h ⟨h1, h2, h3⟩ => .inr ⟨2, 7, msgs X, Nat.zero_le _, h3, by subst h1; rfl, ?_, by subst h1; rfl, ?_⟩)
  · show EvG PR G f_R23_Restore [.agg [.int .i64 n, .sl (msgs q), .sl (msgs a), .sl (msgs h)]] _ _
    refine EvG.of_sem false false c_R23_Restore rfl ?_
    refine SemS.seqS ?_
    refine SemS.of_wpf false hm ?_
    conv => whnf
    refine SemS.seqS ?_
    refine SemS.regM false hm ?_
    conv => whnf
    rw [← hml] at c2
    repeat' ((first | refine brP_t (by assumption) ?_ | refine brP_f (by assumption) ?_ | refine brP_t (decide_eq_true (by omega)) ?_ | refine brP_f (decide_eq_false (by omega)) ?_ | refine brP_t (nd_t (by omega)) ?_ | refine brP_f (nd_f (by omega)) ?_ | refine callK_p c1 ?_ | refine callM_p c1 rfl ?_ | refine callK_pf rfl c1 ?_ | refine callK_pk rfl c1 ?_ | refine callM_own 2 rfl (OwnNew.of c2 rfl rfl) rfl ?_ | refine wpfS_seq1 ?_ | refine wpfS_go ?_ | fail) <;> conv => whnf)
    refine SemS.of_wpf false hm ?_
    conv => whnf
    repeat' ((first | refine brP_t (by assumption) ?_ | refine brP_f (by assumption) ?_ | refine brP_t (decide_eq_true (by omega)) ?_ | refine brP_f (decide_eq_false (by omega)) ?_ | refine brP_t (nd_t (by omega)) ?_ | refine brP_f (nd_f (by omega)) ?_ | refine wpfS_seq1 ?_ | refine wpfS_go ?_ | fail) <;> conv => whnf)
    rw [hml]
    exact ⟨rfl, rfl, rfl⟩
  · obtain ⟨p, l⟩ := h
    dsimp only at h2
    subst h2
    rfl
  · obtain ⟨p, l⟩ := h
    dsimp only at h2 h3
    subst h2
    show (⟨[], l.take 0 ++ (match l[2]? with | some b => [b] | none => [])⟩ : Hp) = _
    rw [h3]
    rfl
set_option maxHeartbeats 8000000 in
theorem R33_One_ok (M : Nat → Nat) (hM : mapOk M) (e : Int) (o : Ob) (hs : o.ws < 65536) (hi : o.wi < 65536) (hk3 : 1 ≤ o.k ∧ o.k ≤ 3) (hg : o.k = 2 → o.bx.Good) : EvP PR G f_R33_One [mv M, iv e, .agg o.row] (.agg (o.undo M e).row) := by
  have c1 := R04_Touches_ok M hM o.ws o.wi hs hi
  have c2 : o.k = 2 → _ := fun h => R23_Restore_own o.bx (hg h)
  have hX : o.k = 2 → (o.bx.restore.q).length ≤ 8 := fun h => by
    show (isort o.bx.all).length ≤ 8
    rw [(isort_perm _).length_eq, Bx.all_len]
    exact (hg h).len
  have hu : (o.undo M e) = { o with ls := if o.backB M then o.ws else o.ls, li := if o.backB M then o.wi else o.li, stamp := e, swept := false, ws := 0, wi := 0, bx := if o.k = 2 then ⟨o.bx.next, o.bx.restore.q.map (minE e), [], []⟩ else o.bx } := rfl
  have hbk : o.backB M = (o.swept && (!decide (o.k = 1) || touchesB M o.ws o.wi)) := rfl
  rw [hu, hbk]
  generalize o.bx.restore.q = X at *
  obtain ⟨ids, idi, k, n, ls, li, st, sw, ws, wi, role, buf, dead, bx⟩ := o
  obtain ⟨bn, bq, ba, bh⟩ := bx
  dsimp only at *
  generalize touchesB M ws wi = tq at *
  -- the label
  have key : ∀ (sw tq : Bool) (l1 l2 : Nat), l1 = (if (sw && (!decide (k = 1) || tq)) = true then ws else ls) → l2 = (if (sw && (!decide (k = 1) || tq)) = true then wi else li) →
      EvP PR G f_R04_Touches [mv M, lab ws wi] (bv tq) →
      EvP PR G f_R33_One [mv M, iv e, .agg [.int .u16 ids, .int .u16 idi, .int .i64 k, .int .i64 n, .int .u16 ls, .int .u16 li, .int .i64 st, .bool sw, .int .u16 ws, .int .u16 wi, .int .i64 role, .str buf, .bool dead, .int .i64 bn, .sl (msgs bq), .sl (msgs ba), .sl (msgs bh)]]
        (.agg (Ob.mk ids idi k n l1 l2 e false 0 0 role buf dead (if k = 2 then ⟨bn, X.map (minE e), [], []⟩ else ⟨bn, bq, ba, bh⟩)).row) := by
    intro sw tq l1 l2 h1 h2 c1
    refine EvP.of_wpf false hm c_R33_One rfl ?_
    refine wpf_seq1 ?_
    conv => whnf
    by_cases hk2 : k = 2
    · have c2 := c2 hk2
      have hX := hX hk2
      rw [if_pos hk2]
      have hk1 : ¬ k = 1 := by omega
      rw [decide_eq_false hk1] at h1 h2
      have hml := msgs_len (l := X)
      cases sw with
      | false =>
        have h1 : l1 = ls := h1
        have h2 : l2 = li := h2
        subst h1 h2
        repeat' ((first | refine brP_t (by assumption) ?_ | refine brP_f (by assumption) ?_ | refine brP_t (decide_eq_true (by omega)) ?_ | refine brP_f (decide_eq_false (by omega)) ?_ | refine brP_t (nd_t (by omega)) ?_ | refine brP_f (nd_f (by omega)) ?_ | refine callK_r (EvR.fr [] c2 rfl rfl trivial rfl) ?_ | refine callM_l (LEv.fr [] c2 rfl rfl trivial rfl rfl) ?_ | refine callK_rt (EvR.fr [] c2 rfl rfl trivial rfl) ?_ | refine callK_rf rfl (EvR.fr [] c2 rfl rfl trivial rfl) ?_ | refine callK_rft rfl (EvR.fr [] c2 rfl rfl trivial rfl) ?_ | refine wpfS_seq1 ?_ | refine wpfS_go ?_ | fail) <;> conv => whnf)
        refine SemS.loopF false hm (σ := Nat) (fun i => [(9, iv i), (7, .c (.ptr (.loc 3) 0)), (6, .c (.ptr (.loc 2) 0)), (1, iv e)])
          (fun i => ⟨[], [.row (mrow M), .row [.int .u16 ids, .int .u16 idi, .int .i64 k, .int .i64 n, .int .u16 l1, .int .u16 l2, .int .i64 st, .bool false, .int .u16 ws, .int .u16 wi, .int .i64 role, .str buf, .bool dead, .int .i64 bn, .sl (msgs bq), .sl (msgs ba), .sl (msgs bh)], .mrow [.p (.int .u16 0), .p (.int .u16 0), .p (.int .i64 0), .p (.int .i64 0), .p (.int .u16 0), .p (.int .u16 0), .p (.int .i64 0), .p (.bool false), .p (.int .u16 0), .p (.int .u16 0), .p (.int .i64 0), .p (.str []), .p (.bool false), .p (.int .i64 0), .nils, .nils, .nils],
            .mrow [.p (.int .u16 ids), .p (.int .u16 idi), .p (.int .i64 k), .p (.int .i64 n), .p (.int .u16 l1), .p (.int .u16 l2), .p (.int .i64 e), .p (.bool false), .p (.int .u16 0), .p (.int .u16 0), .p (.int .i64 role), .p (.str buf), .p (.bool dead), .p (.int .i64 bn), .os (.loc 4) X.length, .nils, .nils], .arr 7 false (msgs (part (minE e) X i))]⟩) (fun i => X.length - i) (fun i => i ≤ X.length) 0 (Nat.zero_le _) ⟨rfl, rfl, rfl, rfl, trivial⟩ rfl ?_
        intro i hi
        have hpl : (msgs (part (minE e) X i)).length = X.length := by rw [msgs_len, part_len]
        refine wpf_seq1 ?_
        conv => whnf
        refine gd_mk (decide_eq_true hpl.symm) ?_
        conv => whnf
        rw [hpl]
        refine brP_mk (fun h => ?_) (fun h => ?_)
        · have hi' : i < X.length := by have := of_decide_eq_true h; omega
          clear h
          have hw2 : IntKind.i64.wrap ((i : Int) + 1) = ((i + 1 : Nat) : Int) := by rw [wrap64 (by omega)]; rfl
          obtain ⟨A, B, hA, hp, hp1⟩ := part_at (f := minE e) hi'
          have hg := get_at (B := B) (m := X[i]) hA
          have hs := set_at (B := B) (m := X[i]) (x := minE e X[i]) hA
          rw [hp] at hpl ⊢
          generalize hmm : X[i] = m at *
          generalize hES : msgs (A ++ m :: B) = ES at *
          by_cases hep : e < m.ep
          · have hr : (minE e m).row = [.int .i64 m.no, .int .i64 e, .int .u16 m.s, .int .u16 m.i, .int .i64 m.role, .int .u16 m.used, .str m.data] := by
              unfold minE; rw [if_pos hep]; rfl
            rw [hr] at hs
            obtain ⟨no, ep, s', i', mrole, used, data⟩ := m
            repeat' ((first | refine brP_t (by assumption) ?_ | refine brP_f (by assumption) ?_ | refine brP_t (decide_eq_true (by omega)) ?_ | refine brP_f (decide_eq_false (by omega)) ?_ | refine brP_t (nd_t (by omega)) ?_ | refine brP_f (nd_f (by omega)) ?_ | ((conv in (opS _ _ _ _) => whnf); rw [Int.toNat_natCast, hg]) | ((conv in (opM _ _ _ _ _) => whnf); (conv in (opS _ _ _ _) => whnf); rw [Int.toNat_natCast, hg]) | (refine gd_mk ?_ ?_; focus (exact decide_eq_true ⟨by omega, by omega, rfl, hpl.symm⟩; done)) | (refine gd_mk ?_ ?_; focus (rw [Bool.true_and]; exact decide_eq_true hpl.symm; done)) | (refine gd_mk ?_ ?_; focus (exact decide_eq_true ⟨rfl, (by show (2 : Nat) ≤ 7; omega), hpl.symm⟩; done)) | ((rw [hw2])) | refine wpfS_seq1 ?_ | refine wpfS_go ?_ | fail) <;> conv => whnf)
            refine ⟨i + 1, hi', (show X.length - (i + 1) < X.length - i by omega), ⟨rfl, rfl, rfl, rfl, trivial⟩, ?_⟩
            show _ = (⟨[], [_, _, _, _, .arr 7 false (msgs (part (minE e) X (i + 1)))]⟩ : Hp)
            rw [hp1, ← hs]
            rfl
          · have hr : minE e m = m := by unfold minE; rw [if_neg hep]
            rw [hr, hES] at hs
            obtain ⟨no, ep, s', i', mrole, used, data⟩ := m
            repeat' ((first | refine brP_t (by assumption) ?_ | refine brP_f (by assumption) ?_ | refine brP_t (decide_eq_true (by omega)) ?_ | refine brP_f (decide_eq_false (by omega)) ?_ | refine brP_t (nd_t (by omega)) ?_ | refine brP_f (nd_f (by omega)) ?_ | ((conv in (opS _ _ _ _) => whnf); rw [Int.toNat_natCast, hg]) | ((conv in (opM _ _ _ _ _) => whnf); (conv in (opS _ _ _ _) => whnf); rw [Int.toNat_natCast, hg]) | (refine gd_mk ?_ ?_; focus (exact decide_eq_true ⟨by omega, by omega, rfl, hpl.symm⟩; done)) | (refine gd_mk ?_ ?_; focus (rw [Bool.true_and]; exact decide_eq_true hpl.symm; done)) | ((rw [hw2])) | refine wpfS_seq1 ?_ | refine wpfS_go ?_ | fail) <;> conv => whnf)
            refine ⟨i + 1, hi', (show X.length - (i + 1) < X.length - i by omega), ⟨rfl, rfl, rfl, rfl, trivial⟩, ?_⟩
            show _ = (⟨[], [_, _, _, _, .arr 7 false (msgs (part (minE e) X (i + 1)))]⟩ : Hp)
            rw [hp1, hr, hES]
        · have hi' : i = X.length := by have := of_decide_eq_false h; omega
          subst hi'
          clear h
          have hpf : part (minE e) X X.length = X.map (minE e) := by simp [part]
          rw [hpf] at hpl ⊢
          repeat' ((first | refine brP_t (by assumption) ?_ | refine brP_f (by assumption) ?_ | refine brP_t (decide_eq_true (by omega)) ?_ | refine brP_f (decide_eq_false (by omega)) ?_ | refine brP_t (nd_t (by omega)) ?_ | refine brP_f (nd_f (by omega)) ?_ | (refine gd_mk ?_ ?_; focus (rw [hpl]; simp; done)) | (refine gd_mk ?_ ?_; focus (simp [hpl]; done)) | refine wpfS_seq1 ?_ | refine wpfS_go ?_ | fail) <;> conv => whnf)
          rfl
      | true =>
        have h1 : l1 = ws := h1
        have h2 : l2 = wi := h2
        subst h1 h2
        repeat' ((first | refine brP_t (by assumption) ?_ | refine brP_f (by assumption) ?_ | refine brP_t (decide_eq_true (by omega)) ?_ | refine brP_f (decide_eq_false (by omega)) ?_ | refine brP_t (nd_t (by omega)) ?_ | refine brP_f (nd_f (by omega)) ?_ | refine callK_p c1 ?_ | refine callM_p c1 rfl ?_ | refine callK_pf rfl c1 ?_ | refine callK_pk rfl c1 ?_ | refine callK_r (EvR.fr [] c2 rfl rfl trivial rfl) ?_ | refine callM_l (LEv.fr [] c2 rfl rfl trivial rfl rfl) ?_ | refine callK_rt (EvR.fr [] c2 rfl rfl trivial rfl) ?_ | refine callK_rf rfl (EvR.fr [] c2 rfl rfl trivial rfl) ?_ | refine callK_rft rfl (EvR.fr [] c2 rfl rfl trivial rfl) ?_ | refine wpfS_seq1 ?_ | refine wpfS_go ?_ | fail) <;> conv => whnf)
        refine SemS.loopF false hm (σ := Nat) (fun i => [(9, iv i), (7, .c (.ptr (.loc 3) 0)), (6, .c (.ptr (.loc 2) 0)), (1, iv e)])
          (fun i => ⟨[], [.row (mrow M), .row [.int .u16 ids, .int .u16 idi, .int .i64 k, .int .i64 n, .int .u16 ls, .int .u16 li, .int .i64 st, .bool true, .int .u16 l1, .int .u16 l2, .int .i64 role, .str buf, .bool dead, .int .i64 bn, .sl (msgs bq), .sl (msgs ba), .sl (msgs bh)], .mrow [.p (.int .u16 0), .p (.int .u16 0), .p (.int .i64 0), .p (.int .i64 0), .p (.int .u16 0), .p (.int .u16 0), .p (.int .i64 0), .p (.bool false), .p (.int .u16 0), .p (.int .u16 0), .p (.int .i64 0), .p (.str []), .p (.bool false), .p (.int .i64 0), .nils, .nils, .nils],
            .mrow [.p (.int .u16 ids), .p (.int .u16 idi), .p (.int .i64 k), .p (.int .i64 n), .p (.int .u16 l1), .p (.int .u16 l2), .p (.int .i64 e), .p (.bool false), .p (.int .u16 0), .p (.int .u16 0), .p (.int .i64 role), .p (.str buf), .p (.bool dead), .p (.int .i64 bn), .os (.loc 4) X.length, .nils, .nils], .arr 7 false (msgs (part (minE e) X i))]⟩) (fun i => X.length - i) (fun i => i ≤ X.length) 0 (Nat.zero_le _) ⟨rfl, rfl, rfl, rfl, trivial⟩ rfl ?_
        intro i hi
        have hpl : (msgs (part (minE e) X i)).length = X.length := by rw [msgs_len, part_len]
        refine wpf_seq1 ?_
        conv => whnf
        refine gd_mk (decide_eq_true hpl.symm) ?_
        conv => whnf
        rw [hpl]
        refine brP_mk (fun h => ?_) (fun h => ?_)
        · have hi' : i < X.length := by have := of_decide_eq_true h; omega
          clear h
          have hw2 : IntKind.i64.wrap ((i : Int) + 1) = ((i + 1 : Nat) : Int) := by rw [wrap64 (by omega)]; rfl
          obtain ⟨A, B, hA, hp, hp1⟩ := part_at (f := minE e) hi'
          have hg := get_at (B := B) (m := X[i]) hA
          have hs := set_at (B := B) (m := X[i]) (x := minE e X[i]) hA
          rw [hp] at hpl ⊢
          generalize hmm : X[i] = m at *
          generalize hES : msgs (A ++ m :: B) = ES at *
          by_cases hep : e < m.ep
          · have hr : (minE e m).row = [.int .i64 m.no, .int .i64 e, .int .u16 m.s, .int .u16 m.i, .int .i64 m.role, .int .u16 m.used, .str m.data] := by
              unfold minE; rw [if_pos hep]; rfl
            rw [hr] at hs
            obtain ⟨no, ep, s', i', mrole, used, data⟩ := m
            repeat' ((first | refine brP_t (by assumption) ?_ | refine brP_f (by assumption) ?_ | refine brP_t (decide_eq_true (by omega)) ?_ | refine brP_f (decide_eq_false (by omega)) ?_ | refine brP_t (nd_t (by omega)) ?_ | refine brP_f (nd_f (by omega)) ?_ | ((conv in (opS _ _ _ _) => whnf); rw [Int.toNat_natCast, hg]) | ((conv in (opM _ _ _ _ _) => whnf); (conv in (opS _ _ _ _) => whnf); rw [Int.toNat_natCast, hg]) | (refine gd_mk ?_ ?_; focus (exact decide_eq_true ⟨by omega, by omega, rfl, hpl.symm⟩; done)) | (refine gd_mk ?_ ?_; focus (rw [Bool.true_and]; exact decide_eq_true hpl.symm; done)) | (refine gd_mk ?_ ?_; focus (exact decide_eq_true ⟨rfl, (by show (2 : Nat) ≤ 7; omega), hpl.symm⟩; done)) | ((rw [hw2])) | refine wpfS_seq1 ?_ | refine wpfS_go ?_ | fail) <;> conv => whnf)
            refine ⟨i + 1, hi', (show X.length - (i + 1) < X.length - i by omega), ⟨rfl, rfl, rfl, rfl, trivial⟩, ?_⟩
            show _ = (⟨[], [_, _, _, _, .arr 7 false (msgs (part (minE e) X (i + 1)))]⟩ : Hp)
            rw [hp1, ← hs]
            rfl
          · have hr : minE e m = m := by unfold minE; rw [if_neg hep]
            rw [hr, hES] at hs
            obtain ⟨no, ep, s', i', mrole, used, data⟩ := m
            repeat' ((first | refine brP_t (by assumption) ?_ | refine brP_f (by assumption) ?_ | refine brP_t (decide_eq_true (by omega)) ?_ | refine brP_f (decide_eq_false (by omega)) ?_ | refine brP_t (nd_t (by omega)) ?_ | refine brP_f (nd_f (by omega)) ?_ | ((conv in (opS _ _ _ _) => whnf); rw [Int.toNat_natCast, hg]) | ((conv in (opM _ _ _ _ _) => whnf); (conv in (opS _ _ _ _) => whnf); rw [Int.toNat_natCast, hg]) | (refine gd_mk ?_ ?_; focus (exact decide_eq_true ⟨by omega, by omega, rfl, hpl.symm⟩; done)) | (refine gd_mk ?_ ?_; focus (rw [Bool.true_and]; exact decide_eq_true hpl.symm; done)) | ((rw [hw2])) | refine wpfS_seq1 ?_ | refine wpfS_go ?_ | fail) <;> conv => whnf)
            refine ⟨i + 1, hi', (show X.length - (i + 1) < X.length - i by omega), ⟨rfl, rfl, rfl, rfl, trivial⟩, ?_⟩
            show _ = (⟨[], [_, _, _, _, .arr 7 false (msgs (part (minE e) X (i + 1)))]⟩ : Hp)
            rw [hp1, hr, hES]
        · have hi' : i = X.length := by have := of_decide_eq_false h; omega
          subst hi'
          clear h
          have hpf : part (minE e) X X.length = X.map (minE e) := by simp [part]
          rw [hpf] at hpl ⊢
          repeat' ((first | refine brP_t (by assumption) ?_ | refine brP_f (by assumption) ?_ | refine brP_t (decide_eq_true (by omega)) ?_ | refine brP_f (decide_eq_false (by omega)) ?_ | refine brP_t (nd_t (by omega)) ?_ | refine brP_f (nd_f (by omega)) ?_ | (refine gd_mk ?_ ?_; focus (rw [hpl]; simp; done)) | (refine gd_mk ?_ ?_; focus (simp [hpl]; done)) | refine wpfS_seq1 ?_ | refine wpfS_go ?_ | fail) <;> conv => whnf)
          rfl
    · rw [if_neg hk2]
      cases sw with
      | false =>
        have h1 : l1 = ls := h1
        have h2 : l2 = li := h2
        subst h1 h2
        repeat' ((first | refine brP_t (by assumption) ?_ | refine brP_f (by assumption) ?_ | refine brP_t (decide_eq_true (by omega)) ?_ | refine brP_f (decide_eq_false (by omega)) ?_ | refine brP_t (nd_t (by omega)) ?_ | refine brP_f (nd_f (by omega)) ?_ | refine wpfS_seq1 ?_ | refine wpfS_go ?_ | fail) <;> conv => whnf)
        rfl
      | true =>
        by_cases hk3' : k = 3
        · rw [decide_eq_false (show ¬ k = 1 by omega)] at h1 h2
          have h1 : l1 = ws := h1
          have h2 : l2 = wi := h2
          subst h1 h2
          repeat' ((first | refine brP_t (by assumption) ?_ | refine brP_f (by assumption) ?_ | refine brP_t (decide_eq_true (by omega)) ?_ | refine brP_f (decide_eq_false (by omega)) ?_ | refine brP_t (nd_t (by omega)) ?_ | refine brP_f (nd_f (by omega)) ?_ | refine callK_p c1 ?_ | refine callM_p c1 rfl ?_ | refine callK_pf rfl c1 ?_ | refine callK_pk rfl c1 ?_ | refine wpfS_seq1 ?_ | refine wpfS_go ?_ | fail) <;> conv => whnf)
          rfl
        · rw [decide_eq_true (show k = 1 by omega)] at h1 h2
          cases tq with
          | true =>
            have h1 : l1 = ws := h1
            have h2 : l2 = wi := h2
            subst h1 h2
            repeat' ((first | refine brP_t (by assumption) ?_ | refine brP_f (by assumption) ?_ | refine brP_t (decide_eq_true (by omega)) ?_ | refine brP_f (decide_eq_false (by omega)) ?_ | refine brP_t (nd_t (by omega)) ?_ | refine brP_f (nd_f (by omega)) ?_ | refine callK_p c1 ?_ | refine callM_p c1 rfl ?_ | refine callK_pf rfl c1 ?_ | refine callK_pk rfl c1 ?_ | refine wpfS_seq1 ?_ | refine wpfS_go ?_ | fail) <;> conv => whnf)
            rfl
          | false =>
            have h1 : l1 = ls := h1
            have h2 : l2 = li := h2
            subst h1 h2
            repeat' ((first | refine brP_t (by assumption) ?_ | refine brP_f (by assumption) ?_ | refine brP_t (decide_eq_true (by omega)) ?_ | refine brP_f (decide_eq_false (by omega)) ?_ | refine brP_t (nd_t (by omega)) ?_ | refine brP_f (nd_f (by omega)) ?_ | refine callK_p c1 ?_ | refine callM_p c1 rfl ?_ | refine callK_pf rfl c1 ?_ | refine callK_pk rfl c1 ?_ | refine wpfS_seq1 ?_ | refine wpfS_go ?_ | fail) <;> conv => whnf)
            rfl
  exact key sw tq _ _ rfl rfl c1
end Go.Ab.S
