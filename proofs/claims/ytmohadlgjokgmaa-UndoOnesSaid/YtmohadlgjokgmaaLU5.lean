/- UndoOnes. No condition. -/
import Derived.Test.YtmohadlgjokgmaaLU2
import Derived.Test.YtmohadlgjokgmaaLU3
set_option linter.unusedSimpArgs false
set_option linter.unusedVariables false
namespace Go.Ab.S
open Go Go.Ab Go.Proofs
attribute [local irreducible] SemS
set_option maxRecDepth 100000
theorem fine_k {o : Ob} (h : o.fine = true) : 1 ≤ o.k ∧ o.k ≤ 3 := by
  unfold Ob.fine at h
  simp only [Bool.and_eq_true] at h
  have h1 := idB_iff.1 h.1
  omega
theorem undo_lim {M : Nat → Nat} {e : Int} {o : Ob} (h : o.Lim) : (o.undo M e).Lim := ⟨by rw [undo_len]; exact h.bx, h.buf⟩
set_option maxHeartbeats 16000000 in
theorem undoOnes_ok (l : List (Int × Int)) (hl63 : l.length < 2 ^ 63) (ep : Nat) (hep : ep < 256) (a b : Ob) (ha : a.Ok) (hla : a.Lim) (hb : b.Ok) (hlb : b.Lim) : EvP PR G f_L33_UndoOnes [slv (prows l), .c (.p (.int .u8 ep)), .agg a.row, .agg b.row] (bv true) := by
  have hlen : (prows l).length = l.length := by simp [prows]
  have cA := R25_Fine_ok a hla
  have cB := R25_Fine_ok b hlb
  refine EvP.of_wpf false hm c_L33_UndoOnes rfl ?_
  refine wpf_seq1 ?_
  conv => whnf
  by_cases h20 : 20 < l.length
  · repeat' ((first | refine brP_t (by assumption) ?_ | refine brP_f (by assumption) ?_ | refine brP_t (decide_eq_true (by omega)) ?_ | refine brP_f (decide_eq_false (by omega)) ?_ | refine brP_t (nd_t (by omega)) ?_ | refine brP_f (nd_f (by omega)) ?_ | ((rw [hlen])) | refine callK_p L33_alive_ok ?_ | refine callM_p L33_alive_ok rfl ?_ | refine callK_pf rfl L33_alive_ok ?_ | refine callK_pk rfl L33_alive_ok ?_ | refine wpfS_seq1 ?_ | refine wpfS_go ?_ | fail) <;> conv => whnf)
    rfl
  cases hfa : a.fine with
  | false =>
    rw [hfa] at cA
    repeat' ((first | refine brP_t (by assumption) ?_ | refine brP_f (by assumption) ?_ | refine brP_t (decide_eq_true (by omega)) ?_ | refine brP_f (decide_eq_false (by omega)) ?_ | refine brP_t (nd_t (by omega)) ?_ | refine brP_f (nd_f (by omega)) ?_ | ((rw [hlen])) | refine callK_p cA ?_ | refine callM_p cA rfl ?_ | refine callK_pf rfl cA ?_ | refine callK_pk rfl cA ?_ | refine callK_p L33_alive_ok ?_ | refine callM_p L33_alive_ok rfl ?_ | refine callK_pf rfl L33_alive_ok ?_ | refine callK_pk rfl L33_alive_ok ?_ | refine wpfS_seq1 ?_ | refine wpfS_go ?_ | fail) <;> conv => whnf)
    rfl
  | true =>
  rw [hfa] at cA
  cases hfb : b.fine with
  | false =>
    rw [hfb] at cB
    repeat' ((first | refine brP_t (by assumption) ?_ | refine brP_f (by assumption) ?_ | refine brP_t (decide_eq_true (by omega)) ?_ | refine brP_f (decide_eq_false (by omega)) ?_ | refine brP_t (nd_t (by omega)) ?_ | refine brP_f (nd_f (by omega)) ?_ | ((rw [hlen])) | refine callK_p cA ?_ | refine callM_p cA rfl ?_ | refine callK_pf rfl cA ?_ | refine callK_pk rfl cA ?_ | refine callK_p cB ?_ | refine callM_p cB rfl ?_ | refine callK_pf rfl cB ?_ | refine callK_pk rfl cB ?_ | refine callK_p L33_alive_ok ?_ | refine callM_p L33_alive_ok rfl ?_ | refine callK_pf rfl L33_alive_ok ?_ | refine callK_pk rfl L33_alive_ok ?_ | refine wpfS_seq1 ?_ | refine wpfS_go ?_ | fail) <;> conv => whnf)
    rfl
  | true =>
  rw [hfb] at cB
  by_cases he255 : ep = 255
  · subst he255
    repeat' ((first | refine brP_t (by assumption) ?_ | refine brP_f (by assumption) ?_ | refine brP_t (decide_eq_true (by omega)) ?_ | refine brP_f (decide_eq_false (by omega)) ?_ | refine brP_t (nd_t (by omega)) ?_ | refine brP_f (nd_f (by omega)) ?_ | ((rw [hlen])) | refine callK_p cA ?_ | refine callM_p cA rfl ?_ | refine callK_pf rfl cA ?_ | refine callK_pk rfl cA ?_ | refine callK_p cB ?_ | refine callM_p cB rfl ?_ | refine callK_pf rfl cB ?_ | refine callK_pk rfl cB ?_ | refine callK_p L33_alive_ok ?_ | refine callM_p L33_alive_ok rfl ?_ | refine callK_pf rfl L33_alive_ok ?_ | refine callK_pk rfl L33_alive_ok ?_ | refine wpfS_seq1 ?_ | refine wpfS_go ?_ | fail) <;> conv => whnf)
    rfl
  have hM : mapOk (madeN l) := fun i hi => by have := made_lt l i hi; omega
  have c0 := R04_Made_ok l (by omega)
  generalize madeN l = M at *
  have hwe : IntKind.i64.wrap (ep : Int) = (ep : Int) := wrap64 (by omega)
  have ka := fine_len hfa
  have kb := fine_len hfb
  have c1 := undo_Lane_ok M hM ep [a, b] (by show (2 : Nat) ≤ 1000; omega) (by
    intro o ho
    rcases List.mem_cons.1 ho with rfl | ho
    · exact ⟨ha.ws, ha.wi, fun _ => by omega⟩
    · rw [List.mem_singleton.1 ho]
      exact ⟨hb.ws, hb.wi, fun _ => by omega⟩)
  have c2 := R33_One_ok M hM ep a ha.ws ha.wi (fine_k hfa) (fine_good hfa)
  have c3 := R33_One_ok M hM ep b hb.ws hb.wi (fine_k hfb) (fine_good hfb)
  have c4 := undo_One_ok M hM ep a ha.ws ha.wi (fun _ => by omega)
  have c5 := R25_Same_ok (a.undo M ep) (a.undo M ep) (undo_lim hla)
  have c6 := R25_Same_ok (b.undo M ep) (b.undo M ep) (undo_lim hlb)
  rw [decide_eq_true rfl] at c5 c6
  have hob : slv (obs ([a, b].map (Ob.undo M ep))) = slv [(a.undo M ep).row, (b.undo M ep).row] := rfl
  rw [hob] at c1
  generalize a.undo M ep = X at *
  generalize b.undo M ep = Y at *
  repeat' ((first | refine brP_t (by assumption) ?_ | refine brP_f (by assumption) ?_ | refine brP_t (decide_eq_true (by omega)) ?_ | refine brP_f (decide_eq_false (by omega)) ?_ | refine brP_t (nd_t (by omega)) ?_ | refine brP_f (nd_f (by omega)) ?_ | ((rw [hlen])) | ((rw [hwe])) | refine brP_t (decide_eq_true rfl) ?_ | refine wpfS_seq1 ?_ | refine wpfS_go ?_ | fail) <;> conv => whnf)
  (first | refine callK_p cA ?_ | refine callM_p cA rfl ?_ | refine callK_pf rfl cA ?_ | refine callK_pk rfl cA ?_)
  conv => whnf
  repeat' ((first | refine brP_t (by assumption) ?_ | refine brP_f (by assumption) ?_ | refine brP_t (decide_eq_true (by omega)) ?_ | refine brP_f (decide_eq_false (by omega)) ?_ | refine brP_t (nd_t (by omega)) ?_ | refine brP_f (nd_f (by omega)) ?_ | ((rw [hlen])) | ((rw [hwe])) | refine brP_t (decide_eq_true rfl) ?_ | refine wpfS_seq1 ?_ | refine wpfS_go ?_ | fail) <;> conv => whnf)
  (first | refine callK_p cB ?_ | refine callM_p cB rfl ?_ | refine callK_pf rfl cB ?_ | refine callK_pk rfl cB ?_)
  conv => whnf
  repeat' ((first | refine brP_t (by assumption) ?_ | refine brP_f (by assumption) ?_ | refine brP_t (decide_eq_true (by omega)) ?_ | refine brP_f (decide_eq_false (by omega)) ?_ | refine brP_t (nd_t (by omega)) ?_ | refine brP_f (nd_f (by omega)) ?_ | ((rw [hlen])) | ((rw [hwe])) | refine brP_t (decide_eq_true rfl) ?_ | refine wpfS_seq1 ?_ | refine wpfS_go ?_ | fail) <;> conv => whnf)
  (first | refine callK_p c0 ?_ | refine callM_p c0 rfl ?_ | refine callK_pf rfl c0 ?_ | refine callK_pk rfl c0 ?_)
  conv => whnf
  repeat' ((first | refine brP_t (by assumption) ?_ | refine brP_f (by assumption) ?_ | refine brP_t (decide_eq_true (by omega)) ?_ | refine brP_f (decide_eq_false (by omega)) ?_ | refine brP_t (nd_t (by omega)) ?_ | refine brP_f (nd_f (by omega)) ?_ | ((rw [hlen])) | ((rw [hwe])) | refine brP_t (decide_eq_true rfl) ?_ | refine wpfS_seq1 ?_ | refine wpfS_go ?_ | fail) <;> conv => whnf)
  (first | refine callK_p c1 ?_ | refine callM_p c1 rfl ?_ | refine callK_pf rfl c1 ?_ | refine callK_pk rfl c1 ?_)
  conv => whnf
  repeat' ((first | refine brP_t (by assumption) ?_ | refine brP_f (by assumption) ?_ | refine brP_t (decide_eq_true (by omega)) ?_ | refine brP_f (decide_eq_false (by omega)) ?_ | refine brP_t (nd_t (by omega)) ?_ | refine brP_f (nd_f (by omega)) ?_ | ((rw [hlen])) | ((rw [hwe])) | refine brP_t (decide_eq_true rfl) ?_ | refine wpfS_seq1 ?_ | refine wpfS_go ?_ | fail) <;> conv => whnf)
  (first | refine callK_p c2 ?_ | refine callM_p c2 rfl ?_ | refine callK_pf rfl c2 ?_ | refine callK_pk rfl c2 ?_)
  conv => whnf
  repeat' ((first | refine brP_t (by assumption) ?_ | refine brP_f (by assumption) ?_ | refine brP_t (decide_eq_true (by omega)) ?_ | refine brP_f (decide_eq_false (by omega)) ?_ | refine brP_t (nd_t (by omega)) ?_ | refine brP_f (nd_f (by omega)) ?_ | ((rw [hlen])) | ((rw [hwe])) | refine brP_t (decide_eq_true rfl) ?_ | refine wpfS_seq1 ?_ | refine wpfS_go ?_ | fail) <;> conv => whnf)
  (first | refine callK_p c5 ?_ | refine callM_p c5 rfl ?_ | refine callK_pf rfl c5 ?_ | refine callK_pk rfl c5 ?_)
  conv => whnf
  repeat' ((first | refine brP_t (by assumption) ?_ | refine brP_f (by assumption) ?_ | refine brP_t (decide_eq_true (by omega)) ?_ | refine brP_f (decide_eq_false (by omega)) ?_ | refine brP_t (nd_t (by omega)) ?_ | refine brP_f (nd_f (by omega)) ?_ | ((rw [hlen])) | ((rw [hwe])) | refine brP_t (decide_eq_true rfl) ?_ | refine wpfS_seq1 ?_ | refine wpfS_go ?_ | fail) <;> conv => whnf)
  (first | refine callK_p c3 ?_ | refine callM_p c3 rfl ?_ | refine callK_pf rfl c3 ?_ | refine callK_pk rfl c3 ?_)
  conv => whnf
  repeat' ((first | refine brP_t (by assumption) ?_ | refine brP_f (by assumption) ?_ | refine brP_t (decide_eq_true (by omega)) ?_ | refine brP_f (decide_eq_false (by omega)) ?_ | refine brP_t (nd_t (by omega)) ?_ | refine brP_f (nd_f (by omega)) ?_ | ((rw [hlen])) | ((rw [hwe])) | refine brP_t (decide_eq_true rfl) ?_ | refine wpfS_seq1 ?_ | refine wpfS_go ?_ | fail) <;> conv => whnf)
  (first | refine callK_p c6 ?_ | refine callM_p c6 rfl ?_ | refine callK_pf rfl c6 ?_ | refine callK_pk rfl c6 ?_)
  conv => whnf
  repeat' ((first | refine brP_t (by assumption) ?_ | refine brP_f (by assumption) ?_ | refine brP_t (decide_eq_true (by omega)) ?_ | refine brP_f (decide_eq_false (by omega)) ?_ | refine brP_t (nd_t (by omega)) ?_ | refine brP_f (nd_f (by omega)) ?_ | ((rw [hlen])) | ((rw [hwe])) | refine brP_t (decide_eq_true rfl) ?_ | refine wpfS_seq1 ?_ | refine wpfS_go ?_ | fail) <;> conv => whnf)
  (first | refine callK_p c4 ?_ | refine callM_p c4 rfl ?_ | refine callK_pf rfl c4 ?_ | refine callK_pk rfl c4 ?_)
  conv => whnf
  repeat' ((first | refine brP_t (by assumption) ?_ | refine brP_f (by assumption) ?_ | refine brP_t (decide_eq_true (by omega)) ?_ | refine brP_f (decide_eq_false (by omega)) ?_ | refine brP_t (nd_t (by omega)) ?_ | refine brP_f (nd_f (by omega)) ?_ | ((rw [hlen])) | ((rw [hwe])) | refine brP_t (decide_eq_true rfl) ?_ | refine wpfS_seq1 ?_ | refine wpfS_go ?_ | fail) <;> conv => whnf)
  (first | refine callK_p c5 ?_ | refine callM_p c5 rfl ?_ | refine callK_pf rfl c5 ?_ | refine callK_pk rfl c5 ?_)
  conv => whnf
  repeat' ((first | refine brP_t (by assumption) ?_ | refine brP_f (by assumption) ?_ | refine brP_t (decide_eq_true (by omega)) ?_ | refine brP_f (decide_eq_false (by omega)) ?_ | refine brP_t (nd_t (by omega)) ?_ | refine brP_f (nd_f (by omega)) ?_ | ((rw [hlen])) | ((rw [hwe])) | refine brP_t (decide_eq_true rfl) ?_ | refine wpfS_seq1 ?_ | refine wpfS_go ?_ | fail) <;> conv => whnf)
  (first | refine callK_p L33_alive_ok ?_ | refine callM_p L33_alive_ok rfl ?_ | refine callK_pf rfl L33_alive_ok ?_ | refine callK_pk rfl L33_alive_ok ?_)
  conv => whnf
  repeat' ((first | refine brP_t (by assumption) ?_ | refine brP_f (by assumption) ?_ | refine brP_t (decide_eq_true (by omega)) ?_ | refine brP_f (decide_eq_false (by omega)) ?_ | refine brP_t (nd_t (by omega)) ?_ | refine brP_f (nd_f (by omega)) ?_ | ((rw [hlen])) | ((rw [hwe])) | refine brP_t (decide_eq_true rfl) ?_ | refine wpfS_seq1 ?_ | refine wpfS_go ?_ | fail) <;> conv => whnf)
  rfl
theorem law_undoOnes (pvss : List (List PV)) (hw : wts [shMoves, .int .u8, shOb, shOb] pvss) : EvP PR G f_L33_UndoOnes (argAVs [shMoves, .int .u8, shOb, shOb] pvss) (.c (.p (.bool true))) := by
  obtain ⟨a, _, rfl, ha, hw⟩ := wts_cons hw
  obtain ⟨b, _, rfl, hb, hw⟩ := wts_cons hw
  obtain ⟨c, _, rfl, hc, hw⟩ := wts_cons hw
  obtain ⟨d, _, rfl, hd, hw⟩ := wts_cons hw
  cases wts_nil hw
  obtain ⟨t, rfl, -, hl, ht⟩ := ha
  obtain ⟨t, rfl⟩ := prows_of ht
  obtain ⟨e, rfl, he⟩ := hb
  obtain ⟨e', rfl, he'⟩ := u8_of he
  obtain ⟨o, rfl, ho, hol⟩ := ob_lim hc
  obtain ⟨o', rfl, ho', hol'⟩ := ob_lim hd
  have : t.length < 2 ^ 63 := by
    have := len63 hl
    simpa [prows] using this
  exact undoOnes_ok t this e' he' o o' ho hol ho' hol'
end Go.Ab.S
