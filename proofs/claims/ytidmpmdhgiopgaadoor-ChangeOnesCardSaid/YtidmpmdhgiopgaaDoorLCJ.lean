/- ChangeOnes. No condition. -/
import Derived.Test.YtidmpmdhgiopgaaDoorLCI
set_option linter.unusedSimpArgs false
set_option linter.unusedVariables false
namespace Go.Ab.S
open Go Go.Ab Go.Proofs
attribute [local irreducible] SemS
set_option maxRecDepth 100000
abbrev shChg : Sh := .st (.cons 1 (.int .i64) (.cons 1 (.int .i64) (.cons 1 (.int .i64) (.cons 2 (.st (.cons 1 (.int .u16) (.cons 1 (.int .u16) .nil))) .nil))))
theorem chg_of {cs : List PV} (h : wt shChg cs) : ∃ c : Chg, cs = c.row ∧ (c.s < 65536 ∧ c.i < 65536) := by
  obtain ⟨a, _, rfl, -, ⟨k, rfl, -⟩, b, _, rfl, -, ⟨x, rfl, -⟩, c, _, rfl, -, ⟨y, rfl, -⟩, d, _, rfl, -, hl, rfl⟩ := h
  obtain ⟨s, i, rfl, hs, hi⟩ := lab_of hl
  exact ⟨⟨k, x, y, s, i⟩, rfl, hs, hi⟩
def polK : List LK := List.replicate 49 (.int .u16) ++ List.replicate 16 (.int .u8) ++ [.int .u16]
theorem pol_typ (p : Pol) : typK polK p.row = true := rfl
theorem row66 (p : Pol) : p.row.length = 66 := rfl
theorem td66 {R : List PV} (h : R.length = 66) : List.take 66 (List.drop 0 R) = R := by
  rw [List.drop_zero, List.take_of_length_le (by omega)]
theorem put66 {z R : List PV} (h : R.length = 66) (hz : z.length = 66) : putAt z 0 R = R := by
  unfold putAt
  rw [List.take_zero, List.nil_append, List.drop_eq_nil_of_le (by omega), List.append_nil]
set_option maxHeartbeats 8000000 in
theorem changeOnes_ok (p : Pol) (hp : p.Ok) (c : Chg) (hc : c.s < 65536 ∧ c.i < 65536) : EvP PR G f_L13_ChangeOnes [p.v, .agg c.row] (bv true) := by
  have m1 := R12_Mend_ok p hp
  have hq0 := mend_ok hp
  have hf0 := mend_fine hp
  generalize mendP p = q0 at *
  have c1 := change_One_ok q0 hq0 c hc.1 hc.2
  have c2 := R13_One_ok q0 hq0 hf0 (fine_clean hf0) c hc.1 hc.2
  have c3 := change_Fine_ok c
  have c4 := R13_Fine_ok c
  unfold resQ at c1 c2
  generalize oneQ q0 c = qe at *
  obtain ⟨q2, e⟩ := qe
  have c1 : EvP PR G f_change_One [q0.v, .agg c.row] (.tup [.agg q2.row, iv e]) := c1
  have c2 : EvP PR G f_R13_One [q0.v, .agg c.row] (.tup [.agg q2.row, iv e]) := c2
  have hl := row66 q2
  have ht := pol_typ q2
  generalize q2.row = R at *
  generalize c.fine = b at *
  obtain ⟨k, a, b', s, i0⟩ := c
  rw [chgrow] at *
  have hself : ∀ ks, ks = polK → eqCells ks (List.take 66 (List.drop 0 R)) (List.take 66 (List.drop 0 R)) = some true := by
    intro ks e
    rw [td66 hl]
    exact eqCells_self ht e
  have hput : ∀ z : List PV, z.length = 66 → putAt z 0 R = R := fun z hz => put66 hl hz
  have hbb : decide (b = b) = true := decide_eq_true rfl
  refine EvP.of_wpf false hm c_L13_ChangeOnes rfl ?_
  refine wpf_seq1 ?_
  conv => whnf
  repeat' ((first | refine brP_t (by assumption) ?_ | refine brP_f (by assumption) ?_ | refine brP_t (decide_eq_true (by omega)) ?_ | refine brP_f (decide_eq_false (by omega)) ?_ | refine brP_t (nd_t (by omega)) ?_ | refine brP_f (nd_f (by omega)) ?_ | ((rw [hput]; rotate_left; rfl)) | (refine gd_mk ?_ ?_; focus (simp [hl]; done)) | ((conv in (eqS _ _ _) => whnf); rw [hself _ (by rfl)]) | refine callK_p L13_alive_ok ?_ | refine callM_p L13_alive_ok rfl ?_ | refine callK_pf rfl L13_alive_ok ?_ | refine callK_pk rfl L13_alive_ok ?_ | refine wpfS_seq1 ?_ | refine wpfS_go ?_ | fail) <;> conv => whnf)
  (first | refine callK_p m1 ?_ | refine callM_p m1 rfl ?_ | refine callK_pf rfl m1 ?_ | refine callK_pk rfl m1 ?_)
  conv => whnf
  repeat' ((first | refine brP_t (by assumption) ?_ | refine brP_f (by assumption) ?_ | refine brP_t (decide_eq_true (by omega)) ?_ | refine brP_f (decide_eq_false (by omega)) ?_ | refine brP_t (nd_t (by omega)) ?_ | refine brP_f (nd_f (by omega)) ?_ | ((rw [hput]; rotate_left; rfl)) | (refine gd_mk ?_ ?_; focus (simp [hl]; done)) | ((conv in (eqS _ _ _) => whnf); rw [hself _ (by rfl)]) | refine callK_p L13_alive_ok ?_ | refine callM_p L13_alive_ok rfl ?_ | refine callK_pf rfl L13_alive_ok ?_ | refine callK_pk rfl L13_alive_ok ?_ | refine wpfS_seq1 ?_ | refine wpfS_go ?_ | fail) <;> conv => whnf)
  (first | refine callK_p c1 ?_ | refine callM_p c1 rfl ?_ | refine callK_pf rfl c1 ?_ | refine callK_pk rfl c1 ?_)
  conv => whnf
  repeat' ((first | refine brP_t (by assumption) ?_ | refine brP_f (by assumption) ?_ | refine brP_t (decide_eq_true (by omega)) ?_ | refine brP_f (decide_eq_false (by omega)) ?_ | refine brP_t (nd_t (by omega)) ?_ | refine brP_f (nd_f (by omega)) ?_ | ((rw [hput]; rotate_left; rfl)) | (refine gd_mk ?_ ?_; focus (simp [hl]; done)) | ((conv in (eqS _ _ _) => whnf); rw [hself _ (by rfl)]) | refine callK_p L13_alive_ok ?_ | refine callM_p L13_alive_ok rfl ?_ | refine callK_pf rfl L13_alive_ok ?_ | refine callK_pk rfl L13_alive_ok ?_ | refine wpfS_seq1 ?_ | refine wpfS_go ?_ | fail) <;> conv => whnf)
  (first | refine callK_p c2 ?_ | refine callM_p c2 rfl ?_ | refine callK_pf rfl c2 ?_ | refine callK_pk rfl c2 ?_)
  conv => whnf
  repeat' ((first | refine brP_t (by assumption) ?_ | refine brP_f (by assumption) ?_ | refine brP_t (decide_eq_true (by omega)) ?_ | refine brP_f (decide_eq_false (by omega)) ?_ | refine brP_t (nd_t (by omega)) ?_ | refine brP_f (nd_f (by omega)) ?_ | ((rw [hput]; rotate_left; rfl)) | (refine gd_mk ?_ ?_; focus (simp [hl]; done)) | ((conv in (eqS _ _ _) => whnf); rw [hself _ (by rfl)]) | refine callK_p L13_alive_ok ?_ | refine callM_p L13_alive_ok rfl ?_ | refine callK_pf rfl L13_alive_ok ?_ | refine callK_pk rfl L13_alive_ok ?_ | refine wpfS_seq1 ?_ | refine wpfS_go ?_ | fail) <;> conv => whnf)
  (first | refine callK_p c3 ?_ | refine callM_p c3 rfl ?_ | refine callK_pf rfl c3 ?_ | refine callK_pk rfl c3 ?_)
  conv => whnf
  repeat' ((first | refine brP_t (by assumption) ?_ | refine brP_f (by assumption) ?_ | refine brP_t (decide_eq_true (by omega)) ?_ | refine brP_f (decide_eq_false (by omega)) ?_ | refine brP_t (nd_t (by omega)) ?_ | refine brP_f (nd_f (by omega)) ?_ | ((rw [hput]; rotate_left; rfl)) | (refine gd_mk ?_ ?_; focus (simp [hl]; done)) | ((conv in (eqS _ _ _) => whnf); rw [hself _ (by rfl)]) | refine callK_p L13_alive_ok ?_ | refine callM_p L13_alive_ok rfl ?_ | refine callK_pf rfl L13_alive_ok ?_ | refine callK_pk rfl L13_alive_ok ?_ | refine wpfS_seq1 ?_ | refine wpfS_go ?_ | fail) <;> conv => whnf)
  (first | refine callK_p c4 ?_ | refine callM_p c4 rfl ?_ | refine callK_pf rfl c4 ?_ | refine callK_pk rfl c4 ?_)
  conv => whnf
  repeat' ((first | refine brP_t (by assumption) ?_ | refine brP_f (by assumption) ?_ | refine brP_t (decide_eq_true (by omega)) ?_ | refine brP_f (decide_eq_false (by omega)) ?_ | refine brP_t (nd_t (by omega)) ?_ | refine brP_f (nd_f (by omega)) ?_ | ((rw [hput]; rotate_left; rfl)) | (refine gd_mk ?_ ?_; focus (simp [hl]; done)) | ((conv in (eqS _ _ _) => whnf); rw [hself _ (by rfl)]) | refine callK_p L13_alive_ok ?_ | refine callM_p L13_alive_ok rfl ?_ | refine callK_pf rfl L13_alive_ok ?_ | refine callK_pk rfl L13_alive_ok ?_ | refine wpfS_seq1 ?_ | refine wpfS_go ?_ | fail) <;> conv => whnf)
  rfl
theorem law_changeOnes (pvss : List (List PV)) (hw : wts [shPol, shChg] pvss) : EvP PR G f_L13_ChangeOnes (argAVs [shPol, shChg] pvss) (.c (.p (.bool true))) := by
  obtain ⟨a, _, rfl, ha, hw⟩ := wts_cons hw
  obtain ⟨b, _, rfl, hb, hw⟩ := wts_cons hw
  cases wts_nil hw
  obtain ⟨p, rfl, hp⟩ := pol_of ha
  obtain ⟨c, rfl, hc⟩ := chg_of hb
  exact changeOnes_ok p hp c hc
end Go.Ab.S
