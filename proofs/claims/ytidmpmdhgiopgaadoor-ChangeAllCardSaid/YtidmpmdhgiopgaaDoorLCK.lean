/- ChangeAll. No condition. -/
import Derived.Test.YtidmpmdhgiopgaaDoorLCL
set_option linter.unusedSimpArgs false
set_option linter.unusedVariables false
namespace Go.Ab.S
open Go Go.Ab Go.Proofs
attribute [local irreducible] SemS eqCells
set_option maxRecDepth 100000
set_option maxHeartbeats 8000000 in
theorem changeAll_ok (p : Pol) (hp : p.Ok) (l : List Chg) (hl63 : l.length < 2 ^ 63) (hc : ∀ c ∈ l, c.s < 65536 ∧ c.i < 65536) : EvP PR G f_L13_ChangeAll [p.v, slv (chgs l)] (bv true) := by
  have hlen := chgs_len (l := l)
  refine EvP.of_wpf false hm c_L13_ChangeAll rfl ?_
  refine wpf_seq1 ?_
  conv => whnf
  by_cases h30 : 30 < l.length
  · repeat' ((first | refine brP_t (by assumption) ?_ | refine brP_f (by assumption) ?_ | refine brP_t (decide_eq_true (by omega)) ?_ | refine brP_f (decide_eq_false (by omega)) ?_ | refine brP_t (nd_t (by omega)) ?_ | refine brP_f (nd_f (by omega)) ?_ | ((rw [hlen])) | refine callK_p L13_alive_ok ?_ | refine callM_p L13_alive_ok rfl ?_ | refine callK_pf rfl L13_alive_ok ?_ | refine callK_pk rfl L13_alive_ok ?_ | refine wpfS_seq1 ?_ | refine wpfS_go ?_ | fail) <;> conv => whnf)
    rfl
  have hl62 : l.length < 2 ^ 62 := by omega
  have m1 := R12_Mend_ok p hp
  have hq0 := mend_ok hp
  have hf0 := mend_fine hp
  generalize mendP p = q0 at *
  have c1 := change_All_ok q0 hq0 l hl62 hc
  have c2 := R13_All_ok q0 hq0 hf0 l hl62 hc
  obtain ⟨hqo, hqf⟩ := allQ_ok hq0 hc
  have hqf := hqf hf0
  have c3 := policy_Fine_ok _ hqo
  have c4 := change_Map_ok l hl62
  have c5 := R13_Map_ok l (by omega)
  unfold resA at c1 c2
  generalize allQ q0 l = qe at *
  obtain ⟨q2, n, e⟩ := qe
  dsimp only at hqo hqf c3
  have c1 : EvP PR G f_change_All [q0.v, slv (chgs l)] (.tup [.agg q2.row, iv n, iv e]) := c1
  have c2 : EvP PR G f_R13_All [q0.v, slv (chgs l)] (.tup [.agg q2.row, iv n, iv e]) := c2
  have c3 : EvP PR G f_policy_Fine [.agg q2.row] (bv (fineP q2)) := c3
  have hl := row66 q2
  have ht := pol_typ q2
  generalize fineP q2 = fb at *
  generalize q2.row = R at *
  have hM : eqCells (List.replicate 16 (.int .u8)) (mrow (mapC l)) (mrow (mapC l)) = some true := eqCells_self (ks := List.replicate 16 (.int .u8)) rfl rfl
  have c4 : EvP PR G f_change_Map [slv (chgs l)] (.agg (mrow (mapC l))) := c4
  have c5 : EvP PR G f_R13_Map [slv (chgs l)] (.agg (mrow (mapC l))) := c5
  generalize mrow (mapC l) = MR at *
  have hself : ∀ ks, ks = polK → eqCells ks (List.take 66 (List.drop 0 R)) (List.take 66 (List.drop 0 R)) = some true := by
    intro ks e
    rw [td66 hl]
    exact eqCells_self ht e
  have hmap : ∀ ks, ks = List.replicate 16 (LK.int .u8) → eqCells ks MR MR = some true := fun ks e => by rw [e]; exact hM
  have hput : ∀ z : List PV, z.length = 66 → putAt z 0 R = R := fun z hz => put66 hl hz
  have htd : List.take 66 (List.drop 0 R) = R := td66 hl
  have hself2 : ∀ ks, ks = polK → eqCells ks R R = some true := fun ks e => eqCells_self ht e
  have hq : ∀ (ks : List LK) (x y : AV), ks = polK → x = .agg (List.take 66 (List.drop 0 R)) → y = .agg (List.take 66 (List.drop 0 R)) → eqS (.agg ks) x y = some (true, true) := fun ks x y h1 h2 h3 => by
    subst h2; subst h3
    show (match eqCells ks (List.take 66 (List.drop 0 R)) (List.take 66 (List.drop 0 R)) with | some r => some (true, r) | none => none) = _
    rw [hself ks h1]
  have hq2 : ∀ (ks : List LK) (x y : AV), ks = polK → x = .agg R → y = .agg R → eqS (.agg ks) x y = some (true, true) := fun ks x y h1 h2 h3 => by
    subst h2; subst h3
    show (match eqCells ks R R with | some r => some (true, r) | none => none) = _
    rw [hself2 ks h1]
  have hqm : ∀ (ks : List LK) (x y : AV), ks = List.replicate 16 (LK.int .u8) → x = .agg MR → y = .agg MR → eqS (.agg ks) x y = some (true, true) := fun ks x y h1 h2 h3 => by
    subst h2; subst h3
    show (match eqCells ks MR MR with | some r => some (true, r) | none => none) = _
    rw [hmap ks h1]
  clear hself hself2 hmap
  have hnn : (!decide (n = n)) = false := by simp
  have hee : (!decide (e = e)) = false := by simp
  have hmid : (!decide (e = e)) = false := hee
  by_cases he : e = 0
  · have hfb := hqf he
    subst hfb
    have c3' : EvP PR G f_policy_Fine [.agg (List.take 66 (List.drop 0 R))] (bv true) := by rw [htd]; exact c3
    repeat' ((first | refine brP_t (by assumption) ?_ | refine brP_f (by assumption) ?_ | refine brP_t (decide_eq_true (by omega)) ?_ | refine brP_f (decide_eq_false (by omega)) ?_ | refine brP_t (nd_t (by omega)) ?_ | refine brP_f (nd_f (by omega)) ?_ | ((rw [hlen])) | ((rw [hput]; rotate_left; rfl)) | (refine gd_mk ?_ ?_; focus (simp [hl]; done)) | refine callK_p L13_alive_ok ?_ | refine callM_p L13_alive_ok rfl ?_ | refine callK_pf rfl L13_alive_ok ?_ | refine callK_pk rfl L13_alive_ok ?_ | refine wpfS_seq1 ?_ | refine wpfS_go ?_ | fail) <;> conv => whnf)
    (first | refine callK_p m1 ?_ | refine callM_p m1 rfl ?_ | refine callK_pf rfl m1 ?_ | refine callK_pk rfl m1 ?_)
    conv => whnf
    repeat' ((first | refine brP_t (by assumption) ?_ | refine brP_f (by assumption) ?_ | refine brP_t (decide_eq_true (by omega)) ?_ | refine brP_f (decide_eq_false (by omega)) ?_ | refine brP_t (nd_t (by omega)) ?_ | refine brP_f (nd_f (by omega)) ?_ | ((rw [hlen])) | ((rw [hput]; rotate_left; rfl)) | (refine gd_mk ?_ ?_; focus (simp [hl]; done)) | refine callK_p L13_alive_ok ?_ | refine callM_p L13_alive_ok rfl ?_ | refine callK_pf rfl L13_alive_ok ?_ | refine callK_pk rfl L13_alive_ok ?_ | refine wpfS_seq1 ?_ | refine wpfS_go ?_ | fail) <;> conv => whnf)
    (first | refine callK_p c1 ?_ | refine callM_p c1 rfl ?_ | refine callK_pf rfl c1 ?_ | refine callK_pk rfl c1 ?_)
    conv => whnf
    repeat' ((first | refine brP_t (by assumption) ?_ | refine brP_f (by assumption) ?_ | refine brP_t (decide_eq_true (by omega)) ?_ | refine brP_f (decide_eq_false (by omega)) ?_ | refine brP_t (nd_t (by omega)) ?_ | refine brP_f (nd_f (by omega)) ?_ | ((rw [hlen])) | ((rw [hput]; rotate_left; rfl)) | (refine gd_mk ?_ ?_; focus (simp [hl]; done)) | refine callK_p L13_alive_ok ?_ | refine callM_p L13_alive_ok rfl ?_ | refine callK_pf rfl L13_alive_ok ?_ | refine callK_pk rfl L13_alive_ok ?_ | refine wpfS_seq1 ?_ | refine wpfS_go ?_ | fail) <;> conv => whnf)
    (refine callK_p c2 ?_)
    conv => whnf
    refine gd_mk (by simp [hl]) ?_
    conv => whnf
    (rw [hput]; rotate_left; rfl)
    conv => whnf
    refine wpfS_seq1 ?_
    refine wpf_seq1 ?_
    refine wpf_cut 1 ?_
    conv => whnf
    refine gd_mk (by simp [hl]) ?_
    conv => whnf
    refine wpfS_go (wpf_cut 1 ?_)
    conv => whnf
    refine gd_mk (by simp [hl]) ?_
    conv => whnf
    refine wpfS_go (wpf_cut 1 ?_)
    conv => whnf
    rw [hq _ _ _ (by rfl) (by rfl) (by rfl)]
    conv => whnf
    refine wpfS_go ?_
    conv => whnf
    rw [hnn]
    conv => whnf
    rw [hee]
    conv => whnf
    refine wpfS_go ?_
    conv => whnf
    subst he
    refine wpfS_seq1 ?_
    refine wpf_cut 4 ?_
    conv => whnf
    refine gd_mk (by simp [hl]) ?_
    conv => whnf
    refine wpfS_go (wpf_cut 1 ?_)
    conv => whnf
    refine callK_p c3' ?_
    conv => whnf
    refine wpfS_go (wpf_cut 3 ?_)
    conv => whnf
    refine callK_p c4 ?_
    conv => whnf
    refine wpfS_go (wpf_cut 2 ?_)
    conv => whnf
    refine callK_p c5 ?_
    conv => whnf
    refine wpfS_go (wpf_cut 1 ?_)
    conv => whnf
    rw [hqm _ _ _ (by rfl) (by rfl) (by rfl)]
    conv => whnf
    refine wpfS_go ?_
    conv => whnf
    refine callK_p L13_alive_ok ?_
    conv => whnf
    refine wpfS_go ?_
    conv => whnf
    rfl
  · have hen : (!decide (e = 0)) = true := by simp [he]
    repeat' ((first | refine brP_t (by assumption) ?_ | refine brP_f (by assumption) ?_ | refine brP_t (decide_eq_true (by omega)) ?_ | refine brP_f (decide_eq_false (by omega)) ?_ | refine brP_t (nd_t (by omega)) ?_ | refine brP_f (nd_f (by omega)) ?_ | ((rw [hlen])) | ((rw [hput]; rotate_left; rfl)) | (refine gd_mk ?_ ?_; focus (simp [hl]; done)) | refine callK_p L13_alive_ok ?_ | refine callM_p L13_alive_ok rfl ?_ | refine callK_pf rfl L13_alive_ok ?_ | refine callK_pk rfl L13_alive_ok ?_ | refine wpfS_seq1 ?_ | refine wpfS_go ?_ | fail) <;> conv => whnf)
    (first | refine callK_p m1 ?_ | refine callM_p m1 rfl ?_ | refine callK_pf rfl m1 ?_ | refine callK_pk rfl m1 ?_)
    conv => whnf
    repeat' ((first | refine brP_t (by assumption) ?_ | refine brP_f (by assumption) ?_ | refine brP_t (decide_eq_true (by omega)) ?_ | refine brP_f (decide_eq_false (by omega)) ?_ | refine brP_t (nd_t (by omega)) ?_ | refine brP_f (nd_f (by omega)) ?_ | ((rw [hlen])) | ((rw [hput]; rotate_left; rfl)) | (refine gd_mk ?_ ?_; focus (simp [hl]; done)) | refine callK_p L13_alive_ok ?_ | refine callM_p L13_alive_ok rfl ?_ | refine callK_pf rfl L13_alive_ok ?_ | refine callK_pk rfl L13_alive_ok ?_ | refine wpfS_seq1 ?_ | refine wpfS_go ?_ | fail) <;> conv => whnf)
    (first | refine callK_p c1 ?_ | refine callM_p c1 rfl ?_ | refine callK_pf rfl c1 ?_ | refine callK_pk rfl c1 ?_)
    conv => whnf
    repeat' ((first | refine brP_t (by assumption) ?_ | refine brP_f (by assumption) ?_ | refine brP_t (decide_eq_true (by omega)) ?_ | refine brP_f (decide_eq_false (by omega)) ?_ | refine brP_t (nd_t (by omega)) ?_ | refine brP_f (nd_f (by omega)) ?_ | ((rw [hlen])) | ((rw [hput]; rotate_left; rfl)) | (refine gd_mk ?_ ?_; focus (simp [hl]; done)) | refine callK_p L13_alive_ok ?_ | refine callM_p L13_alive_ok rfl ?_ | refine callK_pf rfl L13_alive_ok ?_ | refine callK_pk rfl L13_alive_ok ?_ | refine wpfS_seq1 ?_ | refine wpfS_go ?_ | fail) <;> conv => whnf)
    (refine callK_p c2 ?_)
    conv => whnf
    refine gd_mk (by simp [hl]) ?_
    conv => whnf
    (rw [hput]; rotate_left; rfl)
    conv => whnf
    refine wpfS_seq1 ?_
    refine wpf_seq1 ?_
    refine wpf_cut 1 ?_
    conv => whnf
    refine gd_mk (by simp [hl]) ?_
    conv => whnf
    refine wpfS_go (wpf_cut 1 ?_)
    conv => whnf
    refine gd_mk (by simp [hl]) ?_
    conv => whnf
    refine wpfS_go (wpf_cut 1 ?_)
    conv => whnf
    rw [hq _ _ _ (by rfl) (by rfl) (by rfl)]
    conv => whnf
    refine wpfS_go ?_
    conv => whnf
    rw [hnn]
    conv => whnf
    rw [hee]
    conv => whnf
    refine wpfS_go ?_
    conv => whnf
    refine wpfS_seq1 ?_
    conv => whnf
    rw [hen]
    conv => whnf
    refine callK_p L13_alive_ok ?_
    conv => whnf
    refine wpfS_go ?_
    conv => whnf
    rfl
theorem law_changeAll (pvss : List (List PV)) (hw : wts [shPol, .sl 5 32 shChg] pvss) : EvP PR G f_L13_ChangeAll (argAVs [shPol, .sl 5 32 shChg] pvss) (.c (.p (.bool true))) := by
  obtain ⟨a, _, rfl, ha, hw⟩ := wts_cons hw
  obtain ⟨b, _, rfl, hb, hw⟩ := wts_cons hw
  cases wts_nil hw
  obtain ⟨p, rfl, hp⟩ := pol_of ha
  obtain ⟨es, rfl, -, hlen, hes⟩ := hb
  obtain ⟨l, rfl, hl⟩ := chgs_of hes
  rw [chgs_len] at hlen
  exact changeAll_ok p hp l (Nat.lt_of_le_of_lt hlen (by decide)) hl
end Go.Ab.S
