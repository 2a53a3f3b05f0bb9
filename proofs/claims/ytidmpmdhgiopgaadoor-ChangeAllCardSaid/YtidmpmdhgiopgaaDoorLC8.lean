/- Any one change, by the document. No condition. -/
import Derived.Test.YtidmpmdhgiopgaaDoorLC7
set_option linter.unusedSimpArgs false
set_option linter.unusedVariables false
namespace Go.Ab.S
open Go Go.Ab Go.Proofs
attribute [local irreducible] SemS
set_option maxRecDepth 100000
theorem oneQ_err {p : Pol} {c : Chg} (hf : c.fine = true) {q : Pol} {e : Int} (h : doQ p c = (q, e)) (he : e ≠ 0) : oneQ p c = (zeroP, e) := by
  unfold oneQ
  rw [if_pos hf, h, if_neg he]
theorem oneQ_fin {p : Pol} {c : Chg} (hf : c.fine = true) {q : Pol} (h : doQ p c = (q, 0)) : oneQ p c = (q, 0) := by
  unfold oneQ
  rw [if_pos hf, h, if_pos rfl]
theorem put_liveN (p : Pol) (n : Nat) : putAt p.row 0 [.int .u16 ((n : Nat) : Int)] = (setLive p n).row := rfl
theorem diff_less {a r : Nat} (ha : a < 65536) (hr : r < 16) : lessN a (2 ^ r) = diffN a (2 ^ r) := by
  have hpw := pow16 (t := r) (by omega)
  exact set_ext less_lt diffN_lt fun j hj => by rw [less_bit hj, diffN_bit ha (by omega) hj]
set_option maxHeartbeats 8000000 in
theorem R13_One_ok (p : Pol) (hp : p.Ok) (hfp : fineP p = true) (hc : Clean p) (c : Chg) (hs : c.s < 65536) (hi : c.i < 65536) : EvP PR G f_R13_One [p.v, .agg c.row] (resQ (oneQ p c)) := by
  have cF := R13_Fine_ok c
  cases hf : c.fine with
  | false =>
    rw [hf] at cF
    unfold oneQ
    rw [hf, if_neg (by decide)]
    refine EvP.of_wpf false hm c_R13_One rfl ?_
    refine wpf_seq1 ?_
    conv => whnf
    repeat' ((first | refine brP_t (by assumption) ?_ | refine brP_f (by assumption) ?_ | refine brP_t (decide_eq_true (by omega)) ?_ | refine brP_f (decide_eq_false (by omega)) ?_ | refine brP_t (nd_t (by omega)) ?_ | refine brP_f (nd_f (by omega)) ?_ | refine callK_p cF ?_ | refine callM_p cF rfl ?_ | refine callK_pf rfl cF ?_ | refine callK_pk rfl cF ?_ | refine wpfS_seq1 ?_ | refine wpfS_go ?_ | fail) <;> conv => whnf)
    rfl
  | true =>
  rw [hf] at cF
  obtain ⟨hk, ha, hb0, hb⟩ := Chg.fine_iff hf
  have cT := R13_tag_ok p hp hc c
  obtain ⟨k, a, b, s, i0⟩ := c
  dsimp only at hk ha hb0 hb hs hi cT
  obtain ⟨r, rfl⟩ := Int.eq_ofNat_of_zero_le ha.1
  obtain ⟨q, rfl⟩ := Int.eq_ofNat_of_zero_le hb0
  have hr : r < 16 := by omega
  have hpw := pow16 (t := r) (by omega)
  rw [chgrow] at *
  have c1 := R01_Has_ok p.live r hp.live
  have c2 := R01_Has_ok p.live q hp.live
  refine EvP.of_wpf false hm c_R13_One rfl ?_
  refine wpf_seq1 ?_
  conv => whnf
  rcases kinds6 hk with rfl | rfl | rfl | rfl | rfl | rfl
  · -- a role comes
    have hd : doQ p ⟨1, r, q, s, i0⟩ = addQ p ⟨1, r, q, s, i0⟩ := if_pos rfl
    have hadd : addQ p ⟨1, r, q, s, i0⟩ = if hasN p.live r then (p, 7) else if subB (s ||| i0) p.active then (setLab (setLive p (p.live ||| 2 ^ r)) r s i0, 0) else (p, 8) := rfl
    rw [hadd] at hd
    have c3 := R01_With_ok p.live r hp.live
    rw [withN_nat hr] at c3
    have c4 := R02_Tags_ok s i0 hs hi
    have c5 := R01_Sub_ok (s ||| i0) p.active (or_lt hs hi) hp.active
    have hpt := put_liveN p (p.live ||| 2 ^ r)
    have hlab : List.take 2 (List.drop (0 + 3) [PV.int .i64 1, .int .i64 (r : Int), .int .i64 (q : Int), .int .u16 s, .int .u16 i0]) = [.int .u16 s, .int .u16 i0] := rfl
    cases h1 : hasN p.live r with
    | true =>
      rw [h1] at c1 hd
      rw [oneQ_err hf hd (by decide)]
      repeat' ((first | (refine gd_mk ?_ ?_; (focus (first | exact decide_eq_true (by rw [pol_len]; omega) | exact decide_eq_true (And.intro rfl (by rw [pol_len]; simp only [List.length_cons, List.length_nil]; omega)) | exact decide_eq_true (And.intro rfl (by rw [pol_len]; omega)) | exact decide_eq_true (by rw [pol_len]; simp only [List.length_cons, List.length_nil]; omega) | exact decide_eq_true (by show _ ≤ 16; omega) | exact decide_eq_true (And.intro rfl (by show _ ≤ 16; omega)) | exact decide_eq_true (And.intro rfl (by show _ ≤ 16; simp only [List.length_cons, List.length_nil]; omega)))); rw [Int.toNat_natCast, put_lab _ hr]) | refine brP_t (by assumption) ?_ | refine brP_f (by assumption) ?_ | refine brP_t (decide_eq_true (by omega)) ?_ | refine brP_f (decide_eq_false (by omega)) ?_ | refine brP_t (nd_t (by omega)) ?_ | refine brP_f (nd_f (by omega)) ?_ | refine callK_p cF ?_ | refine callM_p cF rfl ?_ | refine callK_pf rfl cF ?_ | refine callK_pk rfl cF ?_ | refine callK_p c1 ?_ | refine callM_p c1 rfl ?_ | refine callK_pf rfl c1 ?_ | refine callK_pk rfl c1 ?_ | refine callK_p c2 ?_ | refine callM_p c2 rfl ?_ | refine callK_pf rfl c2 ?_ | refine callK_pk rfl c2 ?_ | refine callK_p c3 ?_ | refine callM_p c3 rfl ?_ | refine callK_pf rfl c3 ?_ | refine callK_pk rfl c3 ?_ | ((rw [hpt])) | ((rw [hlab])) | refine wpfS_seq1 ?_ | refine wpfS_go ?_ | fail) <;> conv => whnf)
      rfl
    | false =>
      rw [h1] at c1 hd
      cases h2 : subB (s ||| i0) p.active with
      | false =>
        rw [h2] at c5 hd
        rw [oneQ_err hf hd (by decide)]
        repeat' ((first | (refine gd_mk ?_ ?_; (focus (first | exact decide_eq_true (by rw [pol_len]; omega) | exact decide_eq_true (And.intro rfl (by rw [pol_len]; simp only [List.length_cons, List.length_nil]; omega)) | exact decide_eq_true (And.intro rfl (by rw [pol_len]; omega)) | exact decide_eq_true (by rw [pol_len]; simp only [List.length_cons, List.length_nil]; omega) | exact decide_eq_true (by show _ ≤ 16; omega) | exact decide_eq_true (And.intro rfl (by show _ ≤ 16; omega)) | exact decide_eq_true (And.intro rfl (by show _ ≤ 16; simp only [List.length_cons, List.length_nil]; omega)))); rw [Int.toNat_natCast, put_lab _ hr]) | refine brP_t (by assumption) ?_ | refine brP_f (by assumption) ?_ | refine brP_t (decide_eq_true (by omega)) ?_ | refine brP_f (decide_eq_false (by omega)) ?_ | refine brP_t (nd_t (by omega)) ?_ | refine brP_f (nd_f (by omega)) ?_ | refine callK_p cF ?_ | refine callM_p cF rfl ?_ | refine callK_pf rfl cF ?_ | refine callK_pk rfl cF ?_ | refine callK_p c1 ?_ | refine callM_p c1 rfl ?_ | refine callK_pf rfl c1 ?_ | refine callK_pk rfl c1 ?_ | refine callK_p c2 ?_ | refine callM_p c2 rfl ?_ | refine callK_pf rfl c2 ?_ | refine callK_pk rfl c2 ?_ | refine callK_p c4 ?_ | refine callM_p c4 rfl ?_ | refine callK_pf rfl c4 ?_ | refine callK_pk rfl c4 ?_ | refine callK_p c5 ?_ | refine callM_p c5 rfl ?_ | refine callK_pf rfl c5 ?_ | refine callK_pk rfl c5 ?_ | refine callK_p c3 ?_ | refine callM_p c3 rfl ?_ | refine callK_pf rfl c3 ?_ | refine callK_pk rfl c3 ?_ | ((rw [hpt])) | ((rw [hlab])) | refine wpfS_seq1 ?_ | refine wpfS_go ?_ | fail) <;> conv => whnf)
        rfl
      | true =>
        rw [h2] at c5 hd
        rw [oneQ_fin hf hd]
        repeat' ((first | (refine gd_mk ?_ ?_; (focus (first | exact decide_eq_true (by rw [pol_len]; omega) | exact decide_eq_true (And.intro rfl (by rw [pol_len]; simp only [List.length_cons, List.length_nil]; omega)) | exact decide_eq_true (And.intro rfl (by rw [pol_len]; omega)) | exact decide_eq_true (by rw [pol_len]; simp only [List.length_cons, List.length_nil]; omega) | exact decide_eq_true (by show _ ≤ 16; omega) | exact decide_eq_true (And.intro rfl (by show _ ≤ 16; omega)) | exact decide_eq_true (And.intro rfl (by show _ ≤ 16; simp only [List.length_cons, List.length_nil]; omega)))); rw [Int.toNat_natCast, put_lab _ hr]) | refine brP_t (by assumption) ?_ | refine brP_f (by assumption) ?_ | refine brP_t (decide_eq_true (by omega)) ?_ | refine brP_f (decide_eq_false (by omega)) ?_ | refine brP_t (nd_t (by omega)) ?_ | refine brP_f (nd_f (by omega)) ?_ | refine callK_p cF ?_ | refine callM_p cF rfl ?_ | refine callK_pf rfl cF ?_ | refine callK_pk rfl cF ?_ | refine callK_p c1 ?_ | refine callM_p c1 rfl ?_ | refine callK_pf rfl c1 ?_ | refine callK_pk rfl c1 ?_ | refine callK_p c2 ?_ | refine callM_p c2 rfl ?_ | refine callK_pf rfl c2 ?_ | refine callK_pk rfl c2 ?_ | refine callK_p c4 ?_ | refine callM_p c4 rfl ?_ | refine callK_pf rfl c4 ?_ | refine callK_pk rfl c4 ?_ | refine callK_p c5 ?_ | refine callM_p c5 rfl ?_ | refine callK_pf rfl c5 ?_ | refine callK_pk rfl c5 ?_ | refine callK_p c3 ?_ | refine callM_p c3 rfl ?_ | refine callK_pf rfl c3 ?_ | refine callK_pk rfl c3 ?_ | ((rw [hpt])) | ((rw [hlab])) | refine wpfS_seq1 ?_ | refine wpfS_go ?_ | fail) <;> conv => whnf)
        rfl
  · -- a role goes
    have hd : doQ p ⟨2, r, q, s, i0⟩ = if hasN p.live r then (dropP p r, 0) else (p, 6) := rfl
    have c3 := R13_drop_ok p hp r hr
    have hdr := drop_mend hp hfp hr
    have c3 : EvP PR G f_R13_drop [p.v, iv r] (dropP p r).v := by
      have : (mendP (setLive p (lessN p.live (2 ^ r)))).v = (dropP p r).v := congrArg AV.agg hdr
      rw [← this]; exact c3
    generalize dropP p r = dp at *
    cases h1 : hasN p.live r with
    | false =>
      rw [h1] at c1 hd
      rw [oneQ_err hf hd (by decide)]
      repeat' ((first | refine brP_t (by assumption) ?_ | refine brP_f (by assumption) ?_ | refine brP_t (decide_eq_true (by omega)) ?_ | refine brP_f (decide_eq_false (by omega)) ?_ | refine brP_t (nd_t (by omega)) ?_ | refine brP_f (nd_f (by omega)) ?_ | refine callK_p cF ?_ | refine callM_p cF rfl ?_ | refine callK_pf rfl cF ?_ | refine callK_pk rfl cF ?_ | refine callK_p c1 ?_ | refine callM_p c1 rfl ?_ | refine callK_pf rfl c1 ?_ | refine callK_pk rfl c1 ?_ | refine callK_p c2 ?_ | refine callM_p c2 rfl ?_ | refine callK_pf rfl c2 ?_ | refine callK_pk rfl c2 ?_ | refine callK_p c3 ?_ | refine callM_p c3 rfl ?_ | refine callK_pf rfl c3 ?_ | refine callK_pk rfl c3 ?_ | refine wpfS_seq1 ?_ | refine wpfS_go ?_ | fail) <;> conv => whnf)
      rfl
    | true =>
      rw [h1] at c1 hd
      rw [oneQ_fin hf hd]
      repeat' ((first | refine brP_t (by assumption) ?_ | refine brP_f (by assumption) ?_ | refine brP_t (decide_eq_true (by omega)) ?_ | refine brP_f (decide_eq_false (by omega)) ?_ | refine brP_t (nd_t (by omega)) ?_ | refine brP_f (nd_f (by omega)) ?_ | refine callK_p cF ?_ | refine callM_p cF rfl ?_ | refine callK_pf rfl cF ?_ | refine callK_pk rfl cF ?_ | refine callK_p c1 ?_ | refine callM_p c1 rfl ?_ | refine callK_pf rfl c1 ?_ | refine callK_pk rfl c1 ?_ | refine callK_p c2 ?_ | refine callM_p c2 rfl ?_ | refine callK_pf rfl c2 ?_ | refine callK_pk rfl c2 ?_ | refine callK_p c3 ?_ | refine callM_p c3 rfl ?_ | refine callK_pf rfl c3 ?_ | refine callK_pk rfl c3 ?_ | refine wpfS_seq1 ?_ | refine wpfS_go ?_ | fail) <;> conv => whnf)
      rfl
  · -- a link
    have hq : q < 16 := by have hb : (q : Int) ≤ 15 := hb; omega
    have hd : doQ p ⟨3, r, q, s, i0⟩ = if hasN p.live r && hasN p.live q then (if (r : Int) = q then (p, 1) else if hasN (p.acts r) q then (p, 7) else (setAct p r (p.acts r ||| 2 ^ q), 0)) else (p, 6) := rfl
    have c3 := R01_Has_ok (p.acts r) q (hp.acts r hr)
    have c4 := R01_With_ok (p.acts r) q (hp.acts r hr)
    rw [withN_nat hq] at c4
    have g2 := pol_act p hr
    cases h1 : hasN p.live r with
    | false =>
      rw [h1] at c1 hd
      rw [oneQ_err hf hd (by decide)]
      repeat' ((first | (refine gd_mk ?_ ?_; (focus (first | exact decide_eq_true (by rw [pol_len]; omega) | exact decide_eq_true (And.intro rfl (by rw [pol_len]; simp only [List.length_cons, List.length_nil]; omega)) | exact decide_eq_true (And.intro rfl (by rw [pol_len]; omega)) | exact decide_eq_true (by rw [pol_len]; simp only [List.length_cons, List.length_nil]; omega) | exact decide_eq_true (by show _ ≤ 16; omega) | exact decide_eq_true (And.intro rfl (by show _ ≤ 16; omega)) | exact decide_eq_true (And.intro rfl (by show _ ≤ 16; simp only [List.length_cons, List.length_nil]; omega)))); rw [Int.toNat_natCast, put_act _ hr]) | refine brP_t (by assumption) ?_ | refine brP_f (by assumption) ?_ | refine brP_t (decide_eq_true (by omega)) ?_ | refine brP_f (decide_eq_false (by omega)) ?_ | refine brP_t (nd_t (by omega)) ?_ | refine brP_f (nd_f (by omega)) ?_ | refine callK_p cF ?_ | refine callM_p cF rfl ?_ | refine callK_pf rfl cF ?_ | refine callK_pk rfl cF ?_ | refine callK_p c1 ?_ | refine callM_p c1 rfl ?_ | refine callK_pf rfl c1 ?_ | refine callK_pk rfl c1 ?_ | refine callK_p c2 ?_ | refine callM_p c2 rfl ?_ | refine callK_pf rfl c2 ?_ | refine callK_pk rfl c2 ?_ | refine callK_p c4 ?_ | refine callM_p c4 rfl ?_ | refine callK_pf rfl c4 ?_ | refine callK_pk rfl c4 ?_ | ((conv in (opS _ _ _ _) => whnf); rw [Int.toNat_natCast, g2]) | ((conv in (opM _ _ _ _ _) => whnf); (conv in (opS _ _ _ _) => whnf); rw [Int.toNat_natCast, g2]) | refine wpfS_seq1 ?_ | refine wpfS_go ?_ | fail) <;> conv => whnf)
      rfl
    | true =>
      rw [h1] at c1 hd
      cases h2 : hasN p.live q with
      | false =>
        rw [h2] at c2 hd
        rw [oneQ_err hf hd (by decide)]
        repeat' ((first | (refine gd_mk ?_ ?_; (focus (first | exact decide_eq_true (by rw [pol_len]; omega) | exact decide_eq_true (And.intro rfl (by rw [pol_len]; simp only [List.length_cons, List.length_nil]; omega)) | exact decide_eq_true (And.intro rfl (by rw [pol_len]; omega)) | exact decide_eq_true (by rw [pol_len]; simp only [List.length_cons, List.length_nil]; omega) | exact decide_eq_true (by show _ ≤ 16; omega) | exact decide_eq_true (And.intro rfl (by show _ ≤ 16; omega)) | exact decide_eq_true (And.intro rfl (by show _ ≤ 16; simp only [List.length_cons, List.length_nil]; omega)))); rw [Int.toNat_natCast, put_act _ hr]) | refine brP_t (by assumption) ?_ | refine brP_f (by assumption) ?_ | refine brP_t (decide_eq_true (by omega)) ?_ | refine brP_f (decide_eq_false (by omega)) ?_ | refine brP_t (nd_t (by omega)) ?_ | refine brP_f (nd_f (by omega)) ?_ | refine callK_p cF ?_ | refine callM_p cF rfl ?_ | refine callK_pf rfl cF ?_ | refine callK_pk rfl cF ?_ | refine callK_p c1 ?_ | refine callM_p c1 rfl ?_ | refine callK_pf rfl c1 ?_ | refine callK_pk rfl c1 ?_ | refine callK_p c2 ?_ | refine callM_p c2 rfl ?_ | refine callK_pf rfl c2 ?_ | refine callK_pk rfl c2 ?_ | refine callK_p c4 ?_ | refine callM_p c4 rfl ?_ | refine callK_pf rfl c4 ?_ | refine callK_pk rfl c4 ?_ | ((conv in (opS _ _ _ _) => whnf); rw [Int.toNat_natCast, g2]) | ((conv in (opM _ _ _ _ _) => whnf); (conv in (opS _ _ _ _) => whnf); rw [Int.toNat_natCast, g2]) | refine wpfS_seq1 ?_ | refine wpfS_go ?_ | fail) <;> conv => whnf)
        rfl
      | true =>
        rw [h2] at c2 hd
        rw [Bool.and_self, if_pos rfl] at hd
        by_cases he : (r : Int) = q
        · rw [if_pos he] at hd
          rw [oneQ_err hf hd (by decide)]
          repeat' ((first | (refine gd_mk ?_ ?_; (focus (first | exact decide_eq_true (by rw [pol_len]; omega) | exact decide_eq_true (And.intro rfl (by rw [pol_len]; simp only [List.length_cons, List.length_nil]; omega)) | exact decide_eq_true (And.intro rfl (by rw [pol_len]; omega)) | exact decide_eq_true (by rw [pol_len]; simp only [List.length_cons, List.length_nil]; omega) | exact decide_eq_true (by show _ ≤ 16; omega) | exact decide_eq_true (And.intro rfl (by show _ ≤ 16; omega)) | exact decide_eq_true (And.intro rfl (by show _ ≤ 16; simp only [List.length_cons, List.length_nil]; omega)))); rw [Int.toNat_natCast, put_act _ hr]) | refine brP_t (by assumption) ?_ | refine brP_f (by assumption) ?_ | refine brP_t (decide_eq_true (by omega)) ?_ | refine brP_f (decide_eq_false (by omega)) ?_ | refine brP_t (nd_t (by omega)) ?_ | refine brP_f (nd_f (by omega)) ?_ | refine callK_p cF ?_ | refine callM_p cF rfl ?_ | refine callK_pf rfl cF ?_ | refine callK_pk rfl cF ?_ | refine callK_p c1 ?_ | refine callM_p c1 rfl ?_ | refine callK_pf rfl c1 ?_ | refine callK_pk rfl c1 ?_ | refine callK_p c2 ?_ | refine callM_p c2 rfl ?_ | refine callK_pf rfl c2 ?_ | refine callK_pk rfl c2 ?_ | refine callK_p c4 ?_ | refine callM_p c4 rfl ?_ | refine callK_pf rfl c4 ?_ | refine callK_pk rfl c4 ?_ | ((conv in (opS _ _ _ _) => whnf); rw [Int.toNat_natCast, g2]) | ((conv in (opM _ _ _ _ _) => whnf); (conv in (opS _ _ _ _) => whnf); rw [Int.toNat_natCast, g2]) | refine wpfS_seq1 ?_ | refine wpfS_go ?_ | fail) <;> conv => whnf)
          rfl
        · rw [if_neg he] at hd
          cases h3 : hasN (p.acts r) q with
          | true =>
            rw [h3] at c3 hd
            rw [oneQ_err hf hd (by decide)]
            repeat' ((first | (refine gd_mk ?_ ?_; (focus (first | exact decide_eq_true (by rw [pol_len]; omega) | exact decide_eq_true (And.intro rfl (by rw [pol_len]; simp only [List.length_cons, List.length_nil]; omega)) | exact decide_eq_true (And.intro rfl (by rw [pol_len]; omega)) | exact decide_eq_true (by rw [pol_len]; simp only [List.length_cons, List.length_nil]; omega) | exact decide_eq_true (by show _ ≤ 16; omega) | exact decide_eq_true (And.intro rfl (by show _ ≤ 16; omega)) | exact decide_eq_true (And.intro rfl (by show _ ≤ 16; simp only [List.length_cons, List.length_nil]; omega)))); rw [Int.toNat_natCast, put_act _ hr]) | refine brP_t (by assumption) ?_ | refine brP_f (by assumption) ?_ | refine brP_t (decide_eq_true (by omega)) ?_ | refine brP_f (decide_eq_false (by omega)) ?_ | refine brP_t (nd_t (by omega)) ?_ | refine brP_f (nd_f (by omega)) ?_ | refine callK_p cF ?_ | refine callM_p cF rfl ?_ | refine callK_pf rfl cF ?_ | refine callK_pk rfl cF ?_ | refine callK_p c1 ?_ | refine callM_p c1 rfl ?_ | refine callK_pf rfl c1 ?_ | refine callK_pk rfl c1 ?_ | refine callK_p c2 ?_ | refine callM_p c2 rfl ?_ | refine callK_pf rfl c2 ?_ | refine callK_pk rfl c2 ?_ | refine callK_p c3 ?_ | refine callM_p c3 rfl ?_ | refine callK_pf rfl c3 ?_ | refine callK_pk rfl c3 ?_ | refine callK_p c4 ?_ | refine callM_p c4 rfl ?_ | refine callK_pf rfl c4 ?_ | refine callK_pk rfl c4 ?_ | ((conv in (opS _ _ _ _) => whnf); rw [Int.toNat_natCast, g2]) | ((conv in (opM _ _ _ _ _) => whnf); (conv in (opS _ _ _ _) => whnf); rw [Int.toNat_natCast, g2]) | refine wpfS_seq1 ?_ | refine wpfS_go ?_ | fail) <;> conv => whnf)
            rfl
          | false =>
            rw [h3] at c3 hd
            rw [oneQ_fin hf hd]
            repeat' ((first | (refine gd_mk ?_ ?_; (focus (first | exact decide_eq_true (by rw [pol_len]; omega) | exact decide_eq_true (And.intro rfl (by rw [pol_len]; simp only [List.length_cons, List.length_nil]; omega)) | exact decide_eq_true (And.intro rfl (by rw [pol_len]; omega)) | exact decide_eq_true (by rw [pol_len]; simp only [List.length_cons, List.length_nil]; omega) | exact decide_eq_true (by show _ ≤ 16; omega) | exact decide_eq_true (And.intro rfl (by show _ ≤ 16; omega)) | exact decide_eq_true (And.intro rfl (by show _ ≤ 16; simp only [List.length_cons, List.length_nil]; omega)))); rw [Int.toNat_natCast, put_act _ hr]) | refine brP_t (by assumption) ?_ | refine brP_f (by assumption) ?_ | refine brP_t (decide_eq_true (by omega)) ?_ | refine brP_f (decide_eq_false (by omega)) ?_ | refine brP_t (nd_t (by omega)) ?_ | refine brP_f (nd_f (by omega)) ?_ | refine callK_p cF ?_ | refine callM_p cF rfl ?_ | refine callK_pf rfl cF ?_ | refine callK_pk rfl cF ?_ | refine callK_p c1 ?_ | refine callM_p c1 rfl ?_ | refine callK_pf rfl c1 ?_ | refine callK_pk rfl c1 ?_ | refine callK_p c2 ?_ | refine callM_p c2 rfl ?_ | refine callK_pf rfl c2 ?_ | refine callK_pk rfl c2 ?_ | refine callK_p c3 ?_ | refine callM_p c3 rfl ?_ | refine callK_pf rfl c3 ?_ | refine callK_pk rfl c3 ?_ | refine callK_p c4 ?_ | refine callM_p c4 rfl ?_ | refine callK_pf rfl c4 ?_ | refine callK_pk rfl c4 ?_ | ((conv in (opS _ _ _ _) => whnf); rw [Int.toNat_natCast, g2]) | ((conv in (opM _ _ _ _ _) => whnf); (conv in (opS _ _ _ _) => whnf); rw [Int.toNat_natCast, g2]) | refine wpfS_seq1 ?_ | refine wpfS_go ?_ | fail) <;> conv => whnf)
            rfl
  · -- a link goes
    have hq : q < 16 := by have hb : (q : Int) ≤ 15 := hb; omega
    have hpq := pow16 (t := q) (by omega)
    have hd : doQ p ⟨4, r, q, s, i0⟩ = if hasN (p.acts r) q then (setAct p r (diffN (p.acts r) (2 ^ q)), 0) else (p, 6) := rfl
    have c3 := R01_Has_ok (p.acts r) q (hp.acts r hr)
    have c4 := R01_With_ok 0 q (by omega)
    rw [withN_nat hq, Nat.zero_or] at c4
    have c5 : EvP PR G f_R01_Less [uv (p.acts r), uv ((2 ^ q : Nat) : Int)] (uv ((lessN (p.acts r) (2 ^ q) : Nat) : Int)) := R01_Less_ok _ _ (hp.acts r hr) (by omega)
    rw [diff_less (hp.acts r hr) hq] at c5
    have g2 := pol_act p hr
    cases h3 : hasN (p.acts r) q with
    | true =>
      rw [h3] at c3 hd
      rw [oneQ_fin hf hd]
      repeat' ((first | (refine gd_mk ?_ ?_; (focus (first | exact decide_eq_true (by rw [pol_len]; omega) | exact decide_eq_true (And.intro rfl (by rw [pol_len]; simp only [List.length_cons, List.length_nil]; omega)) | exact decide_eq_true (And.intro rfl (by rw [pol_len]; omega)) | exact decide_eq_true (by rw [pol_len]; simp only [List.length_cons, List.length_nil]; omega) | exact decide_eq_true (by show _ ≤ 16; omega) | exact decide_eq_true (And.intro rfl (by show _ ≤ 16; omega)) | exact decide_eq_true (And.intro rfl (by show _ ≤ 16; simp only [List.length_cons, List.length_nil]; omega)))); rw [Int.toNat_natCast, put_act _ hr]) | refine brP_t (by assumption) ?_ | refine brP_f (by assumption) ?_ | refine brP_t (decide_eq_true (by omega)) ?_ | refine brP_f (decide_eq_false (by omega)) ?_ | refine brP_t (nd_t (by omega)) ?_ | refine brP_f (nd_f (by omega)) ?_ | refine callK_p cF ?_ | refine callM_p cF rfl ?_ | refine callK_pf rfl cF ?_ | refine callK_pk rfl cF ?_ | refine callK_p c1 ?_ | refine callM_p c1 rfl ?_ | refine callK_pf rfl c1 ?_ | refine callK_pk rfl c1 ?_ | refine callK_p c2 ?_ | refine callM_p c2 rfl ?_ | refine callK_pf rfl c2 ?_ | refine callK_pk rfl c2 ?_ | refine callK_p c3 ?_ | refine callM_p c3 rfl ?_ | refine callK_pf rfl c3 ?_ | refine callK_pk rfl c3 ?_ | refine callK_p c4 ?_ | refine callM_p c4 rfl ?_ | refine callK_pf rfl c4 ?_ | refine callK_pk rfl c4 ?_ | refine callK_p c5 ?_ | refine callM_p c5 rfl ?_ | refine callK_pf rfl c5 ?_ | refine callK_pk rfl c5 ?_ | ((conv in (opS _ _ _ _) => whnf); rw [Int.toNat_natCast, g2]) | ((conv in (opM _ _ _ _ _) => whnf); (conv in (opS _ _ _ _) => whnf); rw [Int.toNat_natCast, g2]) | refine wpfS_seq1 ?_ | refine wpfS_go ?_ | fail) <;> conv => whnf)
      rfl
    | false =>
      rw [h3] at c3 hd
      rw [oneQ_err hf hd (by decide)]
      repeat' ((first | (refine gd_mk ?_ ?_; (focus (first | exact decide_eq_true (by rw [pol_len]; omega) | exact decide_eq_true (And.intro rfl (by rw [pol_len]; simp only [List.length_cons, List.length_nil]; omega)) | exact decide_eq_true (And.intro rfl (by rw [pol_len]; omega)) | exact decide_eq_true (by rw [pol_len]; simp only [List.length_cons, List.length_nil]; omega) | exact decide_eq_true (by show _ ≤ 16; omega) | exact decide_eq_true (And.intro rfl (by show _ ≤ 16; omega)) | exact decide_eq_true (And.intro rfl (by show _ ≤ 16; simp only [List.length_cons, List.length_nil]; omega)))); rw [Int.toNat_natCast, put_act _ hr]) | refine brP_t (by assumption) ?_ | refine brP_f (by assumption) ?_ | refine brP_t (decide_eq_true (by omega)) ?_ | refine brP_f (decide_eq_false (by omega)) ?_ | refine brP_t (nd_t (by omega)) ?_ | refine brP_f (nd_f (by omega)) ?_ | refine callK_p cF ?_ | refine callM_p cF rfl ?_ | refine callK_pf rfl cF ?_ | refine callK_pk rfl cF ?_ | refine callK_p c1 ?_ | refine callM_p c1 rfl ?_ | refine callK_pf rfl c1 ?_ | refine callK_pk rfl c1 ?_ | refine callK_p c2 ?_ | refine callM_p c2 rfl ?_ | refine callK_pf rfl c2 ?_ | refine callK_pk rfl c2 ?_ | refine callK_p c3 ?_ | refine callM_p c3 rfl ?_ | refine callK_pf rfl c3 ?_ | refine callK_pk rfl c3 ?_ | refine callK_p c4 ?_ | refine callM_p c4 rfl ?_ | refine callK_pf rfl c4 ?_ | refine callK_pk rfl c4 ?_ | refine callK_p c5 ?_ | refine callM_p c5 rfl ?_ | refine callK_pf rfl c5 ?_ | refine callK_pk rfl c5 ?_ | ((conv in (opS _ _ _ _) => whnf); rw [Int.toNat_natCast, g2]) | ((conv in (opM _ _ _ _ _) => whnf); (conv in (opS _ _ _ _) => whnf); rw [Int.toNat_natCast, g2]) | refine wpfS_seq1 ?_ | refine wpfS_go ?_ | fail) <;> conv => whnf)
      rfl
  · -- an owner
    have cT := cT (.inl rfl) ha ⟨by omega, hb⟩
    have hb : (q : Int) ≤ 16 := hb
    have ht : tagQ p ⟨5, r, q, s, i0⟩ = oneQ p ⟨5, r, q, s, i0⟩ := by
      have hd : doQ p ⟨5, r, q, s, i0⟩ = if hasN p.active r && (decide ((q : Int) = 16) || hasN p.live q) then (setOwn p r q, 0) else (p, 6) := rfl
      have ht : tagQ p ⟨5, r, q, s, i0⟩ = if hasN p.active r then (if decide ((q : Int) < 16) && !hasN p.live q then (zeroP, 6) else (setOwn p r q, 0)) else (zeroP, 6) := rfl
      rw [ht]
      by_cases h16 : (q : Int) = 16
      · rw [decide_eq_true h16] at hd
        rw [decide_eq_false (show ¬ (q : Int) < 16 by omega)]
        cases h1 : hasN p.active r with
        | false => rw [h1] at hd; rw [oneQ_err hf hd (by decide)]; rfl
        | true => rw [h1] at hd; rw [oneQ_fin hf hd]; rfl
      · rw [decide_eq_false h16] at hd
        rw [decide_eq_true (show (q : Int) < 16 by omega)]
        cases h1 : hasN p.active r with
        | false => rw [h1] at hd; rw [oneQ_err hf hd (by decide)]; rfl
        | true =>
          rw [h1] at hd
          cases h2 : hasN p.live q with
          | false => rw [h2] at hd; rw [oneQ_err hf hd (by decide)]; rfl
          | true => rw [h2] at hd; rw [oneQ_fin hf hd]; rfl
    rw [ht] at cT
    generalize oneQ p ⟨5, r, q, s, i0⟩ = res at *
    repeat' ((first | refine brP_t (by assumption) ?_ | refine brP_f (by assumption) ?_ | refine brP_t (decide_eq_true (by omega)) ?_ | refine brP_f (decide_eq_false (by omega)) ?_ | refine brP_t (nd_t (by omega)) ?_ | refine brP_f (nd_f (by omega)) ?_ | refine callK_p cF ?_ | refine callM_p cF rfl ?_ | refine callK_pf rfl cF ?_ | refine callK_pk rfl cF ?_ | refine callK_p c1 ?_ | refine callM_p c1 rfl ?_ | refine callK_pf rfl c1 ?_ | refine callK_pk rfl c1 ?_ | refine callK_p c2 ?_ | refine callM_p c2 rfl ?_ | refine callK_pf rfl c2 ?_ | refine callK_pk rfl c2 ?_ | refine callK_p cT ?_ | refine callM_p cT rfl ?_ | refine callK_pf rfl cT ?_ | refine callK_pk rfl cT ?_ | refine wpfS_seq1 ?_ | refine wpfS_go ?_ | fail) <;> conv => whnf)
    rfl
  · -- a tag goes
    have hb : (q : Int) ≤ 15 := hb
    have cT := cT (.inr rfl) ha ⟨by omega, by omega⟩
    have ht : tagQ p ⟨6, r, q, s, i0⟩ = oneQ p ⟨6, r, q, s, i0⟩ := by
      have hd : doQ p ⟨6, r, q, s, i0⟩ = if hasN p.active r && hasN p.active q then (if mayB id r q then (mapP (moveN id r q) p, 0) else (p, 1)) else (p, 6) := rfl
      have ht : tagQ p ⟨6, r, q, s, i0⟩ = if hasN p.active r then (if hasN p.active q then (if mayB id r q then (mapP (moveN id r q) p, 0) else (zeroP, 1)) else (zeroP, 6)) else (zeroP, 6) := rfl
      rw [ht]
      cases h1 : hasN p.active r with
      | false => rw [h1] at hd; rw [oneQ_err hf hd (by decide)]; rfl
      | true =>
        rw [h1] at hd
        cases h2 : hasN p.active q with
        | false => rw [h2] at hd; rw [oneQ_err hf hd (by decide)]; rfl
        | true =>
          rw [h2] at hd
          cases h3 : mayB id r q with
          | false => rw [h3] at hd; rw [oneQ_err hf hd (by decide)]; rfl
          | true => rw [h3] at hd; rw [oneQ_fin hf hd]; rfl
    rw [ht] at cT
    generalize oneQ p ⟨6, r, q, s, i0⟩ = res at *
    repeat' ((first | refine brP_t (by assumption) ?_ | refine brP_f (by assumption) ?_ | refine brP_t (decide_eq_true (by omega)) ?_ | refine brP_f (decide_eq_false (by omega)) ?_ | refine brP_t (nd_t (by omega)) ?_ | refine brP_f (nd_f (by omega)) ?_ | refine callK_p cF ?_ | refine callM_p cF rfl ?_ | refine callK_pf rfl cF ?_ | refine callK_pk rfl cF ?_ | refine callK_p c1 ?_ | refine callM_p c1 rfl ?_ | refine callK_pf rfl c1 ?_ | refine callK_pk rfl c1 ?_ | refine callK_p c2 ?_ | refine callM_p c2 rfl ?_ | refine callK_pf rfl c2 ?_ | refine callK_pk rfl c2 ?_ | refine callK_p cT ?_ | refine callM_p cT rfl ?_ | refine callK_pf rfl cT ?_ | refine callK_pk rfl cT ?_ | refine wpfS_seq1 ?_ | refine wpfS_go ?_ | fail) <;> conv => whnf)
    rfl
end Go.Ab.S
