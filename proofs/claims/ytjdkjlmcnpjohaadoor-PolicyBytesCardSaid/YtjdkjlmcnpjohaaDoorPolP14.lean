/- Part of a proof; no condition. -/
import Derived.Test.YtjdkjlmcnpjohaaDoorPolP13
set_option linter.unusedSimpArgs false
set_option linter.unusedVariables false
namespace Go.Ab.S
open Go Go.Ab Go.Proofs
attribute [local irreducible] SemS
set_option maxRecDepth 100000
theorem chk_same {q : Pol × St} (h : ¬ (q.2.e = 0 ∧ fineP q.1 = false)) : chkRd q = q.2 := if_neg h
theorem chk_fail {q : Pol × St} (h1 : q.2.e = 0) (h2 : fineP q.1 = false) : chkRd q = q.2.fail 3 := if_pos ⟨h1, h2⟩
theorem policy_Read_ok (s : St) : EvR PR G f_policy_Read [.c (.ptr (.par 0) 0)] ⟨s.pr, []⟩ (polRd true s).1.v ⟨(polRd true s).2.pr, []⟩ := by
  have c0 := set_ok s
  have hR : rolesRd true s = (bitsN (s.nv 2 65535).toNat).foldl (recRd true) (setLive zeroP (s.nv 2 65535).toNat, s.num true 2 65535) := rfl
  have hn : (s.nv 2 65535).toNat < 65536 := nv16_lt
  generalize s.num true 2 65535 = s1 at *
  generalize (s.nv 2 65535).toNat = n at *
  have e3 := Each0_ok n
  refine EvR.of_wpfC false true hm c_policy_Read rfl rfl ?_
  refine wpf_seq1 ?_
  conv => whnf
  repeat' ((first | refine brP_t (by assumption) ?_ | refine brP_f (by assumption) ?_ | refine brP_t (decide_eq_true (by omega)) ?_ | refine brP_f (decide_eq_false (by omega)) ?_ | refine brP_t (nd_t (by omega)) ?_ | refine brP_f (nd_f (by omega)) ?_ | refine callK_r (EvR.fr [_, _] c0 rfl rfl ⟨rfl, rfl, trivial⟩ rfl) ?_ | refine callM_l (LEv.fr [_, _] c0 rfl rfl ⟨rfl, rfl, trivial⟩ rfl rfl) ?_ | refine callK_rt (EvR.fr [_, _] c0 rfl rfl ⟨rfl, rfl, trivial⟩ rfl) ?_ | refine callK_rf rfl (EvR.fr [_, _] c0 rfl rfl ⟨rfl, rfl, trivial⟩ rfl) ?_ | refine callK_rft rfl (EvR.fr [_, _] c0 rfl rfl ⟨rfl, rfl, trivial⟩ rfl) ?_ | refine callK_r (EvR.fr [] e3 rfl rfl trivial rfl) ?_ | refine callM_l (LEv.fr [] e3 rfl rfl trivial rfl rfl) ?_ | refine callK_rt (EvR.fr [] e3 rfl rfl trivial rfl) ?_ | refine callK_rf rfl (EvR.fr [] e3 rfl rfl trivial rfl) ?_ | refine callK_rft rfl (EvR.fr [] e3 rfl rfl trivial rfl) ?_ | refine wpfS_seq1 ?_ | refine wpfS_go ?_ | fail) <;> conv => whnf)
  have hpre : ∀ {pre : List Int} {x : Int}, pre ++ [x] <+: bitsL n → (∀ q ∈ pre.map Int.toNat, q < 16) ∧ ∃ q : Nat, x = q ∧ q < 16 := by
    intro pre x h
    refine ⟨fun q hq => ?_, ?_⟩
    · obtain ⟨y, hy, rfl⟩ := List.mem_map.1 hq
      obtain ⟨z, hz, rfl⟩ := List.mem_map.1 (h.subset (show y ∈ pre ++ [x] by simp [hy]))
      exact (mem_bitsN.1 hz).1
    · obtain ⟨z, hz, rfl⟩ := List.mem_map.1 (h.subset (show x ∈ pre ++ [x] by simp))
      exact ⟨z, rfl, (mem_bitsN.1 hz).1⟩
  refine SemS.rf false hm (s := n) (xs := bitsL n) rfl each_callable rfl (fun F w r' hG hF hc => each1 n hn F w r' hG hF hc)
    (fun pre H => H = ⟨((pre.map Int.toNat).foldl (recRd true) (setLive zeroP n, s1)).2.pr, [.mrow [.ptr (.par 0) 0], .row zeroP.row, .mrow [.fn f_policy_Read_1 [.loc 0]], .row ((pre.map Int.toNat).foldl (recRd true) (setLive zeroP n, s1)).1.row, .row [.int .u16 n]]⟩) (fun _ _ => False) rfl ?_ ?_ ?_
  · rintro pre x H1 hpx rfl
    obtain ⟨hp1, q, rfl, hq⟩ := hpre hpx
    have hfold : ((pre ++ [(q : Int)]).map Int.toNat).foldl (recRd true) (setLive zeroP n, s1) = recRd true ((pre.map Int.toNat).foldl (recRd true) (setLive zeroP n, s1)) q := by
      rw [List.map_append, List.foldl_append]; rfl
    rw [hfold]
    generalize (pre.map Int.toNat).foldl (recRd true) (setLive zeroP n, s1) = o at *
    obtain ⟨p, t⟩ := o
    unfold recRd
    dsimp only
    have d1 := set_ok t
    generalize (t.nv 2 65535).toNat = v1 at *
    generalize t.num true 2 65535 = t1 at *
    have d2 := set_ok t1
    generalize (t1.nv 2 65535).toNat = v2 at *
    generalize t1.num true 2 65535 = t2 at *
    have d3 := set_ok t2
    generalize (t2.nv 2 65535).toNat = v3 at *
    generalize t2.num true 2 65535 = t3 at *
    conv => whnf
    refine ⟨rfl, ?_⟩
    conv => whnf
    repeat' ((first | (refine gd_mk ?_ ?_; (focus (first | exact decide_eq_true (by rw [pol_len]; omega) | exact decide_eq_true (And.intro rfl (by rw [pol_len]; simp only [List.length_cons, List.length_nil]; omega)) | exact decide_eq_true (And.intro rfl (by rw [pol_len]; omega)) | exact decide_eq_true (by rw [pol_len]; simp only [List.length_cons, List.length_nil]; omega) | exact decide_eq_true (by show _ ≤ 16; omega) | exact decide_eq_true (And.intro rfl (by show _ ≤ 16; omega)) | exact decide_eq_true (And.intro rfl (by show _ ≤ 16; simp only [List.length_cons, List.length_nil]; omega)))); rw [Int.toNat_natCast, put_act _ hq]) | (refine gd_mk ?_ ?_; (focus (first | exact decide_eq_true (by rw [pol_len]; omega) | exact decide_eq_true (And.intro rfl (by rw [pol_len]; simp only [List.length_cons, List.length_nil]; omega)) | exact decide_eq_true (And.intro rfl (by rw [pol_len]; omega)) | exact decide_eq_true (by rw [pol_len]; simp only [List.length_cons, List.length_nil]; omega) | exact decide_eq_true (by show _ ≤ 16; omega) | exact decide_eq_true (And.intro rfl (by show _ ≤ 16; omega)) | exact decide_eq_true (And.intro rfl (by show _ ≤ 16; simp only [List.length_cons, List.length_nil]; omega)))); rw [Int.toNat_natCast, put_lab _ hq]) | refine brP_t (by assumption) ?_ | refine brP_f (by assumption) ?_ | refine brP_t (decide_eq_true (by omega)) ?_ | refine brP_f (decide_eq_false (by omega)) ?_ | refine brP_t (nd_t (by omega)) ?_ | refine brP_f (nd_f (by omega)) ?_ | refine callK_r (EvR.fr [_, _] d1 rfl rfl ⟨rfl, rfl, trivial⟩ rfl) ?_ | refine callM_l (LEv.fr [_, _] d1 rfl rfl ⟨rfl, rfl, trivial⟩ rfl rfl) ?_ | refine callK_rt (EvR.fr [_, _] d1 rfl rfl ⟨rfl, rfl, trivial⟩ rfl) ?_ | refine callK_rf rfl (EvR.fr [_, _] d1 rfl rfl ⟨rfl, rfl, trivial⟩ rfl) ?_ | refine callK_rft rfl (EvR.fr [_, _] d1 rfl rfl ⟨rfl, rfl, trivial⟩ rfl) ?_ | refine callK_r (EvR.fr [_, _] d2 rfl rfl ⟨rfl, rfl, trivial⟩ rfl) ?_ | refine callM_l (LEv.fr [_, _] d2 rfl rfl ⟨rfl, rfl, trivial⟩ rfl rfl) ?_ | refine callK_rt (EvR.fr [_, _] d2 rfl rfl ⟨rfl, rfl, trivial⟩ rfl) ?_ | refine callK_rf rfl (EvR.fr [_, _] d2 rfl rfl ⟨rfl, rfl, trivial⟩ rfl) ?_ | refine callK_rft rfl (EvR.fr [_, _] d2 rfl rfl ⟨rfl, rfl, trivial⟩ rfl) ?_ | refine callK_r (EvR.fr [_, _] d3 rfl rfl ⟨rfl, rfl, trivial⟩ rfl) ?_ | refine callM_l (LEv.fr [_, _] d3 rfl rfl ⟨rfl, rfl, trivial⟩ rfl rfl) ?_ | refine callK_rt (EvR.fr [_, _] d3 rfl rfl ⟨rfl, rfl, trivial⟩ rfl) ?_ | refine callK_rf rfl (EvR.fr [_, _] d3 rfl rfl ⟨rfl, rfl, trivial⟩ rfl) ?_ | refine callK_rft rfl (EvR.fr [_, _] d3 rfl rfl ⟨rfl, rfl, trivial⟩ rfl) ?_ | refine wpfS_seq1 ?_ | refine wpfS_go ?_ | fail) <;> conv => whnf)
    rfl
  · rintro H1 rfl
    have hmap : (bitsL n).map Int.toNat = bitsN n := by
      unfold bitsL
      rw [List.map_map]
      conv => rhs; rw [← List.map_id (bitsN n)]
      rfl
    rw [hmap, ← hR]
    have hT : tagsRd true s = (List.range 16).foldl (ownRd true) (setActive (rolesRd true s).1 ((rolesRd true s).2.nv 2 65535).toNat, (rolesRd true s).2.num true 2 65535) := rfl
    have htok := tagsRd_ok (keep := true) (s := s)
    unfold polRd
    generalize tagsRd true s = Q at *
    clear hR
    generalize rolesRd true s = q at *
    obtain ⟨p, t⟩ := q
    dsimp only at *
    have d1 := set_ok t
    generalize (t.nv 2 65535).toNat = va at *
    generalize t.num true 2 65535 = t1 at *
    conv => whnf
    repeat' ((first | refine brP_t (by assumption) ?_ | refine brP_f (by assumption) ?_ | refine brP_t (decide_eq_true (by omega)) ?_ | refine brP_f (decide_eq_false (by omega)) ?_ | refine brP_t (nd_t (by omega)) ?_ | refine brP_f (nd_f (by omega)) ?_ | refine callK_r (EvR.fr [_, _] d1 rfl rfl ⟨rfl, rfl, trivial⟩ rfl) ?_ | refine callM_l (LEv.fr [_, _] d1 rfl rfl ⟨rfl, rfl, trivial⟩ rfl rfl) ?_ | refine callK_rt (EvR.fr [_, _] d1 rfl rfl ⟨rfl, rfl, trivial⟩ rfl) ?_ | refine callK_rf rfl (EvR.fr [_, _] d1 rfl rfl ⟨rfl, rfl, trivial⟩ rfl) ?_ | refine callK_rft rfl (EvR.fr [_, _] d1 rfl rfl ⟨rfl, rfl, trivial⟩ rfl) ?_ | refine wpfS_seq1 ?_ | refine wpfS_go ?_ | fail) <;> conv => whnf)
    refine SemS.loopF false hm (σ := Nat) (fun j => [(1, .c (.ptr (.loc 0) 0)), (2, .c (.ptr (.loc 1) 0)), (4, .c (.ptr (.loc 3) 0)), (31, iv j)]) (fun j => ⟨((List.range j).foldl (ownRd true) (setActive p va, t1)).2.pr, [.mrow [.ptr (.par 0) 0], .row zeroP.row, .mrow [.fn f_policy_Read_1 [.loc 0]], .row ((List.range j).foldl (ownRd true) (setActive p va, t1)).1.row, .row [.int .u16 n]]⟩) (fun j => 16 - j) (fun j => j ≤ 16) 0 (Nat.zero_le _) ⟨rfl, rfl, rfl, rfl, trivial⟩ rfl ?_
    intro j hj
    have hst : (List.range (j + 1)).foldl (ownRd true) (setActive p va, t1) = ownRd true ((List.range j).foldl (ownRd true) (setActive p va, t1)) j := by rw [List.range_succ, List.foldl_append]; rfl
    generalize hqe : (List.range j).foldl (ownRd true) (setActive p va, t1) = o at *
    obtain ⟨p', t'⟩ := o
    refine wpf_seq1 ?_
    conv => whnf
    try (refine wpfS_seq1 ?_; conv => whnf)
    refine brP_mk (fun h => ?_) (fun h => ?_)
    · have hj' : j < 16 := by have := of_decide_eq_true h; omega
      clear h
      have hw2 : IntKind.i64.wrap ((j : Int) + 1) = ((j + 1 : Nat) : Int) := by rw [wrap64 (by omega)]; rfl
      have d2 := pr_num t' 1 16 (by omega)
      have hw := nv_u8 (s := t') (size := 1) (most := 16) ⟨by omega, by omega⟩
      have hst : (List.range (j + 1)).foldl (ownRd true) (setActive p va, t1) = (setOwn p' j (t'.nv 1 16).toNat, t'.num true 1 16) := hst
      generalize hv : t'.nv 1 16 = v at *
      generalize v.toNat = vn at *
      generalize t'.num true 1 16 = t2 at *
      repeat' ((first | (refine gd_mk ?_ ?_; (focus (first | exact decide_eq_true (by rw [pol_len]; omega) | exact decide_eq_true (And.intro rfl (by rw [pol_len]; simp only [List.length_cons, List.length_nil]; omega)) | exact decide_eq_true (And.intro rfl (by rw [pol_len]; omega)) | exact decide_eq_true (by rw [pol_len]; simp only [List.length_cons, List.length_nil]; omega) | exact decide_eq_true (by show _ ≤ 16; omega) | exact decide_eq_true (And.intro rfl (by show _ ≤ 16; omega)) | exact decide_eq_true (And.intro rfl (by show _ ≤ 16; simp only [List.length_cons, List.length_nil]; omega)))); rw [Int.toNat_natCast, put_own _ hj']) | refine brP_t (by assumption) ?_ | refine brP_f (by assumption) ?_ | refine brP_t (decide_eq_true (by omega)) ?_ | refine brP_f (decide_eq_false (by omega)) ?_ | refine brP_t (nd_t (by omega)) ?_ | refine brP_f (nd_f (by omega)) ?_ | refine callK_r (EvR.fr [_] d2 rfl rfl ⟨rfl, trivial⟩ rfl) ?_ | refine callM_l (LEv.fr [_] d2 rfl rfl ⟨rfl, trivial⟩ rfl rfl) ?_ | refine callK_rt (EvR.fr [_] d2 rfl rfl ⟨rfl, trivial⟩ rfl) ?_ | refine callK_rf rfl (EvR.fr [_] d2 rfl rfl ⟨rfl, trivial⟩ rfl) ?_ | refine callK_rft rfl (EvR.fr [_] d2 rfl rfl ⟨rfl, trivial⟩ rfl) ?_ | ((rw [hw])) | refine wpfS_seq1 ?_ | refine wpfS_go ?_ | fail) <;> conv => whnf)
      rw [hw2]
      refine ⟨j + 1, hj', (show 16 - (j + 1) < 16 - j by omega), ⟨rfl, rfl, rfl, rfl, trivial⟩, ?_⟩
      show (⟨t2.pr, [.mrow [.ptr (.par 0) 0], .row zeroP.row, .mrow [.fn f_policy_Read_1 [.loc 0]], .row (setOwn p' j vn).row, .row [.int .u16 n]]⟩ : Hp) = ⟨((List.range (j + 1)).foldl (ownRd true) (setActive p va, t1)).2.pr, [.mrow [.ptr (.par 0) 0], .row zeroP.row, .mrow [.fn f_policy_Read_1 [.loc 0]], .row ((List.range (j + 1)).foldl (ownRd true) (setActive p va, t1)).1.row, .row [.int .u16 n]]⟩
      rw [hst]
    · have hj' : j = 16 := by have := of_decide_eq_false h; omega
      subst hj'
      have hQ : Q = (p', t') := hT.trans hqe
      subst hQ
      clear h hst hT hqe
      have d2 := pr_err t'
      have d3 := policy_Fine_ok p' htok
      have d4 := pr_fail t' 3
      have d5 := pr_err (t'.fail 3)
      conv => whnf
      by_cases he : t'.e = 0
      · cases hf : fineP p' with
        | true =>
          rw [hf] at d3
          rw [chk_same (q := (p', t')) (fun h => by rw [hf] at h; cases h.2), if_pos he]
          repeat' ((first | refine brP_t (by assumption) ?_ | refine brP_f (by assumption) ?_ | refine brP_t (decide_eq_true (by omega)) ?_ | refine brP_f (decide_eq_false (by omega)) ?_ | refine brP_t (nd_t (by omega)) ?_ | refine brP_f (nd_f (by omega)) ?_ | refine callK_r (EvR.fr [_] d2 rfl rfl ⟨rfl, trivial⟩ rfl) ?_ | refine callM_l (LEv.fr [_] d2 rfl rfl ⟨rfl, trivial⟩ rfl rfl) ?_ | refine callK_rt (EvR.fr [_] d2 rfl rfl ⟨rfl, trivial⟩ rfl) ?_ | refine callK_rf rfl (EvR.fr [_] d2 rfl rfl ⟨rfl, trivial⟩ rfl) ?_ | refine callK_rft rfl (EvR.fr [_] d2 rfl rfl ⟨rfl, trivial⟩ rfl) ?_ | refine callK_p d3 ?_ | refine callM_p d3 rfl ?_ | refine callK_pf rfl d3 ?_ | refine wpfS_seq1 ?_ | refine wpfS_go ?_ | fail) <;> conv => whnf)
          exact ⟨rfl, rfl⟩
        | false =>
          rw [hf] at d3
          have h3 : (t'.fail 3).e = 3 := by show firstE t'.e 3 = 3; unfold firstE; rw [if_pos he]
          rw [chk_fail (q := (p', t')) he hf, if_neg (by rw [h3]; omega)]
          rw [h3] at d5
          repeat' ((first | refine brP_t (by assumption) ?_ | refine brP_f (by assumption) ?_ | refine brP_t (decide_eq_true (by omega)) ?_ | refine brP_f (decide_eq_false (by omega)) ?_ | refine brP_t (nd_t (by omega)) ?_ | refine brP_f (nd_f (by omega)) ?_ | refine callK_r (EvR.fr [_] d2 rfl rfl ⟨rfl, trivial⟩ rfl) ?_ | refine callM_l (LEv.fr [_] d2 rfl rfl ⟨rfl, trivial⟩ rfl rfl) ?_ | refine callK_rt (EvR.fr [_] d2 rfl rfl ⟨rfl, trivial⟩ rfl) ?_ | refine callK_rf rfl (EvR.fr [_] d2 rfl rfl ⟨rfl, trivial⟩ rfl) ?_ | refine callK_rft rfl (EvR.fr [_] d2 rfl rfl ⟨rfl, trivial⟩ rfl) ?_ | refine callK_p d3 ?_ | refine callM_p d3 rfl ?_ | refine callK_pf rfl d3 ?_ | refine callK_r (EvR.fr [_] d4 rfl rfl ⟨rfl, trivial⟩ rfl) ?_ | refine callM_l (LEv.fr [_] d4 rfl rfl ⟨rfl, trivial⟩ rfl rfl) ?_ | refine callK_rt (EvR.fr [_] d4 rfl rfl ⟨rfl, trivial⟩ rfl) ?_ | refine callK_rf rfl (EvR.fr [_] d4 rfl rfl ⟨rfl, trivial⟩ rfl) ?_ | refine callK_rft rfl (EvR.fr [_] d4 rfl rfl ⟨rfl, trivial⟩ rfl) ?_ | refine callK_r (EvR.fr [_] d5 rfl rfl ⟨rfl, trivial⟩ rfl) ?_ | refine callM_l (LEv.fr [_] d5 rfl rfl ⟨rfl, trivial⟩ rfl rfl) ?_ | refine callK_rt (EvR.fr [_] d5 rfl rfl ⟨rfl, trivial⟩ rfl) ?_ | refine callK_rf rfl (EvR.fr [_] d5 rfl rfl ⟨rfl, trivial⟩ rfl) ?_ | refine callK_rft rfl (EvR.fr [_] d5 rfl rfl ⟨rfl, trivial⟩ rfl) ?_ | refine wpfS_seq1 ?_ | refine wpfS_go ?_ | fail) <;> conv => whnf)
          exact ⟨rfl, rfl⟩
      · rw [chk_same (q := (p', t')) (fun h => he h.1), if_neg he]
        repeat' ((first | refine brP_t (by assumption) ?_ | refine brP_f (by assumption) ?_ | refine brP_t (decide_eq_true (by omega)) ?_ | refine brP_f (decide_eq_false (by omega)) ?_ | refine brP_t (nd_t (by omega)) ?_ | refine brP_f (nd_f (by omega)) ?_ | refine callK_r (EvR.fr [_] d2 rfl rfl ⟨rfl, trivial⟩ rfl) ?_ | refine callM_l (LEv.fr [_] d2 rfl rfl ⟨rfl, trivial⟩ rfl rfl) ?_ | refine callK_rt (EvR.fr [_] d2 rfl rfl ⟨rfl, trivial⟩ rfl) ?_ | refine callK_rf rfl (EvR.fr [_] d2 rfl rfl ⟨rfl, trivial⟩ rfl) ?_ | refine callK_rft rfl (EvR.fr [_] d2 rfl rfl ⟨rfl, trivial⟩ rfl) ?_ | refine wpfS_seq1 ?_ | refine wpfS_go ?_ | fail) <;> conv => whnf)
        exact ⟨rfl, rfl⟩
  · intro e H1 _ h
    exact h.elim
end Go.Ab.S
