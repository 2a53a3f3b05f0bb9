/- Part of a proof; no condition. -/
import Derived.Test.YtjdkjlmcnpjohaaDoorPolP14
set_option linter.unusedSimpArgs false
set_option linter.unusedVariables false
namespace Go.Ab.S
open Go Go.Ab Go.Proofs
attribute [local irreducible] SemS
set_option maxRecDepth 100000
/-- The roles below i are read. -/
def rolesTo (keep : Bool) (n i : Nat) (q : Pol × St) : Pol × St := ((List.range i).filter fun r => n.testBit r).foldl (recRd keep) q
theorem rolesTo_yes {keep : Bool} {n i : Nat} {q : Pol × St} (h : n.testBit i = true) : rolesTo keep n (i + 1) q = recRd keep (rolesTo keep n i q) i := by
  unfold rolesTo; rw [List.range_succ, List.filter_append, List.foldl_append]; simp [h]
theorem rolesTo_no {keep : Bool} {n i : Nat} {q : Pol × St} (h : n.testBit i = false) : rolesTo keep n (i + 1) q = rolesTo keep n i q := by
  unfold rolesTo; rw [List.range_succ, List.filter_append, List.foldl_append]; simp [h]
theorem rolesTo_live {keep : Bool} {n i : Nat} {q : Pol × St} : (rolesTo keep n i q).1.live = q.1.live := rolesRd_live _ _
set_option maxHeartbeats 1000000 in
theorem R12_Read_ok (B : List UInt8) (hB : B.length < 2 ^ 40) (s : St) (hs : Suf B s.b) : EvR PR G f_R12_Read [.c (.ptr (.par 0) 0)] ⟨s.px B, []⟩ (polRd false s).1.v ⟨(polRd false s).2.px B, []⟩ := by
  have c0 := px_num hs (by omega) 2 65535
  have hu := nv_u16 (s := s) (size := 2)
  have hs1 := hs.num false 2 65535
  have hR : rolesRd false s = rolesTo false (s.nv 2 65535).toNat 16 (setLive zeroP (s.nv 2 65535).toNat, s.num false 2 65535) := rfl
  have hn : (s.nv 2 65535).toNat < 65536 := nv16_lt
  have hok := rolesRd_ok (keep := false) (s := s)
  have hT : tagsRd false s = (List.range 16).foldl (ownRd false) (setActive (rolesRd false s).1 ((rolesRd false s).2.nv 2 65535).toNat, (rolesRd false s).2.num false 2 65535) := rfl
  have htok := tagsRd_ok (keep := false) (s := s)
  have hrs : Suf B (rolesRd false s).2.b := recF_suf _ hs1
  unfold polRd
  generalize tagsRd false s = Q at *
  generalize rolesRd false s = R at *
  generalize s.num false 2 65535 = s1 at *
  generalize hv : (s.nv 2 65535).toNat = n at *
  generalize s.nv 2 65535 = v at *
  refine EvR.of_wpfC false true hm c_R12_Read rfl rfl ?_
  refine wpf_seq1 ?_
  conv => whnf
  repeat' ((first | refine brP_t (by assumption) ?_ | refine brP_f (by assumption) ?_ | refine brP_t (decide_eq_true (by omega)) ?_ | refine brP_f (decide_eq_false (by omega)) ?_ | refine brP_t (nd_t (by omega)) ?_ | refine brP_f (nd_f (by omega)) ?_ | refine callK_r (EvR.fr [_] c0 rfl rfl ⟨rfl, trivial⟩ rfl) ?_ | refine callM_l (LEv.fr [_] c0 rfl rfl ⟨rfl, trivial⟩ rfl rfl) ?_ | refine callK_rt (EvR.fr [_] c0 rfl rfl ⟨rfl, trivial⟩ rfl) ?_ | refine callK_rf rfl (EvR.fr [_] c0 rfl rfl ⟨rfl, trivial⟩ rfl) ?_ | refine callK_rft rfl (EvR.fr [_] c0 rfl rfl ⟨rfl, trivial⟩ rfl) ?_ | ((rw [hu])) | refine wpfS_seq1 ?_ | refine wpfS_go ?_ | fail) <;> conv => whnf)
  refine SemS.loopF false hm (σ := Nat) (fun i => [(0, .c (.ptr (.par 0) 0)), (2, .c (.ptr (.loc 0) 0)), (3, .c (.ptr (.loc 1) 0)), (4, iv i)]) (fun i => ⟨(rolesTo false n i (setLive zeroP n, s1)).2.px B, [.row zeroP.row, .row (rolesTo false n i (setLive zeroP n, s1)).1.row]⟩) (fun i => 16 - i) (fun i => i ≤ 16 ∧ Suf B (rolesTo false n i (setLive zeroP n, s1)).2.b) 0 ⟨Nat.zero_le _, hs1⟩ ⟨rfl, rfl, rfl, rfl, trivial⟩ rfl ?_
  rintro i ⟨hi, hsu⟩
  have hy := rolesTo_yes (keep := false) (n := n) (i := i) (q := (setLive zeroP n, s1))
  have hno := rolesTo_no (keep := false) (n := n) (i := i) (q := (setLive zeroP n, s1))
  have hlv : (rolesTo false n i (setLive zeroP n, s1)).1.live = n := rolesTo_live
  generalize hqe : rolesTo false n i (setLive zeroP n, s1) = o at *
  obtain ⟨p, t⟩ := o
  dsimp only at hlv hsu
  refine wpf_seq1 ?_
  conv => whnf
  try (refine wpfS_seq1 ?_; conv => whnf)
  refine brP_mk (fun h => ?_) (fun h => ?_)
  · have hi' : i < 16 := by have := of_decide_eq_true h; omega
    clear h
    have hw2 : IntKind.i64.wrap ((i : Int) + 1) = ((i + 1 : Nat) : Int) := by rw [wrap64 (by omega)]; rfl
    have e0 := R01_Has_ok p.live i (by rw [hlv]; exact hn)
    rw [hasN_nat hi'] at e0
    cases h1 : n.testBit i with
    | false =>
      rw [show p.live.testBit i = false by rw [hlv]; exact h1] at e0
      have hno := hno h1
      repeat' ((first | refine brP_t (by assumption) ?_ | refine brP_f (by assumption) ?_ | refine brP_t (decide_eq_true (by omega)) ?_ | refine brP_f (decide_eq_false (by omega)) ?_ | refine brP_t (nd_t (by omega)) ?_ | refine brP_f (nd_f (by omega)) ?_ | refine callK_p e0 ?_ | refine callM_p e0 rfl ?_ | refine callK_pf rfl e0 ?_ | refine wpfS_seq1 ?_ | refine wpfS_go ?_ | fail) <;> conv => whnf)
      rw [hw2]
      refine ⟨i + 1, ⟨hi', by rw [hno]; exact hsu⟩, (show 16 - (i + 1) < 16 - i by omega), ⟨rfl, rfl, rfl, rfl, trivial⟩, ?_⟩
      exact congrArg (fun q : Pol × St => (⟨q.2.px B, [.row zeroP.row, .row q.1.row]⟩ : Hp)) hno.symm
    | true =>
      rw [show p.live.testBit i = true by rw [hlv]; exact h1] at e0
      have hy := hy h1
      unfold recRd at hy
      dsimp only at hy
      have d1 := px_num hsu (by omega) 2 65535
      have u1 := nv_u16 (s := t) (size := 2)
      have f1 := hsu.num false 2 65535
      generalize t.num false 2 65535 = t1 at *
      have d2 := px_num f1 (by omega) 2 65535
      have u2 := nv_u16 (s := t1) (size := 2)
      have f2 := f1.num false 2 65535
      generalize t1.num false 2 65535 = t2 at *
      have d3 := px_num f2 (by omega) 2 65535
      have u3 := nv_u16 (s := t2) (size := 2)
      have f3 := f2.num false 2 65535
      generalize t2.num false 2 65535 = t3 at *
      generalize hv1 : (t.nv 2 65535).toNat = v1 at *
      generalize hv2 : (t1.nv 2 65535).toNat = v2 at *
      generalize hv3 : (t2.nv 2 65535).toNat = v3 at *
      generalize t.nv 2 65535 = w1 at *
      generalize t1.nv 2 65535 = w2 at *
      generalize t2.nv 2 65535 = w3 at *
      repeat' ((first | (refine gd_mk ?_ ?_; (focus (first | exact decide_eq_true (by rw [pol_len]; omega) | exact decide_eq_true (And.intro rfl (by rw [pol_len]; simp only [List.length_cons, List.length_nil]; omega)) | exact decide_eq_true (And.intro rfl (by rw [pol_len]; omega)) | exact decide_eq_true (by rw [pol_len]; simp only [List.length_cons, List.length_nil]; omega) | exact decide_eq_true (by show _ ≤ 16; omega) | exact decide_eq_true (And.intro rfl (by show _ ≤ 16; omega)) | exact decide_eq_true (And.intro rfl (by show _ ≤ 16; simp only [List.length_cons, List.length_nil]; omega)))); rw [Int.toNat_natCast, put_act _ hi']) | (refine gd_mk ?_ ?_; (focus (first | exact decide_eq_true (by rw [pol_len]; omega) | exact decide_eq_true (And.intro rfl (by rw [pol_len]; simp only [List.length_cons, List.length_nil]; omega)) | exact decide_eq_true (And.intro rfl (by rw [pol_len]; omega)) | exact decide_eq_true (by rw [pol_len]; simp only [List.length_cons, List.length_nil]; omega) | exact decide_eq_true (by show _ ≤ 16; omega) | exact decide_eq_true (And.intro rfl (by show _ ≤ 16; omega)) | exact decide_eq_true (And.intro rfl (by show _ ≤ 16; simp only [List.length_cons, List.length_nil]; omega)))); rw [Int.toNat_natCast, put_li _ hi']) | (refine gd_mk ?_ ?_; (focus (first | exact decide_eq_true (by rw [pol_len]; omega) | exact decide_eq_true (And.intro rfl (by rw [pol_len]; simp only [List.length_cons, List.length_nil]; omega)) | exact decide_eq_true (And.intro rfl (by rw [pol_len]; omega)) | exact decide_eq_true (by rw [pol_len]; simp only [List.length_cons, List.length_nil]; omega) | exact decide_eq_true (by show _ ≤ 16; omega) | exact decide_eq_true (And.intro rfl (by show _ ≤ 16; omega)) | exact decide_eq_true (And.intro rfl (by show _ ≤ 16; simp only [List.length_cons, List.length_nil]; omega)))); rw [Int.toNat_natCast, put_ls _ hi']) | refine brP_t (by assumption) ?_ | refine brP_f (by assumption) ?_ | refine brP_t (decide_eq_true (by omega)) ?_ | refine brP_f (decide_eq_false (by omega)) ?_ | refine brP_t (nd_t (by omega)) ?_ | refine brP_f (nd_f (by omega)) ?_ | refine callK_p e0 ?_ | refine callM_p e0 rfl ?_ | refine callK_pf rfl e0 ?_ | refine callK_r (EvR.fr [_] d1 rfl rfl ⟨rfl, trivial⟩ rfl) ?_ | refine callM_l (LEv.fr [_] d1 rfl rfl ⟨rfl, trivial⟩ rfl rfl) ?_ | refine callK_rt (EvR.fr [_] d1 rfl rfl ⟨rfl, trivial⟩ rfl) ?_ | refine callK_rf rfl (EvR.fr [_] d1 rfl rfl ⟨rfl, trivial⟩ rfl) ?_ | refine callK_rft rfl (EvR.fr [_] d1 rfl rfl ⟨rfl, trivial⟩ rfl) ?_ | refine callK_r (EvR.fr [_] d2 rfl rfl ⟨rfl, trivial⟩ rfl) ?_ | refine callM_l (LEv.fr [_] d2 rfl rfl ⟨rfl, trivial⟩ rfl rfl) ?_ | refine callK_rt (EvR.fr [_] d2 rfl rfl ⟨rfl, trivial⟩ rfl) ?_ | refine callK_rf rfl (EvR.fr [_] d2 rfl rfl ⟨rfl, trivial⟩ rfl) ?_ | refine callK_rft rfl (EvR.fr [_] d2 rfl rfl ⟨rfl, trivial⟩ rfl) ?_ | refine callK_r (EvR.fr [_] d3 rfl rfl ⟨rfl, trivial⟩ rfl) ?_ | refine callM_l (LEv.fr [_] d3 rfl rfl ⟨rfl, trivial⟩ rfl rfl) ?_ | refine callK_rt (EvR.fr [_] d3 rfl rfl ⟨rfl, trivial⟩ rfl) ?_ | refine callK_rf rfl (EvR.fr [_] d3 rfl rfl ⟨rfl, trivial⟩ rfl) ?_ | refine callK_rft rfl (EvR.fr [_] d3 rfl rfl ⟨rfl, trivial⟩ rfl) ?_ | ((rw [u1])) | ((rw [u2])) | ((rw [u3])) | refine wpfS_seq1 ?_ | refine wpfS_go ?_ | fail) <;> conv => whnf)
      rw [hw2]
      refine ⟨i + 1, ⟨hi', by rw [hy]; exact f3⟩, (show 16 - (i + 1) < 16 - i by omega), ⟨rfl, rfl, rfl, rfl, trivial⟩, ?_⟩
      exact congrArg (fun q : Pol × St => (⟨q.2.px B, [.row zeroP.row, .row q.1.row]⟩ : Hp)) hy.symm
  · have hi' : i = 16 := by have := of_decide_eq_false h; omega
    subst hi'
    have hRo : R = (p, t) := hR.trans hqe
    subst hRo
    clear h hy hno hR hqe
    dsimp only at hok hrs hT
    have d1 := px_num hrs (by omega) 2 65535
    have u1 := nv_u16 (s := t) (size := 2)
    have f1 := hrs.num false 2 65535
    generalize t.num false 2 65535 = t1 at *
    generalize hv1 : (t.nv 2 65535).toNat = va at *
    generalize t.nv 2 65535 = w1 at *
    conv => whnf
    repeat' ((first | refine brP_t (by assumption) ?_ | refine brP_f (by assumption) ?_ | refine brP_t (decide_eq_true (by omega)) ?_ | refine brP_f (decide_eq_false (by omega)) ?_ | refine brP_t (nd_t (by omega)) ?_ | refine brP_f (nd_f (by omega)) ?_ | refine callK_r (EvR.fr [_] d1 rfl rfl ⟨rfl, trivial⟩ rfl) ?_ | refine callM_l (LEv.fr [_] d1 rfl rfl ⟨rfl, trivial⟩ rfl rfl) ?_ | refine callK_rt (EvR.fr [_] d1 rfl rfl ⟨rfl, trivial⟩ rfl) ?_ | refine callK_rf rfl (EvR.fr [_] d1 rfl rfl ⟨rfl, trivial⟩ rfl) ?_ | refine callK_rft rfl (EvR.fr [_] d1 rfl rfl ⟨rfl, trivial⟩ rfl) ?_ | ((rw [u1])) | refine wpfS_seq1 ?_ | refine wpfS_go ?_ | fail) <;> conv => whnf)
    refine SemS.loopF false hm (σ := Nat) (fun j => [(0, .c (.ptr (.par 0) 0)), (2, .c (.ptr (.loc 0) 0)), (3, .c (.ptr (.loc 1) 0)), (5, iv j)]) (fun j => ⟨((List.range j).foldl (ownRd false) (setActive p va, t1)).2.px B, [.row zeroP.row, .row ((List.range j).foldl (ownRd false) (setActive p va, t1)).1.row]⟩) (fun j => 16 - j) (fun j => j ≤ 16 ∧ Suf B ((List.range j).foldl (ownRd false) (setActive p va, t1)).2.b) 0 ⟨Nat.zero_le _, f1⟩ ⟨rfl, rfl, rfl, rfl, trivial⟩ rfl ?_
    rintro j ⟨hj, hsu⟩
    have hst : (List.range (j + 1)).foldl (ownRd false) (setActive p va, t1) = ownRd false ((List.range j).foldl (ownRd false) (setActive p va, t1)) j := by rw [List.range_succ, List.foldl_append]; rfl
    generalize hqe : (List.range j).foldl (ownRd false) (setActive p va, t1) = o at *
    obtain ⟨p', t'⟩ := o
    dsimp only at hsu
    refine wpf_seq1 ?_
    conv => whnf
    try (refine wpfS_seq1 ?_; conv => whnf)
    refine brP_mk (fun h => ?_) (fun h => ?_)
    · have hj' : j < 16 := by have := of_decide_eq_true h; omega
      clear h
      have hw2 : IntKind.i64.wrap ((j : Int) + 1) = ((j + 1 : Nat) : Int) := by rw [wrap64 (by omega)]; rfl
      have d2 := px_num hsu (by omega) 1 16
      have hw := nv_u8 (s := t') (size := 1) (most := 16) ⟨by omega, by omega⟩
      have f2 := hsu.num false 1 16
      have hst : (List.range (j + 1)).foldl (ownRd false) (setActive p va, t1) = (setOwn p' j (t'.nv 1 16).toNat, t'.num false 1 16) := hst
      generalize hvn : (t'.nv 1 16).toNat = vn at *
      generalize t'.nv 1 16 = wv at *
      generalize t'.num false 1 16 = t2 at *
      repeat' ((first | (refine gd_mk ?_ ?_; (focus (first | exact decide_eq_true (by rw [pol_len]; omega) | exact decide_eq_true (And.intro rfl (by rw [pol_len]; simp only [List.length_cons, List.length_nil]; omega)) | exact decide_eq_true (And.intro rfl (by rw [pol_len]; omega)) | exact decide_eq_true (by rw [pol_len]; simp only [List.length_cons, List.length_nil]; omega) | exact decide_eq_true (by show _ ≤ 16; omega) | exact decide_eq_true (And.intro rfl (by show _ ≤ 16; omega)) | exact decide_eq_true (And.intro rfl (by show _ ≤ 16; simp only [List.length_cons, List.length_nil]; omega)))); rw [Int.toNat_natCast, put_own _ hj']) | refine brP_t (by assumption) ?_ | refine brP_f (by assumption) ?_ | refine brP_t (decide_eq_true (by omega)) ?_ | refine brP_f (decide_eq_false (by omega)) ?_ | refine brP_t (nd_t (by omega)) ?_ | refine brP_f (nd_f (by omega)) ?_ | refine callK_r (EvR.fr [_] d2 rfl rfl ⟨rfl, trivial⟩ rfl) ?_ | refine callM_l (LEv.fr [_] d2 rfl rfl ⟨rfl, trivial⟩ rfl rfl) ?_ | refine callK_rt (EvR.fr [_] d2 rfl rfl ⟨rfl, trivial⟩ rfl) ?_ | refine callK_rf rfl (EvR.fr [_] d2 rfl rfl ⟨rfl, trivial⟩ rfl) ?_ | refine callK_rft rfl (EvR.fr [_] d2 rfl rfl ⟨rfl, trivial⟩ rfl) ?_ | ((rw [hw])) | refine wpfS_seq1 ?_ | refine wpfS_go ?_ | fail) <;> conv => whnf)
      rw [hw2]
      refine ⟨j + 1, ⟨hj', by rw [hst]; exact f2⟩, (show 16 - (j + 1) < 16 - j by omega), ⟨rfl, rfl, rfl, rfl, trivial⟩, ?_⟩
      exact congrArg (fun q : Pol × St => (⟨q.2.px B, [.row zeroP.row, .row q.1.row]⟩ : Hp)) hst.symm
    · have hj' : j = 16 := by have := of_decide_eq_false h; omega
      subst hj'
      have hQ : Q = (p', t') := hT.trans hqe
      subst hQ
      clear h hst hT hqe
      dsimp only at htok
      have d3 := R12_Fine_ok p' htok
      obtain ⟨e, b⟩ := t'
      conv => whnf
      by_cases he : e = 0
      · subst he
        cases hf : fineP p' with
        | true =>
          rw [hf] at d3
          rw [chk_same (q := (p', ⟨0, b⟩)) (fun h => by rw [hf] at h; cases h.2), if_pos rfl]
          repeat' ((first | refine brP_t (by assumption) ?_ | refine brP_f (by assumption) ?_ | refine brP_t (decide_eq_true (by omega)) ?_ | refine brP_f (decide_eq_false (by omega)) ?_ | refine brP_t (nd_t (by omega)) ?_ | refine brP_f (nd_f (by omega)) ?_ | refine callK_p d3 ?_ | refine callM_p d3 rfl ?_ | refine callK_pf rfl d3 ?_ | refine wpfS_seq1 ?_ | refine wpfS_go ?_ | fail) <;> conv => whnf)
          exact ⟨rfl, rfl⟩
        | false =>
          rw [hf] at d3
          rw [chk_fail (q := (p', ⟨0, b⟩)) rfl hf, if_neg (show ¬ (St.fail ⟨0, b⟩ 3).e = 0 by show ¬ firstE 0 3 = 0; decide)]
          repeat' ((first | refine brP_t (by assumption) ?_ | refine brP_f (by assumption) ?_ | refine brP_t (decide_eq_true (by omega)) ?_ | refine brP_f (decide_eq_false (by omega)) ?_ | refine brP_t (nd_t (by omega)) ?_ | refine brP_f (nd_f (by omega)) ?_ | refine callK_p d3 ?_ | refine callM_p d3 rfl ?_ | refine callK_pf rfl d3 ?_ | refine wpfS_seq1 ?_ | refine wpfS_go ?_ | fail) <;> conv => whnf)
          exact ⟨rfl, rfl⟩
      · rw [chk_same (q := (p', ⟨e, b⟩)) (fun h => he h.1), if_neg he]
        repeat' ((first | refine brP_t (by assumption) ?_ | refine brP_f (by assumption) ?_ | refine brP_t (decide_eq_true (by omega)) ?_ | refine brP_f (decide_eq_false (by omega)) ?_ | refine brP_t (nd_t (by omega)) ?_ | refine brP_f (nd_f (by omega)) ?_ | refine wpfS_seq1 ?_ | refine wpfS_go ?_ | fail) <;> conv => whnf)
        exact ⟨rfl, rfl⟩
end Go.Ab.S
