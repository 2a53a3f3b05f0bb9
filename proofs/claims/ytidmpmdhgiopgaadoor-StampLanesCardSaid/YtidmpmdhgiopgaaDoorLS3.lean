/- StampLanes. No condition. -/
import Derived.Test.YtidmpmdhgiopgaaDoorLS2
set_option linter.unusedSimpArgs false
set_option linter.unusedVariables false
namespace Go.Ab.S
open Go Go.Ab Go.Proofs
attribute [local irreducible] SemS
set_option maxRecDepth 100000
theorem take_eq_ob {α : Type} {a b : List α} {i : Nat} (ha : i < a.length) (hb : i < b.length) (h : a.take i = b.take i) (he : a[i] = b[i]) : a.take (i + 1) = b.take (i + 1) := by
  rw [List.take_succ_eq_append_getElem ha, List.take_succ_eq_append_getElem hb, h, he]
set_option maxHeartbeats 4000000 in
theorem R25_SameAll_ok (a b : List Ob) (hl : a.length < 2 ^ 62) (hb : b.length < 2 ^ 62) (ho : ∀ o ∈ a, o.Lim) : EvP PR G f_R25_SameAll [slv (obs a), slv (obs b)] (bv (decide (a = b))) := by
  have hla := obs_len (l := a)
  have hlb := obs_len (l := b)
  refine EvP.of_wpf false hm c_R25_SameAll rfl ?_
  refine wpf_seq1 ?_
  conv => whnf
  by_cases hn : a.length = b.length
  case neg =>
    rw [decide_eq_false (show ¬ a = b from fun h => hn (by rw [h]))]
    repeat' ((first | refine brP_t (by assumption) ?_ | refine brP_f (by assumption) ?_ | refine brP_t (decide_eq_true (by omega)) ?_ | refine brP_f (decide_eq_false (by omega)) ?_ | refine brP_t (nd_t (by omega)) ?_ | refine brP_f (nd_f (by omega)) ?_ | ((rw [hla])) | ((rw [hlb])) | refine wpfS_seq1 ?_ | refine wpfS_go ?_ | fail) <;> conv => whnf)
    rfl
  repeat' ((first | refine brP_t (by assumption) ?_ | refine brP_f (by assumption) ?_ | refine brP_t (decide_eq_true (by omega)) ?_ | refine brP_f (decide_eq_false (by omega)) ?_ | refine brP_t (nd_t (by omega)) ?_ | refine brP_f (nd_f (by omega)) ?_ | ((rw [hla])) | ((rw [hlb])) | refine wpfS_seq1 ?_ | refine wpfS_go ?_ | fail) <;> conv => whnf)
  refine SemS.loopF false hm (σ := Nat) (fun i => [(5, iv i), (1, slv (obs b)), (0, slv (obs a))]) (fun _ => ⟨[], []⟩) (fun i => a.length - i) (fun i => i ≤ a.length ∧ a.take i = b.take i) 0 ⟨Nat.zero_le _, rfl⟩ ⟨rfl, rfl, rfl, trivial⟩ rfl ?_
  rintro i ⟨hi, hall⟩
  refine wpf_seq1 ?_
  conv => whnf
  rw [hla]
  refine brP_mk (fun h => ?_) (fun h => ?_)
  · have hi' : i < a.length := by have := of_decide_eq_true h; omega
    have hib : i < b.length := by omega
    clear h
    have hget := obs_get hi'
    have hgb := obs_get hib
    have hw2 : IntKind.i64.wrap ((i : Int) + 1) = ((i + 1 : Nat) : Int) := by rw [wrap64 (by omega)]; rfl
    have c1 := R25_Same_ok a[i] b[i] (ho _ (List.getElem_mem hi'))
    have hne : ¬ a[i] = b[i] → ¬ a = b := fun h he => h (by subst he; rfl)
    have hst := take_eq_ob hi' hib hall
    generalize a[i] = x at *
    generalize b[i] = y at *
    by_cases he : x = y
    · rw [decide_eq_true he] at c1
      repeat' ((first | refine brP_t (by assumption) ?_ | refine brP_f (by assumption) ?_ | refine brP_t (decide_eq_true (by omega)) ?_ | refine brP_f (decide_eq_false (by omega)) ?_ | refine brP_t (nd_t (by omega)) ?_ | refine brP_f (nd_f (by omega)) ?_ | ((rw [hla])) | ((conv in (opS _ _ _ _) => whnf); rw [Int.toNat_natCast, hget]) | ((conv in (opM _ _ _ _ _) => whnf); (conv in (opS _ _ _ _) => whnf); rw [Int.toNat_natCast, hget]) | ((conv in (opS _ _ _ _) => whnf); rw [Int.toNat_natCast, hgb]) | ((conv in (opM _ _ _ _ _) => whnf); (conv in (opS _ _ _ _) => whnf); rw [Int.toNat_natCast, hgb]) | refine callK_p c1 ?_ | refine callM_p c1 rfl ?_ | refine callK_pf rfl c1 ?_ | refine callK_pk rfl c1 ?_ | ((rw [hw2])) | refine wpfS_seq1 ?_ | refine wpfS_go ?_ | fail) <;> conv => whnf)
      exact ⟨i + 1, ⟨hi', hst he⟩, (show a.length - (i + 1) < a.length - i by omega), ⟨rfl, rfl, rfl, trivial⟩, rfl⟩
    · rw [decide_eq_false he] at c1
      rw [decide_eq_false (hne he)]
      repeat' ((first | refine brP_t (by assumption) ?_ | refine brP_f (by assumption) ?_ | refine brP_t (decide_eq_true (by omega)) ?_ | refine brP_f (decide_eq_false (by omega)) ?_ | refine brP_t (nd_t (by omega)) ?_ | refine brP_f (nd_f (by omega)) ?_ | ((rw [hla])) | ((conv in (opS _ _ _ _) => whnf); rw [Int.toNat_natCast, hget]) | ((conv in (opM _ _ _ _ _) => whnf); (conv in (opS _ _ _ _) => whnf); rw [Int.toNat_natCast, hget]) | ((conv in (opS _ _ _ _) => whnf); rw [Int.toNat_natCast, hgb]) | ((conv in (opM _ _ _ _ _) => whnf); (conv in (opS _ _ _ _) => whnf); rw [Int.toNat_natCast, hgb]) | refine callK_p c1 ?_ | refine callM_p c1 rfl ?_ | refine callK_pf rfl c1 ?_ | refine callK_pk rfl c1 ?_ | refine wpfS_seq1 ?_ | refine wpfS_go ?_ | fail) <;> conv => whnf)
      rfl
  · have hi' : i = a.length := by have := of_decide_eq_false h; omega
    subst hi'
    clear h
    rw [List.take_length, hn, List.take_length] at hall
    rw [decide_eq_true hall]
    repeat' ((first | refine brP_t (by assumption) ?_ | refine brP_f (by assumption) ?_ | refine brP_t (decide_eq_true (by omega)) ?_ | refine brP_f (decide_eq_false (by omega)) ?_ | refine brP_t (nd_t (by omega)) ?_ | refine brP_f (nd_f (by omega)) ?_ | refine wpfS_seq1 ?_ | refine wpfS_go ?_ | fail) <;> conv => whnf)
    rfl
theorem frz_os2 {H : Hp} {id : Id} {sz n : Nat} {fz : Bool} {es fs : List (List PV)} (hg : H.get id = some (.arr sz fz es)) (hn : n = es.length) : freezeAs H [.c (.os id n), slv fs] = some (true, [slv es, slv fs], H.set id (.arr sz true es)) := by
  simp only [freezeAs, freezeA, freezeC, hg, hn, decide_true, slv]
  rfl
set_option maxHeartbeats 16000000 in
theorem stampLanes_ok (l : List (Int × Int)) (hl63 : l.length < 2 ^ 63) (ep : Nat) (hep : ep < 256) (os : List Ob) (hol : os.length < 2 ^ 62) (ho : ∀ o ∈ os, o.Ok ∧ o.Lim) : EvP PR G f_L31_StampLanes [slv (prows l), .c (.p (.int .u8 ep)), slv (obs os)] (bv true) := by
  have hlen : (prows l).length = l.length := by simp [prows]
  have hlo := obs_len (l := os)
  refine EvP.of_wpf false hm c_L31_StampLanes rfl ?_
  refine wpf_seq1 ?_
  conv => whnf
  by_cases h20 : 20 < l.length
  · repeat' ((first | refine brP_t (by assumption) ?_ | refine brP_f (by assumption) ?_ | refine brP_t (decide_eq_true (by omega)) ?_ | refine brP_f (decide_eq_false (by omega)) ?_ | refine brP_t (nd_t (by omega)) ?_ | refine brP_f (nd_f (by omega)) ?_ | ((rw [hlen])) | refine callK_p L31_alive_ok ?_ | refine callM_p L31_alive_ok rfl ?_ | refine callK_pf rfl L31_alive_ok ?_ | refine callK_pk rfl L31_alive_ok ?_ | refine wpfS_seq1 ?_ | refine wpfS_go ?_ | fail) <;> conv => whnf)
    rfl
  by_cases h21 : 20 < os.length
  · repeat' ((first | refine brP_t (by assumption) ?_ | refine brP_f (by assumption) ?_ | refine brP_t (decide_eq_true (by omega)) ?_ | refine brP_f (decide_eq_false (by omega)) ?_ | refine brP_t (nd_t (by omega)) ?_ | refine brP_f (nd_f (by omega)) ?_ | ((rw [hlen])) | ((rw [hlo])) | refine callK_p L31_alive_ok ?_ | refine callM_p L31_alive_ok rfl ?_ | refine callK_pf rfl L31_alive_ok ?_ | refine callK_pk rfl L31_alive_ok ?_ | refine wpfS_seq1 ?_ | refine wpfS_go ?_ | fail) <;> conv => whnf)
    rfl
  by_cases he0 : ep = 0
  · subst he0
    repeat' ((first | refine brP_t (by assumption) ?_ | refine brP_f (by assumption) ?_ | refine brP_t (decide_eq_true (by omega)) ?_ | refine brP_f (decide_eq_false (by omega)) ?_ | refine brP_t (nd_t (by omega)) ?_ | refine brP_f (nd_f (by omega)) ?_ | ((rw [hlen])) | ((rw [hlo])) | refine callK_p L31_alive_ok ?_ | refine callM_p L31_alive_ok rfl ?_ | refine callK_pf rfl L31_alive_ok ?_ | refine callK_pk rfl L31_alive_ok ?_ | refine wpfS_seq1 ?_ | refine wpfS_go ?_ | fail) <;> conv => whnf)
    rfl
  repeat' ((first | refine brP_t (by assumption) ?_ | refine brP_f (by assumption) ?_ | refine brP_t (decide_eq_true (by omega)) ?_ | refine brP_f (decide_eq_false (by omega)) ?_ | refine brP_t (nd_t (by omega)) ?_ | refine brP_f (nd_f (by omega)) ?_ | ((rw [hlen])) | ((rw [hlo])) | refine wpfS_seq1 ?_ | refine wpfS_go ?_ | fail) <;> conv => whnf)
  refine SemS.loopF false hm (σ := Nat) (fun i => [(7, iv i), (2, slv (obs os)), (1, .c (.p (.int .u8 ep))), (0, slv (prows l))]) (fun _ => ⟨[], []⟩) (fun i => os.length - i) (fun i => i ≤ os.length ∧ ∀ o ∈ os.take i, o.fine = true) 0 ⟨Nat.zero_le _, fun o h => by cases h⟩ ⟨rfl, rfl, rfl, rfl, trivial⟩ rfl ?_
  rintro i ⟨hi, hall⟩
  refine wpf_seq1 ?_
  conv => whnf
  rw [hlo]
  refine brP_mk (fun h => ?_) (fun h => ?_)
  · have hi' : i < os.length := by have := of_decide_eq_true h; omega
    clear h
    have hget := obs_get hi'
    have hw2 : IntKind.i64.wrap ((i : Int) + 1) = ((i + 1 : Nat) : Int) := by rw [wrap64 (by omega)]; rfl
    have htk := List.take_succ_eq_append_getElem hi'
    have c1 := R25_Fine_ok os[i] (ho _ (List.getElem_mem hi')).2
    generalize os[i] = x at *
    cases hf : x.fine with
    | false =>
      rw [hf] at c1
      repeat' ((first | refine brP_t (by assumption) ?_ | refine brP_f (by assumption) ?_ | refine brP_t (decide_eq_true (by omega)) ?_ | refine brP_f (decide_eq_false (by omega)) ?_ | refine brP_t (nd_t (by omega)) ?_ | refine brP_f (nd_f (by omega)) ?_ | ((rw [hlo])) | ((conv in (opS _ _ _ _) => whnf); rw [Int.toNat_natCast, hget]) | ((conv in (opM _ _ _ _ _) => whnf); (conv in (opS _ _ _ _) => whnf); rw [Int.toNat_natCast, hget]) | refine callK_p c1 ?_ | refine callM_p c1 rfl ?_ | refine callK_pf rfl c1 ?_ | refine callK_pk rfl c1 ?_ | refine callK_p L31_alive_ok ?_ | refine callM_p L31_alive_ok rfl ?_ | refine callK_pf rfl L31_alive_ok ?_ | refine callK_pk rfl L31_alive_ok ?_ | refine wpfS_seq1 ?_ | refine wpfS_go ?_ | fail) <;> conv => whnf)
      rfl
    | true =>
      rw [hf] at c1
      repeat' ((first | refine brP_t (by assumption) ?_ | refine brP_f (by assumption) ?_ | refine brP_t (decide_eq_true (by omega)) ?_ | refine brP_f (decide_eq_false (by omega)) ?_ | refine brP_t (nd_t (by omega)) ?_ | refine brP_f (nd_f (by omega)) ?_ | ((rw [hlo])) | ((conv in (opS _ _ _ _) => whnf); rw [Int.toNat_natCast, hget]) | ((conv in (opM _ _ _ _ _) => whnf); (conv in (opS _ _ _ _) => whnf); rw [Int.toNat_natCast, hget]) | refine callK_p c1 ?_ | refine callM_p c1 rfl ?_ | refine callK_pf rfl c1 ?_ | refine callK_pk rfl c1 ?_ | ((rw [hw2])) | refine wpfS_seq1 ?_ | refine wpfS_go ?_ | fail) <;> conv => whnf)
      refine ⟨i + 1, ⟨hi', fun o h => ?_⟩, (show os.length - (i + 1) < os.length - i by omega), ⟨rfl, rfl, rfl, rfl, trivial⟩, rfl⟩
      rw [htk] at h
      rcases List.mem_append.1 h with h | h
      · exact hall o h
      · rw [List.mem_singleton.1 h]; exact hf
  have hi' : i = os.length := by have := of_decide_eq_false h; omega
  subst hi'
  clear h
  rw [List.take_length] at hall
  have hM : mapOk (madeN l) := fun i hi => by have := made_lt l i hi; omega
  have c0 := R04_Made_ok l (by omega)
  generalize madeN l = M at *
  have hwe : IntKind.i64.wrap (ep : Int) = (ep : Int) := wrap64 (by omega)
  have hq : ∀ o ∈ os, o.bx.q.length ≤ 1000 := fun o h => by
    have := fine_len (hall o h)
    have hlen : o.bx.len = o.bx.q.length + o.bx.a.length + o.bx.h.length := rfl
    omega
  have c1 := stamp_Lane_ok M hM ep os (by omega) fun o h => ⟨(ho o h).1.ls, (ho o h).1.li, fun _ => by have := fine_len (hall o h); omega⟩
  have c2 := stamp_All_ok M hM ep os (by omega) fun o h => ⟨hq o h, (ho o h).1.bx.q⟩
  have hlX := obs_len (l := os.map (Ob.stampO M ep))
  have hlY := obs_len (l := os.map (Ob.commit M ep))
  rw [List.length_map] at hlX hlY
  have c3 := R25_SameAll_ok os os (by omega) (by omega) fun o h => (ho o h).2
  rw [decide_eq_true rfl] at c3
  have hoa := obs_all os
  have hX : ∀ i (h : i < os.length), (obs (os.map (Ob.stampO M ep)))[i]? = some (os[i].stampO M ep).row := fun i h => by
    have := obs_get (l := os.map (Ob.stampO M ep)) (i := i) (by rw [List.length_map]; exact h)
    rw [List.getElem_map] at this
    exact this
  have hY : ∀ i (h : i < os.length), (obs (os.map (Ob.commit M ep)))[i]? = some (os[i].commit M ep).row := fun i h => by
    have := obs_get (l := os.map (Ob.commit M ep)) (i := i) (by rw [List.length_map]; exact h)
    rw [List.getElem_map] at this
    exact this
  generalize obs (os.map (Ob.stampO M ep)) = XS at *
  generalize obs (os.map (Ob.commit M ep)) = YS at *
  repeat' ((first | refine brP_t (by assumption) ?_ | refine brP_f (by assumption) ?_ | refine brP_t (decide_eq_true (by omega)) ?_ | refine brP_f (decide_eq_false (by omega)) ?_ | refine brP_t (nd_t (by omega)) ?_ | refine brP_f (nd_f (by omega)) ?_ | ((rw [hlen])) | ((rw [hwe])) | ((rw [hlX])) | ((rw [hlY])) | ((rw [hlo])) | (refine gd_mk ?_ ?_; focus (rw [hoa, hlo]; simp; omega; done)) | (refine gd_mk ?_ ?_; focus (simp [hoa, hlo]; omega; done)) | refine wpfS_seq1 ?_ | refine wpfS_go ?_ | fail) <;> conv => whnf)
  (first | refine callK_p c0 ?_ | refine callM_p c0 rfl ?_ | refine callK_pf rfl c0 ?_ | refine callK_pk rfl c0 ?_)
  conv => whnf
  repeat' ((first | refine brP_t (by assumption) ?_ | refine brP_f (by assumption) ?_ | refine brP_t (decide_eq_true (by omega)) ?_ | refine brP_f (decide_eq_false (by omega)) ?_ | refine brP_t (nd_t (by omega)) ?_ | refine brP_f (nd_f (by omega)) ?_ | ((rw [hlen])) | ((rw [hwe])) | ((rw [hlX])) | ((rw [hlY])) | ((rw [hlo])) | (refine gd_mk ?_ ?_; focus (rw [hoa, hlo]; simp; omega; done)) | (refine gd_mk ?_ ?_; focus (simp [hoa, hlo]; omega; done)) | refine wpfS_seq1 ?_ | refine wpfS_go ?_ | fail) <;> conv => whnf)
  (first | refine callK_p c1 ?_ | refine callM_p c1 rfl ?_ | refine callK_pf rfl c1 ?_ | refine callK_pk rfl c1 ?_)
  conv => whnf
  repeat' ((first | refine brP_t (by assumption) ?_ | refine brP_f (by assumption) ?_ | refine brP_t (decide_eq_true (by omega)) ?_ | refine brP_f (decide_eq_false (by omega)) ?_ | refine brP_t (nd_t (by omega)) ?_ | refine brP_f (nd_f (by omega)) ?_ | ((rw [hlen])) | ((rw [hwe])) | ((rw [hlX])) | ((rw [hlY])) | ((rw [hlo])) | (refine gd_mk ?_ ?_; focus (rw [hoa, hlo]; simp; omega; done)) | (refine gd_mk ?_ ?_; focus (simp [hoa, hlo]; omega; done)) | refine wpfS_seq1 ?_ | refine wpfS_go ?_ | fail) <;> conv => whnf)
  (first | refine callK_p c2 ?_ | refine callM_p c2 rfl ?_ | refine callK_pf rfl c2 ?_ | refine callK_pk rfl c2 ?_)
  conv => whnf
  repeat' ((first | refine brP_t (by assumption) ?_ | refine brP_f (by assumption) ?_ | refine brP_t (decide_eq_true (by omega)) ?_ | refine brP_f (decide_eq_false (by omega)) ?_ | refine brP_t (nd_t (by omega)) ?_ | refine brP_f (nd_f (by omega)) ?_ | ((rw [hlen])) | ((rw [hwe])) | ((rw [hlX])) | ((rw [hlY])) | ((rw [hlo])) | (refine gd_mk ?_ ?_; focus (rw [hoa, hlo]; simp; omega; done)) | (refine gd_mk ?_ ?_; focus (simp [hoa, hlo]; omega; done)) | refine wpfS_seq1 ?_ | refine wpfS_go ?_ | fail) <;> conv => whnf)
  (first | refine callK_pf (frz_os2 rfl hlo.symm) c3 ?_)
  conv => whnf
  repeat' ((first | refine brP_t (by assumption) ?_ | refine brP_f (by assumption) ?_ | refine brP_t (decide_eq_true (by omega)) ?_ | refine brP_f (decide_eq_false (by omega)) ?_ | refine brP_t (nd_t (by omega)) ?_ | refine brP_f (nd_f (by omega)) ?_ | ((rw [hlen])) | ((rw [hwe])) | ((rw [hlX])) | ((rw [hlY])) | ((rw [hlo])) | (refine gd_mk ?_ ?_; focus (rw [hoa, hlo]; simp; omega; done)) | (refine gd_mk ?_ ?_; focus (simp [hoa, hlo]; omega; done)) | refine wpfS_seq1 ?_ | refine wpfS_go ?_ | fail) <;> conv => whnf)
  refine SemS.loopF false hm (σ := Nat) (fun i => [(12, iv i), (11, slv YS), (10, slv XS), (8, .c (.ptr (.loc 0) 0)), (2, slv (obs os)), (1, .c (.p (.int .u8 ep)))]) (fun _ => ⟨[], [.row (mrow M), .arr 17 true (obs os)]⟩) (fun i => os.length - i) (fun i => i ≤ os.length) 0 (Nat.zero_le _) ⟨rfl, rfl, rfl, rfl, rfl, rfl, trivial⟩ rfl ?_
  intro i hi
  refine wpf_seq1 ?_
  conv => whnf
  rw [hlo]
  refine brP_mk (fun h => ?_) (fun h => ?_)
  · have hi' : i < os.length := by have := of_decide_eq_true h; omega
    clear h
    have hget := obs_get hi'
    have hgx := hX i hi'
    have hgy := hY i hi'
    have hw2 : IntKind.i64.wrap ((i : Int) + 1) = ((i + 1 : Nat) : Int) := by rw [wrap64 (by omega)]; rfl
    have hmem := List.getElem_mem hi'
    have hf := hall _ hmem
    have hq := hq _ hmem
    obtain ⟨hok, hlim⟩ := ho _ hmem
    have d1 := R31_One_ok M hM ep os[i] hok.ls hok.li (fine_good hf)
    have d2 := R25_Same_ok (os[i].stampO M ep) (os[i].stampO M ep) (stampO_lim hlim)
    have d3 := R31_Commit_ok M hM ep os[i] hq hok.bx.q
    rw [commit_eq hf] at d3
    have d4 := R25_Same_ok (os[i].commit M ep) (os[i].commit M ep) (commit_lim hlim)
    rw [decide_eq_true rfl] at d2 d4
    generalize os[i].stampO M ep = x at *
    generalize os[i].commit M ep = y at *
    generalize os[i] = o at *
    repeat' ((first | refine brP_t (by assumption) ?_ | refine brP_f (by assumption) ?_ | refine brP_t (decide_eq_true (by omega)) ?_ | refine brP_f (decide_eq_false (by omega)) ?_ | refine brP_t (nd_t (by omega)) ?_ | refine brP_f (nd_f (by omega)) ?_ | ((rw [hlo])) | ((conv in (opS _ _ _ _) => whnf); rw [Int.toNat_natCast, hget]) | ((conv in (opM _ _ _ _ _) => whnf); (conv in (opS _ _ _ _) => whnf); rw [Int.toNat_natCast, hget]) | ((conv in (opS _ _ _ _) => whnf); rw [Int.toNat_natCast, hgx]) | ((conv in (opM _ _ _ _ _) => whnf); (conv in (opS _ _ _ _) => whnf); rw [Int.toNat_natCast, hgx]) | ((conv in (opS _ _ _ _) => whnf); rw [Int.toNat_natCast, hgy]) | ((conv in (opM _ _ _ _ _) => whnf); (conv in (opS _ _ _ _) => whnf); rw [Int.toNat_natCast, hgy]) | ((rw [hwe])) | ((rw [hw2])) | refine wpfS_seq1 ?_ | refine wpfS_go ?_ | fail) <;> conv => whnf)
    (first | refine callK_p d1 ?_ | refine callM_p d1 rfl ?_ | refine callK_pf rfl d1 ?_ | refine callK_pk rfl d1 ?_)
    conv => whnf
    repeat' ((first | refine brP_t (by assumption) ?_ | refine brP_f (by assumption) ?_ | refine brP_t (decide_eq_true (by omega)) ?_ | refine brP_f (decide_eq_false (by omega)) ?_ | refine brP_t (nd_t (by omega)) ?_ | refine brP_f (nd_f (by omega)) ?_ | ((rw [hlo])) | ((conv in (opS _ _ _ _) => whnf); rw [Int.toNat_natCast, hget]) | ((conv in (opM _ _ _ _ _) => whnf); (conv in (opS _ _ _ _) => whnf); rw [Int.toNat_natCast, hget]) | ((conv in (opS _ _ _ _) => whnf); rw [Int.toNat_natCast, hgx]) | ((conv in (opM _ _ _ _ _) => whnf); (conv in (opS _ _ _ _) => whnf); rw [Int.toNat_natCast, hgx]) | ((conv in (opS _ _ _ _) => whnf); rw [Int.toNat_natCast, hgy]) | ((conv in (opM _ _ _ _ _) => whnf); (conv in (opS _ _ _ _) => whnf); rw [Int.toNat_natCast, hgy]) | ((rw [hwe])) | ((rw [hw2])) | refine wpfS_seq1 ?_ | refine wpfS_go ?_ | fail) <;> conv => whnf)
    (first | refine callK_p d2 ?_ | refine callM_p d2 rfl ?_ | refine callK_pf rfl d2 ?_ | refine callK_pk rfl d2 ?_)
    conv => whnf
    repeat' ((first | refine brP_t (by assumption) ?_ | refine brP_f (by assumption) ?_ | refine brP_t (decide_eq_true (by omega)) ?_ | refine brP_f (decide_eq_false (by omega)) ?_ | refine brP_t (nd_t (by omega)) ?_ | refine brP_f (nd_f (by omega)) ?_ | ((rw [hlo])) | ((conv in (opS _ _ _ _) => whnf); rw [Int.toNat_natCast, hget]) | ((conv in (opM _ _ _ _ _) => whnf); (conv in (opS _ _ _ _) => whnf); rw [Int.toNat_natCast, hget]) | ((conv in (opS _ _ _ _) => whnf); rw [Int.toNat_natCast, hgx]) | ((conv in (opM _ _ _ _ _) => whnf); (conv in (opS _ _ _ _) => whnf); rw [Int.toNat_natCast, hgx]) | ((conv in (opS _ _ _ _) => whnf); rw [Int.toNat_natCast, hgy]) | ((conv in (opM _ _ _ _ _) => whnf); (conv in (opS _ _ _ _) => whnf); rw [Int.toNat_natCast, hgy]) | ((rw [hwe])) | ((rw [hw2])) | refine wpfS_seq1 ?_ | refine wpfS_go ?_ | fail) <;> conv => whnf)
    (first | refine callK_p d3 ?_ | refine callM_p d3 rfl ?_ | refine callK_pf rfl d3 ?_ | refine callK_pk rfl d3 ?_)
    conv => whnf
    repeat' ((first | refine brP_t (by assumption) ?_ | refine brP_f (by assumption) ?_ | refine brP_t (decide_eq_true (by omega)) ?_ | refine brP_f (decide_eq_false (by omega)) ?_ | refine brP_t (nd_t (by omega)) ?_ | refine brP_f (nd_f (by omega)) ?_ | ((rw [hlo])) | ((conv in (opS _ _ _ _) => whnf); rw [Int.toNat_natCast, hget]) | ((conv in (opM _ _ _ _ _) => whnf); (conv in (opS _ _ _ _) => whnf); rw [Int.toNat_natCast, hget]) | ((conv in (opS _ _ _ _) => whnf); rw [Int.toNat_natCast, hgx]) | ((conv in (opM _ _ _ _ _) => whnf); (conv in (opS _ _ _ _) => whnf); rw [Int.toNat_natCast, hgx]) | ((conv in (opS _ _ _ _) => whnf); rw [Int.toNat_natCast, hgy]) | ((conv in (opM _ _ _ _ _) => whnf); (conv in (opS _ _ _ _) => whnf); rw [Int.toNat_natCast, hgy]) | ((rw [hwe])) | ((rw [hw2])) | refine wpfS_seq1 ?_ | refine wpfS_go ?_ | fail) <;> conv => whnf)
    (first | refine callK_p d4 ?_ | refine callM_p d4 rfl ?_ | refine callK_pf rfl d4 ?_ | refine callK_pk rfl d4 ?_)
    conv => whnf
    repeat' ((first | refine brP_t (by assumption) ?_ | refine brP_f (by assumption) ?_ | refine brP_t (decide_eq_true (by omega)) ?_ | refine brP_f (decide_eq_false (by omega)) ?_ | refine brP_t (nd_t (by omega)) ?_ | refine brP_f (nd_f (by omega)) ?_ | ((rw [hlo])) | ((conv in (opS _ _ _ _) => whnf); rw [Int.toNat_natCast, hget]) | ((conv in (opM _ _ _ _ _) => whnf); (conv in (opS _ _ _ _) => whnf); rw [Int.toNat_natCast, hget]) | ((conv in (opS _ _ _ _) => whnf); rw [Int.toNat_natCast, hgx]) | ((conv in (opM _ _ _ _ _) => whnf); (conv in (opS _ _ _ _) => whnf); rw [Int.toNat_natCast, hgx]) | ((conv in (opS _ _ _ _) => whnf); rw [Int.toNat_natCast, hgy]) | ((conv in (opM _ _ _ _ _) => whnf); (conv in (opS _ _ _ _) => whnf); rw [Int.toNat_natCast, hgy]) | ((rw [hwe])) | ((rw [hw2])) | refine wpfS_seq1 ?_ | refine wpfS_go ?_ | fail) <;> conv => whnf)
    exact ⟨i + 1, hi', (show os.length - (i + 1) < os.length - i by omega), ⟨rfl, rfl, rfl, rfl, rfl, rfl, trivial⟩, rfl⟩
  · repeat' ((first | refine brP_t (by assumption) ?_ | refine brP_f (by assumption) ?_ | refine brP_t (decide_eq_true (by omega)) ?_ | refine brP_f (decide_eq_false (by omega)) ?_ | refine brP_t (nd_t (by omega)) ?_ | refine brP_f (nd_f (by omega)) ?_ | refine callK_p L31_alive_ok ?_ | refine callM_p L31_alive_ok rfl ?_ | refine callK_pf rfl L31_alive_ok ?_ | refine callK_pk rfl L31_alive_ok ?_ | refine wpfS_seq1 ?_ | refine wpfS_go ?_ | fail) <;> conv => whnf)
    rfl
theorem obs_of {es : List (List PV)} (h : ∀ r ∈ es, wt shOb r) : ∃ l : List Ob, es = obs l ∧ ∀ o ∈ l, o.Ok ∧ o.Lim := by
  induction es with
  | nil => exact ⟨[], rfl, fun o h => by cases h⟩
  | cons r es ih =>
    obtain ⟨l, rfl, hl⟩ := ih fun r hr => h r (List.mem_cons_of_mem _ hr)
    obtain ⟨o, rfl, h1, h2⟩ := ob_lim (h r List.mem_cons_self)
    refine ⟨o :: l, rfl, fun x hx => ?_⟩
    rcases List.mem_cons.1 hx with rfl | hx
    · exact ⟨h1, h2⟩
    · exact hl x hx
theorem law_stampLanes (pvss : List (List PV)) (hw : wts [shMoves, .int .u8, .sl 17 160 shOb] pvss) : EvP PR G f_L31_StampLanes (argAVs [shMoves, .int .u8, .sl 17 160 shOb] pvss) (.c (.p (.bool true))) := by
  obtain ⟨a, _, rfl, ha, hw⟩ := wts_cons hw
  obtain ⟨b, _, rfl, hb, hw⟩ := wts_cons hw
  obtain ⟨c, _, rfl, hc, hw⟩ := wts_cons hw
  cases wts_nil hw
  obtain ⟨t, rfl, -, hl, ht⟩ := ha
  obtain ⟨t, rfl⟩ := prows_of ht
  obtain ⟨e, rfl, he⟩ := hb
  obtain ⟨e', rfl, he'⟩ := u8_of he
  obtain ⟨es, rfl, hol, -, hes⟩ := hc
  obtain ⟨os, rfl, hos⟩ := obs_of fun r hr => (hes r hr).2
  have : t.length < 2 ^ 63 := by
    have := len63 hl
    simpa [prows] using this
  rw [obs_len] at hol
  have hol : os.length * 160 ≤ 0x7ffffffff000 := hol
  exact stampLanes_ok t this e' he' os (by omega) hos
end Go.Ab.S
