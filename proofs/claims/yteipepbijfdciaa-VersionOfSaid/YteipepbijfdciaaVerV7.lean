/- Part of a proof; no condition. -/
import Derived.Test.YteipepbijfdciaaVerV4
set_option linter.unusedSimpArgs false
set_option linter.unusedVariables false
namespace Go.Ab.S
open Go Go.Ab Go.Proofs
attribute [local irreducible] SemS
set_option maxRecDepth 100000
set_option maxHeartbeats 1600000 in
theorem keeps_ok (l : List Nat) (hu : ∀ n ∈ l, n < 65536) : EvP PR G f_L14_VersionKeeps [slv (urows l)] (bv true) := by
  have hlen : (urows l).length = l.length := by simp [urows]
  refine EvP.of_wpf false hm c_L14_VersionKeeps rfl ?_
  refine wpf_seq1 ?_
  conv => whnf
  refine wpfS_seq1 ?_
  conv => whnf
  by_cases hbig : 255 < l.length
  · repeat' ((first | refine brP_t (by assumption) ?_ | refine brP_f (by assumption) ?_ | refine brP_t (decide_eq_true (by omega)) ?_ | refine brP_f (decide_eq_false (by omega)) ?_ | refine brP_t (nd_t (by omega)) ?_ | refine brP_f (nd_f (by omega)) ?_ | ((rw [hlen])) | refine callK_p L14_alive_ok ?_ | refine callM_p L14_alive_ok rfl ?_ | refine callK_pf rfl L14_alive_ok ?_ | refine brP_mk (fun h => ?_) (fun h => ?_) | fail) <;> conv => whnf)
    rfl
  repeat' ((first | refine brP_t (by assumption) ?_ | refine brP_f (by assumption) ?_ | refine brP_t (decide_eq_true (by omega)) ?_ | refine brP_f (decide_eq_false (by omega)) ?_ | refine brP_t (nd_t (by omega)) ?_ | refine brP_f (nd_f (by omega)) ?_ | ((rw [hlen])) | refine brP_mk (fun h => ?_) (fun h => ?_) | fail) <;> conv => whnf)
  refine wpfS_seq1 ?_
  conv => whnf
  repeat' ((first | refine brP_t (by assumption) ?_ | refine brP_f (by assumption) ?_ | refine brP_t (decide_eq_true (by omega)) ?_ | refine brP_f (decide_eq_false (by omega)) ?_ | refine brP_t (nd_t (by omega)) ?_ | refine brP_f (nd_f (by omega)) ?_ | refine callK_p (number_ok 0 (by omega)) ?_ | refine callM_p (number_ok 0 (by omega)) rfl ?_ | refine callK_pf rfl (number_ok 0 (by omega)) ?_ | refine callK_r (EvR.fr [] (version_New_ok _ (num_ok 0)) rfl rfl trivial rfl) ?_ | refine callM_l (LEv.fr [] (version_New_ok _ (num_ok 0)) rfl rfl trivial rfl rfl) ?_ | refine callK_rf rfl (EvR.fr [] (version_New_ok _ (num_ok 0)) rfl rfl trivial rfl) ?_ | refine brP_mk (fun h => ?_) (fun h => ?_) | fail) <;> conv => whnf)
  refine wpfS_seq1 ?_
  conv => whnf
  repeat' ((first | refine brP_t (by assumption) ?_ | refine brP_f (by assumption) ?_ | refine brP_t (decide_eq_true (by omega)) ?_ | refine brP_f (decide_eq_false (by omega)) ?_ | refine brP_t (nd_t (by omega)) ?_ | refine brP_f (nd_f (by omega)) ?_ | fail) <;> conv => whnf)
  refine wpfS_seq1 ?_
  conv => whnf
  refine SemS.loopC false hm (σ := Nat) (fun i => [(0, slv (urows l)), (3, .c (.ptr (.loc 1) 0)), (4, iv i)]) (fun i => ⟨[], [.row (numN 0), stB (epL i) (kpL 0 l i)]⟩) (fun i => l.length - i) (fun i => i ≤ l.length) 0 (Nat.zero_le _) ⟨rfl, rfl, rfl, trivial⟩ rfl ?_
  intro i hi
  conv => whnf
  rw [hlen]
  refine brP_mk (fun h => ?_) (fun h => ?_)
  · have hi' : i < l.length := by have := of_decide_eq_true h; omega
    clear h
    have hget := urows_get hi'
    have hn : l[i] < 65536 := hu _ (List.getElem_mem hi')
    have hw2 : IntKind.i64.wrap ((i : Int) + 1) = ((i + 1 : Nat) : Int) := by rw [wrap64 (by omega)]; rfl
    have hw3 : IntKind.i64.wrap ((l[i] : Nat) : Int) = ((l[i] : Nat) : Int) := wrap64 (by omega)
    have h255 : i < 255 := by omega
    have hep : epL i = (min i 255 : Nat) := rfl
    have hpos := kp_pos (z := 0) hi
    have hkl := kp_len (z := 0) hi
    have eK := Store_Kept_ok (epL i) (kpL 0 l i) hpos kp_ok (by omega)
    have s2 := kp_succ (z := 0) hi' h255
    have s3 := ep_succ (i := i) h255
    have eS := Store_Commit_ok (epL i) (kpL 0 l i) hpos kp_ok (by omega) (by omega) (numN l[i]) (num_ok _)
    rw [s2, s3] at eS
    obtain ⟨q, hq⟩ : ∃ q, (kpL 0 l i)[0]? = some q := ⟨_, List.getElem?_eq_getElem hpos⟩
    have hqp : Pok q := kp_ok _ (List.mem_of_getElem? hq)
    generalize l[i] = n at *
    conv => whnf
    repeat' ((first | refine brP_t (by assumption) ?_ | refine brP_f (by assumption) ?_ | refine brP_t (decide_eq_true (by omega)) ?_ | refine brP_f (decide_eq_false (by omega)) ?_ | refine brP_t (nd_t (by omega)) ?_ | refine brP_f (nd_f (by omega)) ?_ | ((conv in (opS _ _ _ _) => whnf); rw [Int.toNat_natCast, hget]) | ((rw [hw3])) | refine callK_p (number_ok n hn) ?_ | refine callM_p (number_ok n hn) rfl ?_ | refine callK_pf rfl (number_ok n hn) ?_ | refine callK_r (EvR.fr [_] eK rfl rfl ⟨rfl, trivial⟩ rfl) ?_ | refine callM_l (LEv.fr [_] eK rfl rfl ⟨rfl, trivial⟩ rfl rfl) ?_ | refine callK_rf rfl (EvR.fr [_] eK rfl rfl ⟨rfl, trivial⟩ rfl) ?_ | refine callK_r (EvR.fr [_] eS rfl rfl ⟨rfl, trivial⟩ rfl) ?_ | refine callM_l (LEv.fr [_] eS rfl rfl ⟨rfl, trivial⟩ rfl rfl) ?_ | refine callK_rf rfl (EvR.fr [_] eS rfl rfl ⟨rfl, trivial⟩ rfl) ?_ | ((conv in (opS _ _ _ _) => whnf); rw [show (kpL 0 l i)[Int.toNat 0]? = some q from hq]) | (refine gd_mk ?_ ?_; focus (simp [hqp.len]; done)) | refine brP_mk (fun h => ?_) (fun h => ?_) | fail) <;> conv => whnf)
    rw [hw2]
    exact ⟨i + 1, 2, hi', (show l.length - (i + 1) < l.length - i by omega), ⟨rfl, rfl, rfl, trivial⟩, Nat.le_refl 2, rfl, rfl, rfl⟩
  · have hi' : i = l.length := by have := of_decide_eq_false h; omega
    subst hi'
    clear h hi
    conv => whnf
    refine wpfS_seq1 ?_
    conv => whnf
    have hpos := kp_pos (z := 0) (Nat.le_refl l.length)
    have hep : epL l.length = l.length := by unfold epL; omega
    have hkl := kp_len (z := 0) (Nat.le_refl l.length)
    have hal := all_len (z := 0) (Nat.le_refl l.length)
    rw [hep]
    refine SemS.loopC false hm (σ := Nat) (fun j => [(0, slv (urows l)), (3, .c (.ptr (.loc 1) 0)), (6, iv j)]) (fun _ => ⟨[], [.row (numN 0), stB l.length (kpL 0 l l.length)]⟩) (fun j => l.length - j) (fun j => j ≤ l.length) 0 (Nat.zero_le _) ⟨rfl, rfl, rfl, trivial⟩ rfl ?_
    intro j hj
    conv => whnf
    rw [hlen]
    refine brP_mk (fun h => ?_) (fun h => ?_)
    · have hj' : j < l.length := by have := of_decide_eq_true h; omega
      clear h
      have hget := urows_get hj'
      have hn : l[j] < 65536 := hu _ (List.getElem_mem hj')
      have hw2 : IntKind.i64.wrap ((j : Int) + 1) = ((j + 1 : Nat) : Int) := by rw [wrap64 (by omega)]; rfl
      have hw8 : IntKind.i64.wrap ((j : Int) + 8) = ((j + 8 : Nat) : Int) := by rw [wrap64 (by omega)]; rfl
      have hw3 : IntKind.i64.wrap ((l[j] : Nat) : Int) = ((l[j] : Nat) : Int) := wrap64 (by omega)
      have eA := Store_At_ok l.length (kpL 0 l l.length) hpos kp_ok (by omega) (by omega) ((j + 1 : Nat) : Int)
      have hpn := num_ok l[j]
      by_cases h8 : j + 8 < l.length
      · have hv : atV l.length (kpL 0 l l.length) ((j + 1 : Nat) : Int) = .tup [.agg zeroP, iv 6] := by
          unfold atV
          rw [if_neg (by omega), if_pos (by omega)]
        rw [hv] at eA
        generalize l[j] = n at *
        conv => whnf
        repeat' ((first | refine brP_t (by assumption) ?_ | refine brP_f (by assumption) ?_ | refine brP_t (decide_eq_true (by omega)) ?_ | refine brP_f (decide_eq_false (by omega)) ?_ | refine brP_t (nd_t (by omega)) ?_ | refine brP_f (nd_f (by omega)) ?_ | ((rw [hw2])) | ((rw [hw8])) | ((rw [hlen])) | ((conv in (opS _ _ _ _) => whnf); rw [Int.toNat_natCast, hget]) | ((rw [hw3])) | refine callK_p (number_ok n hn) ?_ | refine callM_p (number_ok n hn) rfl ?_ | refine callK_pf rfl (number_ok n hn) ?_ | refine callK_r (EvR.fr [_] eA rfl rfl ⟨rfl, trivial⟩ rfl) ?_ | refine callM_l (LEv.fr [_] eA rfl rfl ⟨rfl, trivial⟩ rfl rfl) ?_ | refine callK_rf rfl (EvR.fr [_] eA rfl rfl ⟨rfl, trivial⟩ rfl) ?_ | refine brP_mk (fun h => ?_) (fun h => ?_) | fail) <;> conv => whnf)
        exact ⟨j + 1, 2, hj', (show l.length - (j + 1) < l.length - j by omega), ⟨rfl, rfl, rfl, trivial⟩, Nat.le_refl 2, rfl, rfl, rfl⟩
      · have hv : atV l.length (kpL 0 l l.length) ((j + 1 : Nat) : Int) = .tup [.agg (numN l[j]), iv 0] := by
          unfold atV
          rw [if_neg (by omega), if_neg (by omega)]
          congr 3
          have hz : (polL 0 l)[j + 1]? = some (numN l[j]) := by
            simp only [polL, List.getElem?_cons_succ, List.getElem?_map, List.getElem?_eq_getElem hj']
            rfl
          have h2 : (allL 0 l l.length)[j + 1]? = some (numN l[j]) := by
            rw [allL, List.getElem?_take_of_lt (by omega), hz]
          have h3 : (kpL 0 l l.length)[(kpL 0 l l.length).length - 1 - ((l.length : Int) - ((j + 1 : Nat) : Int)).toNat]? = some (numN l[j]) := by
            rw [hkl, kpL, List.getElem?_drop]
            rw [show min l.length 255 + 1 - 8 + (min l.length 255 + 1 - (min l.length 255 + 1 - 8) - 1 - ((l.length : Int) - ((j + 1 : Nat) : Int)).toNat) = j + 1 by omega]
            exact h2
          rw [List.getD_eq_getElem?_getD, h3]
          rfl
        rw [hv] at eA
        generalize l[j] = n at *
        have hself : ∀ ks, ks = polK → eqCells ks (List.take 66 (List.drop 0 (numN n))) (numN n) = some true := by
          intro ks e
          rw [td hpn.len]
          exact eqCells_self hpn e
        have hput : ∀ z : List PV, z.length = 66 → putAt z 0 (numN n) = numN n := fun z hz => put_all (by rw [hz, hpn.len])
        conv => whnf
        repeat' ((first | refine brP_t (by assumption) ?_ | refine brP_f (by assumption) ?_ | refine brP_t (decide_eq_true (by omega)) ?_ | refine brP_f (decide_eq_false (by omega)) ?_ | refine brP_t (nd_t (by omega)) ?_ | refine brP_f (nd_f (by omega)) ?_ | ((rw [hput]; rotate_left; rfl)) | ((rw [hw2])) | ((rw [hw8])) | ((rw [hlen])) | ((conv in (opS _ _ _ _) => whnf); rw [Int.toNat_natCast, hget]) | ((rw [hw3])) | refine callK_p (number_ok n hn) ?_ | refine callM_p (number_ok n hn) rfl ?_ | refine callK_pf rfl (number_ok n hn) ?_ | refine callK_r (EvR.fr [_] eA rfl rfl ⟨rfl, trivial⟩ rfl) ?_ | refine callM_l (LEv.fr [_] eA rfl rfl ⟨rfl, trivial⟩ rfl rfl) ?_ | refine callK_rf rfl (EvR.fr [_] eA rfl rfl ⟨rfl, trivial⟩ rfl) ?_ | (refine gd_mk ?_ ?_; focus (simp [hpn.len]; done)) | ((conv in (eqS _ _ _) => whnf); rw [hself _ (by rfl)]) | refine brP_mk (fun h => ?_) (fun h => ?_) | fail) <;> conv => whnf)
        exact ⟨j + 1, 2, hj', (show l.length - (j + 1) < l.length - j by omega), ⟨rfl, rfl, rfl, trivial⟩, Nat.le_refl 2, rfl, rfl, rfl⟩
    · clear h hj
      have eE := Store_Epoch_ok l.length (kpL 0 l l.length) hpos
      have eK := Store_KeptF_ok l.length (kpL 0 l l.length) hpos kp_ok (by omega)
      have hmin : (if IntKind.i64.wrap ((l.length : Int) + 1) < 8 then IntKind.i64.wrap ((l.length : Int) + 1) else 8) = ((kpL 0 l l.length).length : Int) := by
        rw [wrap64 (by omega)]
        split <;> omega
      conv => whnf
      refine wpfS_go ?_
      conv => whnf
      repeat' ((first | refine brP_t (by assumption) ?_ | refine brP_f (by assumption) ?_ | refine brP_t (decide_eq_true (by omega)) ?_ | refine brP_f (decide_eq_false (by omega)) ?_ | refine brP_t (nd_t (by omega)) ?_ | refine brP_f (nd_f (by omega)) ?_ | ((rw [hlen])) | ((rw [hmin])) | refine callK_r (EvR.fr [_] eE rfl rfl ⟨rfl, trivial⟩ rfl) ?_ | refine callM_l (LEv.fr [_] eE rfl rfl ⟨rfl, trivial⟩ rfl rfl) ?_ | refine callK_rf rfl (EvR.fr [_] eE rfl rfl ⟨rfl, trivial⟩ rfl) ?_ | refine callK_r (EvR.fr [_] eK rfl rfl ⟨rfl, trivial⟩ rfl) ?_ | refine callM_l (LEv.fr [_] eK rfl rfl ⟨rfl, trivial⟩ rfl rfl) ?_ | refine callK_rf rfl (EvR.fr [_] eK rfl rfl ⟨rfl, trivial⟩ rfl) ?_ | refine callK_p L14_alive_ok ?_ | refine callM_p L14_alive_ok rfl ?_ | refine callK_pf rfl L14_alive_ok ?_ | refine brP_mk (fun h => ?_) (fun h => ?_) | fail) <;> conv => whnf)
      rfl
end Go.Ab.S
