/- Part of a proof; no condition. -/
import Derived.Test.YteipepbijfdciaaVerV4
set_option linter.unusedSimpArgs false
set_option linter.unusedVariables false
namespace Go.Ab.S
open Go Go.Ab Go.Proofs
attribute [local irreducible] SemS
set_option maxRecDepth 100000
theorem Of_range_ok (e : Int) (es : List (List PV)) (h : epB e = false) : EvR PR G f_version_Of [iv e, slv es] ⟨[], []⟩ (.tup [.c .nilp, iv 8]) ⟨[], []⟩ := by
  have he := version_epoch_ok e
  rw [h] at he
  refine EvR.of_wpf false false hm c_version_Of rfl ?_
  conv => whnf
  repeat' ((first | refine brP_t (by assumption) ?_ | refine brP_f (by assumption) ?_ | refine brP_t (decide_eq_true (by omega)) ?_ | refine brP_f (decide_eq_false (by omega)) ?_ | refine brP_t (nd_t (by omega)) ?_ | refine brP_f (nd_f (by omega)) ?_ | refine callK_p he ?_ | refine callM_p he rfl ?_ | refine callK_pf rfl he ?_ | refine brP_mk (fun h => ?_) (fun h => ?_) | fail) <;> conv => whnf)
  exact ⟨rfl, rfl⟩
theorem Of_form_ok (e : Int) (es : List (List PV)) (h : epB e = true) (hn : (es.length : Int) ≠ keptN e) : EvR PR G f_version_Of [iv e, slv es] ⟨[], []⟩ (.tup [.c .nilp, iv 3]) ⟨[], []⟩ := by
  have he := version_epoch_ok e
  rw [h] at he
  refine EvR.of_wpf false false hm c_version_Of rfl ?_
  conv => whnf
  repeat' ((first | refine brP_t (by assumption) ?_ | refine brP_f (by assumption) ?_ | refine brP_t (decide_eq_true (by omega)) ?_ | refine brP_f (decide_eq_false (by omega)) ?_ | refine brP_t (nd_t (by omega)) ?_ | refine brP_f (nd_f (by omega)) ?_ | refine callK_p he ?_ | refine callM_p he rfl ?_ | refine callK_pf rfl he ?_ | refine callK_p (version_Kept_ok e) ?_ | refine callM_p (version_Kept_ok e) rfl ?_ | refine callK_pf rfl (version_Kept_ok e) ?_ | refine brP_mk (fun h => ?_) (fun h => ?_) | fail) <;> conv => whnf)
  exact ⟨rfl, rfl⟩
theorem Of_ok (e : Int) (es : List (List PV)) (h : epB e = true) (hn : (es.length : Int) = keptN e) (hz : ∀ r ∈ es, Pok r) : EvR PR G f_version_Of [iv e, slv es] ⟨[], []⟩ (.tup [.c (.ptr (.loc 1) 0), iv 0]) ⟨[], [.arr 66 true es, stB e es]⟩ := by
  have he := version_epoch_ok e
  rw [h] at he
  have hl : es.length ≤ 1000 := by
    unfold keptN at hn
    repeat' split at hn
    all_goals omega
  refine EvR.weakR (H' := ⟨[], [.arr 66 false es, .mrow [.p (.int .i64 e), .os (.loc 0) es.length]]⟩) ?_ (Weak.row (id := .loc 1) (H1 := ⟨[], [.arr 66 true es, .mrow [.p (.int .i64 e), .os (.loc 0) es.length]]⟩) (cs' := [.p (.int .i64 e), .p (.sl es)]) (vs := [.int .i64 e, .sl es]) rfl ?_ rfl rfl)
  · refine EvR.of_wpf false false hm c_version_Of rfl ?_
    conv => whnf
    repeat' ((first | refine brP_t (by assumption) ?_ | refine brP_f (by assumption) ?_ | refine brP_t (decide_eq_true (by omega)) ?_ | refine brP_f (decide_eq_false (by omega)) ?_ | refine brP_t (nd_t (by omega)) ?_ | refine brP_f (nd_f (by omega)) ?_ | refine callK_p he ?_ | refine callM_p he rfl ?_ | refine callK_pf rfl he ?_ | refine callK_p (version_Kept_ok e) ?_ | refine callM_p (version_Kept_ok e) rfl ?_ | refine callK_pf rfl (version_Kept_ok e) ?_ | refine callK_r (EvR.fr [] (clone66 hl hz) rfl rfl trivial rfl) ?_ | refine callM_l (LEv.fr [] (clone66 hl hz) rfl rfl trivial rfl rfl) ?_ | refine callK_rf rfl (EvR.fr [] (clone66 hl hz) rfl rfl trivial rfl) ?_ | refine brP_mk (fun h => ?_) (fun h => ?_) | fail) <;> conv => whnf)
    exact ⟨rfl, rfl⟩
  · show some (true && (decide (es.length = es.length) && true), _, _) = _
    rw [decide_eq_true rfl]; rfl
def numL (l : List Nat) : List (List PV) := l.map numN
theorem numL_ok {l : List Nat} : ∀ r ∈ numL l, Pok r := by
  intro r hr
  obtain ⟨n, _, rfl⟩ := List.mem_map.1 hr
  exact num_ok n
theorem numL_len {l : List Nat} : (numL l).length = l.length := by simp [numL]
theorem numL_succ {l : List Nat} {i : Nat} (h : i < l.length) : numL (l.take (i + 1)) = numL (l.take i) ++ [numN l[i]] := by
  rw [List.take_succ_eq_append_getElem h, numL, List.map_append]; rfl
theorem of_ok (e : Int) (l : List Nat) (hu : ∀ n ∈ l, n < 65536) (ask : Int) : EvP PR G f_L14_VersionOf [iv e, slv (urows l), iv ask] (bv true) := by
  have hlen : (urows l).length = l.length := by simp [urows]
  refine EvP.of_wpf false hm c_L14_VersionOf rfl ?_
  refine wpf_seq1 ?_
  conv => whnf
  refine wpfS_seq1 ?_
  conv => whnf
  by_cases h40 : 40 < l.length
  · repeat' ((first | refine brP_t (by assumption) ?_ | refine brP_f (by assumption) ?_ | refine brP_t (decide_eq_true (by omega)) ?_ | refine brP_f (decide_eq_false (by omega)) ?_ | refine brP_t (nd_t (by omega)) ?_ | refine brP_f (nd_f (by omega)) ?_ | ((rw [hlen])) | refine callK_p L14_alive_ok ?_ | refine callM_p L14_alive_ok rfl ?_ | refine callK_pf rfl L14_alive_ok ?_ | refine brP_mk (fun h => ?_) (fun h => ?_) | fail) <;> conv => whnf)
    rfl
  repeat' ((first | refine brP_t (by assumption) ?_ | refine brP_f (by assumption) ?_ | refine brP_t (decide_eq_true (by omega)) ?_ | refine brP_f (decide_eq_false (by omega)) ?_ | refine brP_t (nd_t (by omega)) ?_ | refine brP_f (nd_f (by omega)) ?_ | ((rw [hlen])) | refine brP_mk (fun h => ?_) (fun h => ?_) | fail) <;> conv => whnf)
  refine wpfS_seq1 ?_
  conv => whnf
  refine wpfS_seq1 ?_
  conv => whnf
  refine SemS.nilT 7 66 (by omega) rfl ?_
  refine SemS.loopF false hm (σ := Nat) (fun i => [(0, iv e), (1, slv (urows l)), (2, iv ask), (7, .c (.os (.loc 0) i)), (8, iv i)]) (fun i => ⟨[], [.arr 66 false (numL (l.take i))]⟩) (fun i => l.length - i) (fun i => i ≤ l.length) 0 (Nat.zero_le _) ⟨rfl, rfl, rfl, rfl, rfl, trivial⟩ rfl ?_
  intro i hi
  conv => whnf
  rw [hlen]
  refine brP_mk (fun h => ?_) (fun h => ?_)
  · have hi' : i < l.length := by have := of_decide_eq_true h; omega
    clear h
    have hget := urows_get hi'
    have hn : l[i] < 65536 := hu _ (List.getElem_mem hi')
    have hw2 : IntKind.i64.wrap ((i : Int) + 1) = ((i + 1 : Nat) : Int) := by rw [wrap64 (by omega)]; rfl
    have hw3 : IntKind.i64.wrap ((l[i] : Nat) : Int) = ((l[i] : Nat) : Int) := wrap64 (by omega)
    have hs := numL_succ hi'
    have hll : (numL (l.take i)).length = i := by rw [numL_len, List.length_take]; omega
    have hpl := (num_ok l[i]).len
    generalize l[i] = n at *
    conv => whnf
    repeat' ((first | refine brP_t (by assumption) ?_ | refine brP_f (by assumption) ?_ | refine brP_t (decide_eq_true (by omega)) ?_ | refine brP_f (decide_eq_false (by omega)) ?_ | refine brP_t (nd_t (by omega)) ?_ | refine brP_f (nd_f (by omega)) ?_ | ((conv in (opS _ _ _ _) => whnf); rw [Int.toNat_natCast, hget]) | ((rw [hw3])) | refine callK_p (number_ok n hn) ?_ | refine callM_p (number_ok n hn) rfl ?_ | refine callK_pf rfl (number_ok n hn) ?_ | (refine gd_mk ?_ ?_; focus (simp [hpl]; done)) | (refine gd_mk ?_ ?_; focus (simp [hpl, hll]; omega; done)) | fail) <;> conv => whnf)
    rw [hw2, ← hs]
    exact ⟨i + 1, hi', (show l.length - (i + 1) < l.length - i by omega), ⟨rfl, rfl, rfl, rfl, rfl, trivial⟩, rfl⟩
  · have hi' : i = l.length := by have := of_decide_eq_false h; omega
    subst hi'
    clear h hi
    rw [List.take_length]
    have hll := numL_len (l := l)
    have hge : 0 ≤ keptN e ∧ keptN e ≤ 8 := by
      unfold keptN
      repeat' split
      all_goals omega
    have hfz : freezeAs ⟨[], [.arr 66 false (numL l)]⟩ [iv e, .c (.os (.loc 0) l.length)] = some (true, [iv e, slv (numL l)], ⟨[], [.arr 66 true (numL l)]⟩) := by
      show some (true && (decide (l.length = (numL l).length) && true), _, _) = _
      rw [decide_eq_true hll.symm]; rfl
    cases hb : epB e with
    | false =>
      have hk : keptN e = 0 := by
        have := of_decide_eq_false hb
        unfold keptN
        rw [if_pos (by omega)]
      have eO := Of_range_ok e (numL l) hb
      conv => whnf
      refine wpfS_seq1 ?_
      conv => whnf
      repeat' ((first | refine brP_t (by assumption) ?_ | refine brP_f (by assumption) ?_ | refine brP_t (decide_eq_true (by omega)) ?_ | refine brP_f (decide_eq_false (by omega)) ?_ | refine brP_t (nd_t (by omega)) ?_ | refine brP_f (nd_f (by omega)) ?_ | refine callK_rf hfz (EvR.fr [] eO rfl rfl trivial rfl) ?_ | refine callK_p (R14_Kept_ok e) ?_ | refine callM_p (R14_Kept_ok e) rfl ?_ | refine callK_pf rfl (R14_Kept_ok e) ?_ | refine callK_p (version_Kept_ok e) ?_ | refine callM_p (version_Kept_ok e) rfl ?_ | refine callK_pf rfl (version_Kept_ok e) ?_ | refine callK_p L14_alive_ok ?_ | refine callM_p L14_alive_ok rfl ?_ | refine callK_pf rfl L14_alive_ok ?_ | ((rw [hk])) | refine wpfS_go ?_ | refine brP_mk (fun h => ?_) (fun h => ?_) | fail) <;> conv => whnf)
      rfl
    | true =>
      have hk : 0 < keptN e := by
        have := of_decide_eq_true hb
        unfold keptN
        repeat' split
        all_goals omega
      have hfz2 : freezeAs ⟨[], [.arr 66 true (numL l), stB e (numL l)]⟩ [iv e, .c (.os (.loc 0) l.length)] = some (true, [iv e, slv (numL l)], ⟨[], [.arr 66 true (numL l), stB e (numL l)]⟩) := by
        show some (true && (decide (l.length = (numL l).length) && true), _, _) = _
        rw [decide_eq_true hll.symm]; rfl
      by_cases hn : ((numL l).length : Int) = keptN e
      · have hn2 : (l.length : Int) = keptN e := by rw [← hn, hll]
        have eO := Of_ok e (numL l) hb hn numL_ok
        have heb := of_decide_eq_true hb
        have hpos : 0 < (numL l).length := by omega
        have eA := Store_At_ok e (numL l) hpos numL_ok (by omega) (by omega) ask
        have eR := R14_At_ok e (numL l) numL_ok (by omega) (.inr ⟨hn, by omega⟩) ask
        have eE := Store_Epoch_ok e (numL l) hpos
        have eK := Store_KeptF_ok e (numL l) hpos numL_ok (by omega)
        have eS := R14_Same_ok (numL l) numL_ok (by omega)
        have hl2 : ((numL l).length : Int) ≤ e + 1 ∧ (8 ≤ e → 8 = ((numL l).length : Int)) ∧ (e < 8 → ((numL l).length : Int) = e + 1) := by
          unfold keptN at hn
          rw [if_neg (by omega)] at hn
          split at hn <;> omega
        have hat : atV e (numL l) ask = ratV e (numL l) ask := by
          unfold atV ratV
          by_cases c1 : ask < 0 ∨ e < ask
          · rw [if_pos c1, if_pos c1]
          · rw [if_neg c1, if_neg c1]
            by_cases c2 : ask ≤ e - 8
            · rw [if_pos c2, if_pos (by omega)]
            · rw [if_neg c2, if_neg (by omega)]
              congr 4
              omega
        rw [hat] at eA
        obtain ⟨p, x, hp, hpx⟩ : ∃ p x, Pok p ∧ ratV e (numL l) ask = .tup [.agg p, iv x] := by
          unfold ratV
          split
          · exact ⟨_, _, zero_ok, rfl⟩
          · split
            · exact ⟨_, _, zero_ok, rfl⟩
            · refine ⟨_, _, numL_ok _ (?_ : (numL l).getD ((numL l).length - 1 - e + ask).toNat [] ∈ numL l), rfl⟩
              rw [List.getD_eq_getElem?_getD, List.getElem?_eq_getElem (by omega)]
              exact List.getElem_mem _
        rw [hpx] at eA eR
        have hself : ∀ ks, ks = polK → eqCells ks (List.take 66 (List.drop 0 p)) (List.take 66 (List.drop 0 p)) = some true := by
          intro ks e
          rw [td hp.len]
          exact eqCells_self hp e
        have hput : ∀ z : List PV, z.length = 66 → putAt z 0 p = p := fun z hz => put_all (by rw [hz, hp.len])
        have fz : ∀ more : List Blk, freezeC ⟨[], .arr 66 true (numL l) :: more⟩ (.os (.loc 0) l.length) = some (true, .p (.sl (numL l)), ⟨[], .arr 66 true (numL l) :: more⟩) := by
          intro more
          show some (decide (l.length = (numL l).length), _, _) = _
          rw [decide_eq_true hll.symm]; rfl
        have fz3 : ∀ more : List Blk, freezeAs ⟨[], .arr 66 true (numL l) :: more⟩ [.mg [.p (.int .i64 e), .os (.loc 0) l.length], iv ask] = some (true, [rs e (numL l), iv ask], ⟨[], .arr 66 true (numL l) :: more⟩) := by
          intro more
          show some ((true && (decide (l.length = (numL l).length) && true)) && (true && true), _, _) = _
          rw [decide_eq_true hll.symm]; rfl
        have fz4 : ∀ more : List Blk, freezeAs ⟨[], .arr 66 true (numL l) :: more⟩ [slv (numL l), .c (.os (.loc 0) l.length)] = some (true, [slv (numL l), slv (numL l)], ⟨[], .arr 66 true (numL l) :: more⟩) := by
          intro more
          show some (true && (decide (l.length = (numL l).length) && true), _, _) = _
          rw [decide_eq_true hll.symm]; rfl
        conv => whnf
        refine wpfS_go ?_
        conv => whnf
        repeat' ((first | refine brP_t (by assumption) ?_ | refine brP_f (by assumption) ?_ | refine brP_t (decide_eq_true (by omega)) ?_ | refine brP_f (decide_eq_false (by omega)) ?_ | refine brP_t (nd_t (by omega)) ?_ | refine brP_f (nd_f (by omega)) ?_ | ((rw [hput]; rotate_left; rfl)) | refine callK_rf hfz (EvR.fr [] eO rfl rfl trivial rfl) ?_ | refine callK_p (R14_Kept_ok e) ?_ | refine callM_p (R14_Kept_ok e) rfl ?_ | refine callK_pf rfl (R14_Kept_ok e) ?_ | refine callK_p (version_Kept_ok e) ?_ | refine callM_p (version_Kept_ok e) rfl ?_ | refine callK_pf rfl (version_Kept_ok e) ?_ | refine callK_p L14_alive_ok ?_ | refine callM_p L14_alive_ok rfl ?_ | refine callK_pf rfl L14_alive_ok ?_ | refine callK_r (EvR.fr [_] eA rfl rfl ⟨rfl, trivial⟩ rfl) ?_ | refine callM_l (LEv.fr [_] eA rfl rfl ⟨rfl, trivial⟩ rfl rfl) ?_ | refine callK_rf rfl (EvR.fr [_] eA rfl rfl ⟨rfl, trivial⟩ rfl) ?_ | refine callK_r (EvR.fr [_] eE rfl rfl ⟨rfl, trivial⟩ rfl) ?_ | refine callM_l (LEv.fr [_] eE rfl rfl ⟨rfl, trivial⟩ rfl rfl) ?_ | refine callK_rf rfl (EvR.fr [_] eE rfl rfl ⟨rfl, trivial⟩ rfl) ?_ | refine callK_r (EvR.fr [_] eK rfl rfl ⟨rfl, trivial⟩ rfl) ?_ | refine callM_l (LEv.fr [_] eK rfl rfl ⟨rfl, trivial⟩ rfl rfl) ?_ | refine callK_rf rfl (EvR.fr [_] eK rfl rfl ⟨rfl, trivial⟩ rfl) ?_ | refine callK_pf (fz3 _) eR ?_ | refine callK_pf (fz4 _) eS ?_ | (refine gd_mk ?_ ?_; focus (simp [hp.len]; done)) | ((conv in (eqS _ _ _) => whnf); rw [hself _ (by rfl)]) | refine wpfS_go ?_ | refine brP_mk (fun h => ?_) (fun h => ?_) | fail) <;> conv => whnf)
        rfl
      · have eO := Of_form_ok e (numL l) hb hn
        rw [hll] at hn
        conv => whnf
        refine wpfS_go ?_
        conv => whnf
        repeat' ((first | refine brP_t (by assumption) ?_ | refine brP_f (by assumption) ?_ | refine brP_t (decide_eq_true (by omega)) ?_ | refine brP_f (decide_eq_false (by omega)) ?_ | refine brP_t (nd_t (by omega)) ?_ | refine brP_f (nd_f (by omega)) ?_ | refine callK_rf hfz (EvR.fr [] eO rfl rfl trivial rfl) ?_ | refine callK_p (R14_Kept_ok e) ?_ | refine callM_p (R14_Kept_ok e) rfl ?_ | refine callK_pf rfl (R14_Kept_ok e) ?_ | refine callK_p (version_Kept_ok e) ?_ | refine callM_p (version_Kept_ok e) rfl ?_ | refine callK_pf rfl (version_Kept_ok e) ?_ | refine callK_p L14_alive_ok ?_ | refine callM_p L14_alive_ok rfl ?_ | refine callK_pf rfl L14_alive_ok ?_ | (refine brP_t ?_ ?_; focus (rw [decide_eq_false (show ¬ keptN e = 0 by omega)]; rfl; done)) | refine wpfS_go ?_ | refine brP_mk (fun h => ?_) (fun h => ?_) | fail) <;> conv => whnf)
        rfl
end Go.Ab.S
