/- Part of a proof; no condition. -/
import Derived.Test.YteipepbijfdciaaVerV3
set_option linter.unusedSimpArgs false
set_option linter.unusedVariables false
namespace Go.Ab.S
open Go Go.Ab Go.Proofs
attribute [local irreducible] SemS
set_option maxRecDepth 100000
def urows (l : List Nat) : List (List PV) := l.map fun n => [.int .u16 (n : Nat)]
def irows (l : List Int) : List (List PV) := l.map fun n => [.int .i64 n]
theorem urows_get {l : List Nat} {i : Nat} (h : i < l.length) : (urows l)[i]? = some [.int .u16 (l[i] : Nat)] := by
  rw [urows, List.getElem?_map, List.getElem?_eq_getElem h]; rfl
theorem irows_get {l : List Int} {i : Nat} (h : i < l.length) : (irows l)[i]? = some [.int .i64 l[i]] := by
  rw [irows, List.getElem?_map, List.getElem?_eq_getElem h]; rfl
/-- All policies so far, and the kept ones. -/
def polL (z : Nat) (l : List Nat) : List (List PV) := numN z :: l.map numN
def allL (z : Nat) (l : List Nat) (i : Nat) : List (List PV) := (polL z l).take (min i 255 + 1)
def kpL (z : Nat) (l : List Nat) (i : Nat) : List (List PV) := (allL z l i).drop (min i 255 + 1 - 8)
def epL (i : Nat) : Int := (min i 255 : Nat)
section
variable {z : Nat} {l : List Nat} {i : Nat}
theorem pol_ok : ∀ r ∈ polL z l, Pok r := by
  intro r hr
  rcases List.mem_cons.1 hr with rfl | hr
  · exact num_ok z
  · obtain ⟨n, _, rfl⟩ := List.mem_map.1 hr; exact num_ok n
theorem all_ok : ∀ r ∈ allL z l i, Pok r := fun r hr => pol_ok r (List.mem_of_mem_take hr)
theorem kp_ok : ∀ r ∈ kpL z l i, Pok r := fun r hr => all_ok r (List.mem_of_mem_drop hr)
theorem all_len (h : i ≤ l.length) : (allL z l i).length = min i 255 + 1 := by
  simp [allL, polL]; omega
theorem kp_len (h : i ≤ l.length) : (kpL z l i).length = min i 255 + 1 - (min i 255 + 1 - 8) := by
  rw [kpL, List.length_drop, all_len h]
theorem all_succ (h : i < l.length) (h2 : i < 255) : allL z l (i + 1) = allL z l i ++ [numN l[i]] := by
  have e1 : min (i + 1) 255 = i + 1 := by omega
  have e2 : min i 255 = i := by omega
  rw [allL, allL, e1, e2, List.take_succ_eq_append_getElem (by simp [polL]; omega)]
  simp [polL]
theorem all_full (h2 : ¬ i < 255) : allL z l (i + 1) = allL z l i := by
  have e1 : min (i + 1) 255 = 255 := by omega
  have e2 : min i 255 = 255 := by omega
  rw [allL, allL, e1, e2]
theorem kp_succ (h : i < l.length) (h2 : i < 255) : keptL (kpL z l i) (numN l[i]) = kpL z l (i + 1) := by
  have hl := kp_len (z := z) (Nat.le_of_lt h)
  have hl2 := all_len (z := z) (Nat.le_of_lt h)
  have e1 : min (i + 1) 255 = i + 1 := by omega
  have e2 : min i 255 = i := by omega
  rw [keptL, hl]
  rw [kpL, kpL, all_succ h h2, List.drop_drop, e1, e2, List.drop_append_of_le_length (by rw [hl2, e2]; omega)]
  congr 2
  omega
theorem kp_full (h2 : ¬ i < 255) : kpL z l (i + 1) = kpL z l i := by
  have e1 : min (i + 1) 255 = 255 := by omega
  have e2 : min i 255 = 255 := by omega
  rw [kpL, kpL, all_full h2, e1, e2]
theorem ep_succ (h2 : i < 255) : epL i + 1 = epL (i + 1) := by unfold epL; omega
theorem ep_full (h2 : ¬ i < 255) : epL i = 255 ∧ epL (i + 1) = 255 := by unfold epL; omega
theorem at_eq (h : i ≤ l.length) (k : Int) : atV (epL i) (kpL z l i) k = ratV (epL i) (allL z l i) k := by
  have h1 := all_len (z := z) h
  have h2 := kp_len (z := z) h
  unfold atV ratV
  by_cases c1 : k < 0 ∨ epL i < k
  · rw [if_pos c1, if_pos c1]
  · rw [if_neg c1, if_neg c1]
    have he : epL i = (min i 255 : Nat) := rfl
    by_cases c2 : k ≤ epL i - 8
    · rw [if_pos c2, if_pos (by omega)]
    · rw [if_neg c2, if_neg (by omega)]
      congr 3
      have h3 : (List.drop (min i 255 + 1 - 8) (allL z l i)).length = min i 255 + 1 - (min i 255 + 1 - 8) := h2
      rw [kpL, List.getD_eq_getElem?_getD, List.getElem?_drop, ← List.getD_eq_getElem?_getD]
      congr 1
      omega
theorem list_eq (h : i ≤ l.length) : (allL z l i).drop ((allL z l i).length - (keptN (epL i)).toNat) = kpL z l i := by
  rw [kpL, all_len h]
  congr 1
  have he : epL i = (min i 255 : Nat) := rfl
  unfold keptN
  split
  · omega
  · split <;> omega
theorem kp_pos (h : i ≤ l.length) : 0 < (kpL z l i).length := by rw [kp_len h]; omega
theorem ep_le : 0 ≤ epL i ∧ epL i ≤ 255 := by unfold epL; omega
theorem kept_le (h : i ≤ l.length) : 0 ≤ keptN (epL i) ∧ keptN (epL i) ≤ (allL z l i).length := by
  rw [all_len h]
  have he : epL i = (min i 255 : Nat) := rfl
  unfold keptN
  split
  · omega
  · split <;> omega
theorem now_eq (h : i ≤ l.length) : (allL z l i)[min i 255]? = some ((kpL z l i).getLastD []) := by
  have h1 := all_len (z := z) h
  have h2 := kp_len (z := z) h
  rw [List.getLastD_eq_getLast?, List.getLast?_eq_getElem?, kpL, List.getElem?_drop]
  rw [← kpL, h2]
  have : min i 255 + 1 - 8 + (min i 255 + 1 - (min i 255 + 1 - 8) - 1) = min i 255 := by omega
  rw [this, List.getElem?_eq_getElem (by omega)]
  rfl
end
/-- The reference store's block. -/
def rsB (e : Int) (es : List (List PV)) : Blk := .row [.int .i64 e, .sl es]
theorem Store_KeptF_ok (e : Int) (es : List (List PV)) (h0 : 0 < es.length) (hz : ∀ r ∈ es, Pok r) (hl : es.length ≤ 1000) : EvR PR G f_version_Store_Kept [.c (.ptr (.par 0) 0)] ⟨[stB e es], []⟩ (slv es) ⟨[stB e es], []⟩ := by
  refine EvR.drop (H' := ⟨[stB e es], [.arr 66 true es]⟩) (EvR.frz (Store_Kept_ok e es h0 hz hl) ?_) rfl rfl rfl
  show some (decide (es.length = es.length), _, _) = _
  rw [decide_eq_true rfl]; rfl
theorem plays_ok (l : List Nat) (hu : ∀ n ∈ l, n < 65536) (ask : List Int) : EvP PR G f_L14_VersionPlays [slv (urows l), slv (irows ask)] (bv true) := by
  have hlen : (urows l).length = l.length := by simp [urows]
  have hlen2 : (irows ask).length = ask.length := by simp [irows]
  refine EvP.of_wpf false hm c_L14_VersionPlays rfl ?_
  refine wpf_seq1 ?_
  conv => whnf
  refine wpfS_seq1 ?_
  conv => whnf
  by_cases hbig : l.length > 300 ∨ ask.length > 100
  · by_cases h1 : l.length > 300
    · repeat' ((first | refine brP_t (by assumption) ?_ | refine brP_f (by assumption) ?_ | refine brP_t (decide_eq_true (by omega)) ?_ | refine brP_f (decide_eq_false (by omega)) ?_ | refine brP_t (nd_t (by omega)) ?_ | refine brP_f (nd_f (by omega)) ?_ | ((rw [hlen])) | ((rw [hlen2])) | refine callK_p L14_alive_ok ?_ | refine callM_p L14_alive_ok rfl ?_ | refine callK_pf rfl L14_alive_ok ?_ | refine brP_mk (fun h => ?_) (fun h => ?_) | fail) <;> conv => whnf)
      rfl
    · repeat' ((first | refine brP_t (by assumption) ?_ | refine brP_f (by assumption) ?_ | refine brP_t (decide_eq_true (by omega)) ?_ | refine brP_f (decide_eq_false (by omega)) ?_ | refine brP_t (nd_t (by omega)) ?_ | refine brP_f (nd_f (by omega)) ?_ | ((rw [hlen])) | ((rw [hlen2])) | refine callK_p L14_alive_ok ?_ | refine callM_p L14_alive_ok rfl ?_ | refine callK_pf rfl L14_alive_ok ?_ | refine brP_mk (fun h => ?_) (fun h => ?_) | fail) <;> conv => whnf)
      rfl
  have h300 : l.length ≤ 300 := by omega
  have h100 : ask.length ≤ 100 := by omega
  clear hbig
  repeat' ((first | refine brP_t (by assumption) ?_ | refine brP_f (by assumption) ?_ | refine brP_t (decide_eq_true (by omega)) ?_ | refine brP_f (decide_eq_false (by omega)) ?_ | refine brP_t (nd_t (by omega)) ?_ | refine brP_f (nd_f (by omega)) ?_ | ((rw [hlen])) | ((rw [hlen2])) | refine brP_mk (fun h => ?_) (fun h => ?_) | fail) <;> conv => whnf)
  refine wpfS_seq1 ?_
  conv => whnf
  repeat' ((first | refine brP_t (by assumption) ?_ | refine brP_f (by assumption) ?_ | refine brP_t (decide_eq_true (by omega)) ?_ | refine brP_f (decide_eq_false (by omega)) ?_ | refine brP_t (nd_t (by omega)) ?_ | refine brP_f (nd_f (by omega)) ?_ | refine callK_p (number_ok 7 (by omega)) ?_ | refine callM_p (number_ok 7 (by omega)) rfl ?_ | refine callK_pf rfl (number_ok 7 (by omega)) ?_ | refine callK_r (EvR.fr [] (version_New_ok _ (num_ok 7)) rfl rfl trivial rfl) ?_ | refine callM_l (LEv.fr [] (version_New_ok _ (num_ok 7)) rfl rfl trivial rfl rfl) ?_ | refine callK_rf rfl (EvR.fr [] (version_New_ok _ (num_ok 7)) rfl rfl trivial rfl) ?_ | refine brP_mk (fun h => ?_) (fun h => ?_) | fail) <;> conv => whnf)
  refine wpfS_seq1 ?_
  conv => whnf
  repeat' ((first | refine brP_t (by assumption) ?_ | refine brP_f (by assumption) ?_ | refine brP_t (decide_eq_true (by omega)) ?_ | refine brP_f (decide_eq_false (by omega)) ?_ | refine brP_t (nd_t (by omega)) ?_ | refine brP_f (nd_f (by omega)) ?_ | refine callK_p (number_ok 7 (by omega)) ?_ | refine callM_p (number_ok 7 (by omega)) rfl ?_ | refine callK_pf rfl (number_ok 7 (by omega)) ?_ | (refine gd_mk ?_ ?_; focus (simp [(num_ok 7).len]; done)) | refine brP_mk (fun h => ?_) (fun h => ?_) | fail) <;> conv => whnf)
  refine wpfS_seq1 ?_
  conv => whnf
  repeat' ((first | refine brP_t (by assumption) ?_ | refine brP_f (by assumption) ?_ | refine brP_t (decide_eq_true (by omega)) ?_ | refine brP_f (decide_eq_false (by omega)) ?_ | refine brP_t (nd_t (by omega)) ?_ | refine brP_f (nd_f (by omega)) ?_ | fail) <;> conv => whnf)
  refine wpfS_seq1 ?_
  conv => whnf
  have h7 : (numN 7).length = 66 := (num_ok 7).len
  refine SemS.weak (Weak.row (id := .loc 2) (H1 := ⟨[], [.row (numN 7), stB 0 [numN 7], .mrow [.p (.int .i64 0), .ti [numN 7]]]⟩) (cs' := [.p (.int .i64 0), .p (.sl [numN 7])]) (vs := [.int .i64 0, .sl [numN 7]]) rfl rfl rfl rfl) ?_
  refine SemS.loopC false hm (σ := Nat) (fun i => [(0, slv (urows l)), (1, slv (irows ask)), (5, .c (.ptr (.loc 1) 0)), (6, .c (.ptr (.loc 2) 0)), (7, iv i)]) (fun i => ⟨[], [.row (numN 7), stB (epL i) (kpL 7 l i), rsB (epL i) (allL 7 l i)]⟩) (fun i => l.length - i) (fun i => i ≤ l.length) 0 (Nat.zero_le _) ⟨rfl, rfl, rfl, rfl, rfl, trivial⟩ rfl ?_
  intro i hi
  conv => whnf
  rw [hlen]
  refine brP_mk (fun h => ?_) (fun h => ?_)
  · have hi' : i < l.length := by have := of_decide_eq_true h; omega
    clear h
    have hget := urows_get hi'
    have hn : l[i] < 65536 := hu _ (List.getElem_mem hi')
    have hw2 : IntKind.i64.wrap ((i : Int) + 1) = ((i + 1 : Nat) : Int) := by rw [wrap64 (by omega)]; rfl
    have hw3 : IntKind.i64.wrap ((l[i] : Nat) : Int) = ((l[i] : Nat) : Int) := wrap64 (by omega)
    by_cases h255 : i < 255
    · have s1 := all_succ (z := 7) hi' h255
      have s2 := kp_succ (z := 7) hi' h255
      have s3 := ep_succ (i := i) h255
      have hep : epL i = (min i 255 : Nat) := rfl
      have eC := R14_Commit_ok (epL i) (allL 7 l i) (by omega) all_ok (by rw [all_len hi]; omega) (numN l[i]) (num_ok _)
      rw [← s1, s3] at eC
      have eS := Store_Commit_ok (epL i) (kpL 7 l i) (kp_pos hi) kp_ok (by omega) (by rw [kp_len hi]; omega) (numN l[i]) (num_ok _)
      rw [s2, s3] at eS
      have eE := Store_Epoch_ok (epL (i + 1)) (kpL 7 l (i + 1)) (kp_pos hi')
      generalize l[i] = n at *
      conv => whnf
      repeat' ((first | refine brP_t (by assumption) ?_ | refine brP_f (by assumption) ?_ | refine brP_t (decide_eq_true (by omega)) ?_ | refine brP_f (decide_eq_false (by omega)) ?_ | refine brP_t (nd_t (by omega)) ?_ | refine brP_f (nd_f (by omega)) ?_ | ((conv in (opM _ _ _ _ _) => whnf); (conv in (opS _ _ _ _) => whnf); rw [Int.toNat_natCast, hget]) | ((rw [hw3])) | refine callK_p (number_ok n hn) ?_ | refine callM_p (number_ok n hn) rfl ?_ | refine callK_pf rfl (number_ok n hn) ?_ | refine callK_p eC ?_ | refine callM_p eC rfl ?_ | refine callK_pf rfl eC ?_ | refine callK_r (EvR.fr [_] eS rfl rfl ⟨rfl, trivial⟩ rfl) ?_ | refine callM_l (LEv.fr [_] eS rfl rfl ⟨rfl, trivial⟩ rfl rfl) ?_ | refine callK_rf rfl (EvR.fr [_] eS rfl rfl ⟨rfl, trivial⟩ rfl) ?_ | refine callK_r (EvR.fr [_] eE rfl rfl ⟨rfl, trivial⟩ rfl) ?_ | refine callM_l (LEv.fr [_] eE rfl rfl ⟨rfl, trivial⟩ rfl rfl) ?_ | refine callK_rf rfl (EvR.fr [_] eE rfl rfl ⟨rfl, trivial⟩ rfl) ?_ | refine brP_mk (fun h => ?_) (fun h => ?_) | fail) <;> conv => whnf)
      rw [hw2]
      exact ⟨i + 1, 3, hi', (show l.length - (i + 1) < l.length - i by omega), ⟨rfl, rfl, rfl, rfl, rfl, trivial⟩, Nat.le_refl 3, rfl, rfl, rfl⟩
    · have s1 := all_full (z := 7) (l := l) h255
      have s2 := kp_full (z := 7) (l := l) h255
      obtain ⟨s3, s4⟩ := ep_full (i := i) h255
      have eC := R14_Full_ok (allL 7 l i) (numN l[i])
      have eS := Store_Full_ok (kpL 7 l i) (kp_pos hi) (numN l[i])
      have eE := Store_Epoch_ok 255 (kpL 7 l i) (kp_pos hi)
      rw [s3]
      generalize l[i] = n at *
      conv => whnf
      repeat' ((first | refine brP_t (by assumption) ?_ | refine brP_f (by assumption) ?_ | refine brP_t (decide_eq_true (by omega)) ?_ | refine brP_f (decide_eq_false (by omega)) ?_ | refine brP_t (nd_t (by omega)) ?_ | refine brP_f (nd_f (by omega)) ?_ | ((conv in (opM _ _ _ _ _) => whnf); (conv in (opS _ _ _ _) => whnf); rw [Int.toNat_natCast, hget]) | ((rw [hw3])) | refine callK_p (number_ok n hn) ?_ | refine callM_p (number_ok n hn) rfl ?_ | refine callK_pf rfl (number_ok n hn) ?_ | refine callK_p eC ?_ | refine callM_p eC rfl ?_ | refine callK_pf rfl eC ?_ | refine callK_r (EvR.fr [_] eS rfl rfl ⟨rfl, trivial⟩ rfl) ?_ | refine callM_l (LEv.fr [_] eS rfl rfl ⟨rfl, trivial⟩ rfl rfl) ?_ | refine callK_rf rfl (EvR.fr [_] eS rfl rfl ⟨rfl, trivial⟩ rfl) ?_ | refine callK_r (EvR.fr [_] eE rfl rfl ⟨rfl, trivial⟩ rfl) ?_ | refine callM_l (LEv.fr [_] eE rfl rfl ⟨rfl, trivial⟩ rfl rfl) ?_ | refine callK_rf rfl (EvR.fr [_] eE rfl rfl ⟨rfl, trivial⟩ rfl) ?_ | refine brP_mk (fun h => ?_) (fun h => ?_) | fail) <;> conv => whnf)
      rw [hw2]
      refine ⟨i + 1, 3, hi', (show l.length - (i + 1) < l.length - i by omega), ⟨rfl, rfl, rfl, rfl, rfl, trivial⟩, Nat.le_refl 3, ?_, rfl, rfl⟩
      show _ = (⟨[], [.row (numN 7), stB (epL (i + 1)) (kpL 7 l (i + 1)), rsB (epL (i + 1)) (allL 7 l (i + 1))]⟩ : Hp)
      rw [s1, s2, s4]
      rfl
  · have hi' : i = l.length := by have := of_decide_eq_false h; omega
    subst hi'
    clear h hi
    conv => whnf
    refine wpfS_seq1 ?_
    conv => whnf
    have hle := ep_le (i := l.length)
    have hpos := kp_pos (z := 7) (Nat.le_refl l.length)
    have hep : epL l.length = (min l.length 255 : Nat) := rfl
    have hkl : (kpL 7 l l.length).length ≤ 1000 := by rw [kp_len (Nat.le_refl _)]; omega
    have hal := all_len (z := 7) (Nat.le_refl l.length)
    refine SemS.loopC false hm (σ := Nat) (fun j => [(0, slv (urows l)), (1, slv (irows ask)), (5, .c (.ptr (.loc 1) 0)), (6, .c (.ptr (.loc 2) 0)), (10, iv j)]) (fun _ => ⟨[], [.row (numN 7), stB (epL l.length) (kpL 7 l l.length), rsB (epL l.length) (allL 7 l l.length)]⟩) (fun j => ask.length - j) (fun j => j ≤ ask.length) 0 (Nat.zero_le _) ⟨rfl, rfl, rfl, rfl, rfl, trivial⟩ rfl ?_
    intro j hj
    conv => whnf
    rw [hlen2]
    refine brP_mk (fun h => ?_) (fun h => ?_)
    · have hj' : j < ask.length := by have := of_decide_eq_true h; omega
      clear h
      have hget := irows_get hj'
      have hw2 : IntKind.i64.wrap ((j : Int) + 1) = ((j + 1 : Nat) : Int) := by rw [wrap64 (by omega)]; rfl
      have eA := Store_At_ok (epL l.length) (kpL 7 l l.length) hpos kp_ok (by omega) hkl ask[j]
      have eR := R14_At_ok (epL l.length) (allL 7 l l.length) all_ok (by omega) (by omega) ask[j]
      rw [at_eq (Nat.le_refl _)] at eA
      obtain ⟨p, x, hp, hpx⟩ : ∃ p x, Pok p ∧ ratV (epL l.length) (allL 7 l l.length) ask[j] = .tup [.agg p, iv x] := by
        unfold ratV
        split
        · exact ⟨_, _, zero_ok, rfl⟩
        · split
          · exact ⟨_, _, zero_ok, rfl⟩
          · refine ⟨_, _, all_ok _ (?_ : (allL 7 l l.length).getD ((allL 7 l l.length).length - 1 - epL l.length + ask[j]).toNat [] ∈ allL 7 l l.length), rfl⟩
            rw [List.getD_eq_getElem?_getD, List.getElem?_eq_getElem (by omega)]
            exact List.getElem_mem _
      rw [hpx] at eA eR
      generalize ask[j] = k at *
      have hself : ∀ ks, ks = polK → eqCells ks (List.take 66 (List.drop 0 p)) (List.take 66 (List.drop 0 p)) = some true := by
        intro ks e
        rw [td hp.len]
        exact eqCells_self hp e
      have hput : ∀ z : List PV, z.length = 66 → putAt z 0 p = p := fun z hz => put_all (by rw [hz, hp.len])
      conv => whnf
      repeat' ((first | refine brP_t (by assumption) ?_ | refine brP_f (by assumption) ?_ | refine brP_t (decide_eq_true (by omega)) ?_ | refine brP_f (decide_eq_false (by omega)) ?_ | refine brP_t (nd_t (by omega)) ?_ | refine brP_f (nd_f (by omega)) ?_ | ((rw [hput]; rotate_left; rfl)) | ((conv in (opM _ _ _ _ _) => whnf); (conv in (opS _ _ _ _) => whnf); rw [Int.toNat_natCast, hget]) | ((conv in (opS _ _ _ _) => whnf); rw [Int.toNat_natCast, hget]) | refine callK_r (EvR.fr [_] eA rfl rfl ⟨rfl, trivial⟩ rfl) ?_ | refine callM_l (LEv.fr [_] eA rfl rfl ⟨rfl, trivial⟩ rfl rfl) ?_ | refine callK_rf rfl (EvR.fr [_] eA rfl rfl ⟨rfl, trivial⟩ rfl) ?_ | refine callK_p eR ?_ | refine callM_p eR rfl ?_ | refine callK_pf rfl eR ?_ | (refine gd_mk ?_ ?_; focus (simp [hp.len]; done)) | ((conv in (eqS _ _ _) => whnf); rw [hself _ (by rfl)]) | refine brP_mk (fun h => ?_) (fun h => ?_) | fail) <;> conv => whnf)
      rw [hw2]
      exact ⟨j + 1, 3, hj', (show ask.length - (j + 1) < ask.length - j by omega), ⟨rfl, rfl, rfl, rfl, rfl, trivial⟩, Nat.le_refl 3, rfl, rfl, rfl⟩
    · clear h hj
      have eK := Store_KeptF_ok (epL l.length) (kpL 7 l l.length) hpos kp_ok hkl
      have eL := R14_List_ok (epL l.length) (allL 7 l l.length) all_ok (by omega) (kept_le (Nat.le_refl _))
      rw [list_eq (Nat.le_refl _)] at eL
      have eS := R14_Same_ok (kpL 7 l l.length) kp_ok hkl
      have eN := Store_Now_ok (epL l.length) (kpL 7 l l.length) hpos kp_ok (by omega) hkl
      have hget := now_eq (z := 7) (Nat.le_refl l.length)
      have hp : Pok ((kpL 7 l l.length).getLastD []) := all_ok _ (List.mem_of_getElem? hget)
      generalize (kpL 7 l l.length).getLastD [] = p at *
      have hself : ∀ ks, ks = polK → eqCells ks p (List.take 66 (List.drop 0 p)) = some true := by
        intro ks e
        rw [td hp.len]
        exact eqCells_self hp e
      have hw1 : IntKind.i64.wrap ((allL 7 l l.length).length - 1) = ((min l.length 255 : Nat) : Int) := by rw [hal, wrap64 (by omega)]; omega
      conv => whnf
      refine wpfS_go ?_
      conv => whnf
      repeat' ((first | refine brP_t (by assumption) ?_ | refine brP_f (by assumption) ?_ | refine brP_t (decide_eq_true (by omega)) ?_ | refine brP_f (decide_eq_false (by omega)) ?_ | refine brP_t (nd_t (by omega)) ?_ | refine brP_f (nd_f (by omega)) ?_ | refine callK_r (EvR.fr [_] eK rfl rfl ⟨rfl, trivial⟩ rfl) ?_ | refine callM_l (LEv.fr [_] eK rfl rfl ⟨rfl, trivial⟩ rfl rfl) ?_ | refine callK_rf rfl (EvR.fr [_] eK rfl rfl ⟨rfl, trivial⟩ rfl) ?_ | refine callK_p eL ?_ | refine callM_p eL rfl ?_ | refine callK_pf rfl eL ?_ | refine callK_p eS ?_ | refine callM_p eS rfl ?_ | refine callK_pf rfl eS ?_ | refine callK_r (EvR.fr [_] eN rfl rfl ⟨rfl, trivial⟩ rfl) ?_ | refine callM_l (LEv.fr [_] eN rfl rfl ⟨rfl, trivial⟩ rfl rfl) ?_ | refine callK_rf rfl (EvR.fr [_] eN rfl rfl ⟨rfl, trivial⟩ rfl) ?_ | refine callK_p L14_alive_ok ?_ | refine callM_p L14_alive_ok rfl ?_ | refine callK_pf rfl L14_alive_ok ?_ | ((conv in (opM _ _ _ _ _) => whnf); (conv in (opS _ _ _ _) => whnf); rw [hw1, Int.toNat_natCast, hget]) | (refine gd_mk ?_ ?_; focus (simp [hp.len]; omega; done)) | (refine gd_mk ?_ ?_; focus (simp [hp.len]; done)) | ((conv in (eqS _ _ _) => whnf); rw [hself _ (by rfl)]) | refine brP_mk (fun h => ?_) (fun h => ?_) | fail) <;> conv => whnf)
      rfl
end Go.Ab.S
