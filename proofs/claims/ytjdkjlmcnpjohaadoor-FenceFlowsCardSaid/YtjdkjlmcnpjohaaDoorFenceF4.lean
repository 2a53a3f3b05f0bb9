/- Part of a proof; no condition. -/
import Derived.Test.YtjdkjlmcnpjohaaDoorFenceF3
set_option linter.unusedSimpArgs false
set_option linter.unusedVariables false
namespace Go.Ab.S
open Go Go.Ab Go.Proofs
attribute [local irreducible] SemS
set_option maxRecDepth 100000
theorem L29_alive_ok : EvP PR G f_L29_alive [] (bv true) := EvP.of_isT R1_ok 12 rfl (by kernel_rfl)
theorem made_le (l : List (Int × Int)) : ∀ i, i < 16 → madeN l i ≤ 255 := fun i hi => by have := made_lt l i hi; omega
theorem anyC_ok (n : Nat) : 0 ≤ (anyC n).1 ∧ (anyC n).1 ≤ 4 := by
  have := anyL_ok _ (anyC_mem n)
  exact ⟨this.1, this.2.1⟩
theorem mapS_le (n : Nat) (t l : List (Int × Int)) : mapOk (mapS n t l) := by
  intro i hi
  unfold mapS
  split
  · show i ≤ 255; omega
  · have := someT_lt (madeN t) l i hi; omega
set_option maxHeartbeats 4000000 in
theorem fenceTells_ok (e n : Nat) (he : e < 256) (hn : n < 256) (total now : List (Int × Int)) (s i : Nat) (hs : s < 65536) (hi : i < 65536) (k m : Int) (o : Ob) (ho : o.Ok) : EvP PR G f_L29_FenceTells [seenV e n total now, idv s i k m, .agg o.row] (bv true) := by
  have hv := L29_views_ok e n he hn total now
  have hf := R21_Fine_ok s i k m
  have hp := anyC_ok n
  have hM := mapS_le n (total.take 20) (now.take 20)
  have hT : mapOk (madeN (total.take 20)) := made_le _
  have hE : 0 ≤ ((e % 255 : Nat) : Int) ∧ ((e % 255 : Nat) : Int) < 1000 := by omega
  generalize mapS n (total.take 20) (now.take 20) = M at *
  generalize madeN (total.take 20) = T at *
  generalize (anyC n).1 = p at *
  generalize (anyC n).2 = a at *
  generalize ((e % 255 : Nat) : Int) = ep at *
  refine EvP.of_wpf false hm c_L29_FenceTells rfl ?_
  refine wpf_seq1 ?_
  conv => whnf
  cases hb : idB k m with
  | false =>
    rw [hb] at hf
    repeat' ((first | refine brP_t (by assumption) ?_ | refine brP_f (by assumption) ?_ | refine brP_t (decide_eq_true (by omega)) ?_ | refine brP_f (decide_eq_false (by omega)) ?_ | refine brP_t (nd_t (by omega)) ?_ | refine brP_f (nd_f (by omega)) ?_ | refine callK_p hf ?_ | refine callM_p hf rfl ?_ | refine callK_pf rfl hf ?_ | refine callK_p L29_alive_ok ?_ | refine callM_p L29_alive_ok rfl ?_ | refine callK_pf rfl L29_alive_ok ?_ | refine wpfS_seq1 ?_ | refine wpfS_go ?_ | fail) <;> conv => whnf)
    rfl
  | true =>
    rw [hb] at hf
    have a1 := View_Label_ok ep p a M T hM hT s i hs hi k m
    have a2 := R29_Label_ok ep p a hp M T hM hT s i hs hi k m hb
    have b1 := View_Stamp_ok ep p a hE M T s i k m
    have b2 := R29_Stamp_ok ep p a hp hE M T s i k m hb
    have c1 := View_Name_ok ep p a M T hM hT s i hs hi k m
    have c2 := R29_Name_ok ep p a hp M T hM hT s i hs hi k m hb
    have d1 := View_Process_ok ep p a M T hM o ho.ws ho.wi
    have d2 := R29_Process_ok ep p a M T hM o ho.ws ho.wi
    have f1 := fence_Of_ok ep p a M T
    repeat' ((first | refine brP_t (by assumption) ?_ | refine brP_f (by assumption) ?_ | refine brP_t (decide_eq_true (by omega)) ?_ | refine brP_f (decide_eq_false (by omega)) ?_ | refine brP_t (nd_t (by omega)) ?_ | refine brP_f (nd_f (by omega)) ?_ | refine callK_p hf ?_ | refine callM_p hf rfl ?_ | refine callK_pf rfl hf ?_ | refine callK_p hv ?_ | refine callM_p hv rfl ?_ | refine callK_pf rfl hv ?_ | refine callK_p a1 ?_ | refine callM_p a1 rfl ?_ | refine callK_pf rfl a1 ?_ | refine callK_p a2 ?_ | refine callM_p a2 rfl ?_ | refine callK_pf rfl a2 ?_ | refine callK_p b1 ?_ | refine callM_p b1 rfl ?_ | refine callK_pf rfl b1 ?_ | refine callK_p b2 ?_ | refine callM_p b2 rfl ?_ | refine callK_pf rfl b2 ?_ | refine callK_p c1 ?_ | refine callM_p c1 rfl ?_ | refine callK_pf rfl c1 ?_ | refine callK_p c2 ?_ | refine callM_p c2 rfl ?_ | refine callK_pf rfl c2 ?_ | refine callK_p d1 ?_ | refine callM_p d1 rfl ?_ | refine callK_pf rfl d1 ?_ | refine callK_p d2 ?_ | refine callM_p d2 rfl ?_ | refine callK_pf rfl d2 ?_ | refine callK_pk rfl f1 ?_ | refine callK_p L29_alive_ok ?_ | refine callM_p L29_alive_ok rfl ?_ | refine callK_pf rfl L29_alive_ok ?_ | (refine brP_t ?_ ?_; focus (simp; done)) | refine wpfS_seq1 ?_ | refine wpfS_go ?_ | fail) <;> conv => whnf)
    rfl
theorem mapS_fine (n : Nat) (t l : List (Int × Int)) : fineB (mapS n t l) = true := by
  unfold mapS
  split
  · exact id_fine
  · exact someT_fine _ _
theorem touches_ne {M : Nat → Nat} (hf : fineB M = true) {s i : Nat} (h : touchesB M s i = true) : (decide (((setN M s : Nat) : Int) = (s : Int)) && (decide (((setN M i : Nat) : Int) = (i : Int)) && true)) = false := by
  cases hc : (decide (((setN M s : Nat) : Int) = (s : Int)) && (decide (((setN M i : Nat) : Int) = (i : Int)) && true)) with
  | false => rfl
  | true =>
    simp only [Bool.and_true, Bool.and_eq_true, decide_eq_true_eq] at hc
    have e1 : setN M s = s := by omega
    have e2 : setN M i = i := by omega
    have := touches_img hf (s := s) (i := i)
    rw [e1, e2, h] at this
    cases this
theorem swept_idle {a k : Int} : sweptB 0 a k = false := by
  unfold sweptB many
  simp
set_option maxHeartbeats 4000000 in
theorem fenceFew_ok (e n : Nat) (he : e < 256) (hn : n < 256) (total now : List (Int × Int)) (s i : Nat) (hs : s < 65536) (hi : i < 65536) (k m : Int) : EvP PR G f_L29_FenceFew [seenV e n total now, idv s i k m] (bv true) := by
  have hv := L29_views_ok e n he hn total now
  have hf := R21_Fine_ok s i k m
  have hM := mapS_le n (total.take 20) (now.take 20)
  have hMf := mapS_fine n (total.take 20) (now.take 20)
  have hT : mapOk (madeN (total.take 20)) := made_le _
  have hE : 0 ≤ ((e % 255 : Nat) : Int) ∧ ((e % 255 : Nat) : Int) < 1000 := by omega
  generalize mapS n (total.take 20) (now.take 20) = M at *
  generalize madeN (total.take 20) = T at *
  generalize (anyC n).1 = p at *
  generalize (anyC n).2 = a at *
  generalize ((e % 255 : Nat) : Int) = ep at *
  have hw : IntKind.i64.wrap (ep + 1) = ep + 1 := wrap64 (by omega)
  refine EvP.of_wpf false hm c_L29_FenceFew rfl ?_
  refine wpf_seq1 ?_
  conv => whnf
  cases hb : idB k m with
  | false =>
    rw [hb] at hf
    repeat' ((first | refine brP_t (by assumption) ?_ | refine brP_f (by assumption) ?_ | refine brP_t (decide_eq_true (by omega)) ?_ | refine brP_f (decide_eq_false (by omega)) ?_ | refine brP_t (nd_t (by omega)) ?_ | refine brP_f (nd_f (by omega)) ?_ | refine callK_p hf ?_ | refine callM_p hf rfl ?_ | refine callK_pf rfl hf ?_ | refine callK_p L29_alive_ok ?_ | refine callM_p L29_alive_ok rfl ?_ | refine callK_pf rfl L29_alive_ok ?_ | refine wpfS_seq1 ?_ | refine wpfS_go ?_ | fail) <;> conv => whnf)
    rfl
  | true =>
    rw [hb] at hf
    have a1 := View_Label_ok ep p a M T hM hT s i hs hi k m
    have a2 := ident_Now_ok T hT s i hs hi k m
    have b1 := View_Stamp_ok ep p a hE M T s i k m
    have c1 := View_Name_ok ep p a M T hM hT s i hs hi k m
    unfold nowV at a1
    unfold stampV at b1
    unfold nameB at c1
    cases hsw : sweptB p a (laneV k m) with
    | false =>
      rw [hsw] at a1 b1 c1
      simp only [Bool.false_eq_true, if_false] at a1 b1
      have c1 : EvP PR G f_fence_View_Name [vv ep p a M T, idv s i k m] (bv false) := c1
      by_cases hp : p = 0
      · repeat' ((first | refine brP_t (by assumption) ?_ | refine brP_f (by assumption) ?_ | refine brP_t (decide_eq_true (by omega)) ?_ | refine brP_f (decide_eq_false (by omega)) ?_ | refine brP_t (nd_t (by omega)) ?_ | refine brP_f (nd_f (by omega)) ?_ | refine callK_p hf ?_ | refine callM_p hf rfl ?_ | refine callK_pf rfl hf ?_ | refine callK_p hv ?_ | refine callM_p hv rfl ?_ | refine callK_pf rfl hv ?_ | refine callM_p a1 rfl ?_ | refine callM_p a2 rfl ?_ | refine callK_p b1 ?_ | refine callM_p b1 rfl ?_ | refine callK_pf rfl b1 ?_ | refine callK_p c1 ?_ | refine callM_p c1 rfl ?_ | refine callK_pf rfl c1 ?_ | refine callK_p L29_alive_ok ?_ | refine callM_p L29_alive_ok rfl ?_ | refine callK_pf rfl L29_alive_ok ?_ | (refine brP_t ?_ ?_; focus (simp; done)) | refine wpfS_seq1 ?_ | refine wpfS_go ?_ | fail) <;> conv => whnf)
        rfl
      · repeat' ((first | refine brP_t (by assumption) ?_ | refine brP_f (by assumption) ?_ | refine brP_t (decide_eq_true (by omega)) ?_ | refine brP_f (decide_eq_false (by omega)) ?_ | refine brP_t (nd_t (by omega)) ?_ | refine brP_f (nd_f (by omega)) ?_ | refine callK_p hf ?_ | refine callM_p hf rfl ?_ | refine callK_pf rfl hf ?_ | refine callK_p hv ?_ | refine callM_p hv rfl ?_ | refine callK_pf rfl hv ?_ | refine callM_p a1 rfl ?_ | refine callM_p a2 rfl ?_ | refine callK_p b1 ?_ | refine callM_p b1 rfl ?_ | refine callK_pf rfl b1 ?_ | refine callK_p c1 ?_ | refine callM_p c1 rfl ?_ | refine callK_pf rfl c1 ?_ | refine callK_p L29_alive_ok ?_ | refine callM_p L29_alive_ok rfl ?_ | refine callK_pf rfl L29_alive_ok ?_ | (refine brP_t ?_ ?_; focus (simp; done)) | refine wpfS_seq1 ?_ | refine wpfS_go ?_ | fail) <;> conv => whnf)
        rfl
    | true =>
      have hp : p ≠ 0 := fun h => by rw [h, swept_idle] at hsw; cases hsw
      rw [hsw] at a1 b1 c1
      simp only [if_true] at a1 b1
      have d1 := relabel_Touches_ok M hM (setN M (setN T s)) (setN M (setN T i)) setN_lt setN_lt
      rw [touches_img hMf] at d1
      have hlt1 : setN T s < 65536 := setN_lt
      have hlt2 : setN T i < 65536 := setN_lt
      generalize setN T s = s' at *
      generalize setN T i = i' at *
      cases ht : touchesB M s' i' with
      | true =>
        have hne := touches_ne hMf ht
        rw [ht] at c1
        have c1 : EvP PR G f_fence_View_Name [vv ep p a M T, idv s i k m] (bv true) := c1
        generalize setN M s' = s2 at *
        generalize setN M i' = i2 at *
        by_cases hk : k = 2
        · repeat' ((first | refine brP_t (by assumption) ?_ | refine brP_f (by assumption) ?_ | refine brP_t (decide_eq_true (by omega)) ?_ | refine brP_f (decide_eq_false (by omega)) ?_ | refine brP_t (nd_t (by omega)) ?_ | refine brP_f (nd_f (by omega)) ?_ | refine callK_p hf ?_ | refine callM_p hf rfl ?_ | refine callK_pf rfl hf ?_ | refine callK_p hv ?_ | refine callM_p hv rfl ?_ | refine callK_pf rfl hv ?_ | refine callM_p a1 rfl ?_ | refine callM_p a2 rfl ?_ | refine callK_p b1 ?_ | refine callM_p b1 rfl ?_ | refine callK_pf rfl b1 ?_ | refine callK_p c1 ?_ | refine callM_p c1 rfl ?_ | refine callK_pf rfl c1 ?_ | refine callK_p d1 ?_ | refine callM_p d1 rfl ?_ | refine callK_pf rfl d1 ?_ | refine callK_p L29_alive_ok ?_ | refine callM_p L29_alive_ok rfl ?_ | refine callK_pf rfl L29_alive_ok ?_ | ((rw [hne])) | (refine brP_t ?_ ?_; focus (simp; done)) | (refine brP_f ?_ ?_; focus (simp; done)) | (refine brP_t ?_ ?_; focus (simp [hw]; done)) | refine wpfS_seq1 ?_ | refine wpfS_go ?_ | fail) <;> conv => whnf)
          rfl
        · repeat' ((first | refine brP_t (by assumption) ?_ | refine brP_f (by assumption) ?_ | refine brP_t (decide_eq_true (by omega)) ?_ | refine brP_f (decide_eq_false (by omega)) ?_ | refine brP_t (nd_t (by omega)) ?_ | refine brP_f (nd_f (by omega)) ?_ | refine callK_p hf ?_ | refine callM_p hf rfl ?_ | refine callK_pf rfl hf ?_ | refine callK_p hv ?_ | refine callM_p hv rfl ?_ | refine callK_pf rfl hv ?_ | refine callM_p a1 rfl ?_ | refine callM_p a2 rfl ?_ | refine callK_p b1 ?_ | refine callM_p b1 rfl ?_ | refine callK_pf rfl b1 ?_ | refine callK_p c1 ?_ | refine callM_p c1 rfl ?_ | refine callK_pf rfl c1 ?_ | refine callK_p d1 ?_ | refine callM_p d1 rfl ?_ | refine callK_pf rfl d1 ?_ | refine callK_p L29_alive_ok ?_ | refine callM_p L29_alive_ok rfl ?_ | refine callK_pf rfl L29_alive_ok ?_ | ((rw [hne])) | (refine brP_t ?_ ?_; focus (simp; done)) | (refine brP_f ?_ ?_; focus (simp; done)) | (refine brP_t ?_ ?_; focus (simp [hw]; done)) | refine wpfS_seq1 ?_ | refine wpfS_go ?_ | fail) <;> conv => whnf)
          rfl
      | false =>
        obtain ⟨t1, t2⟩ := touches_false ht
        have x1 := setN_same hlt1 t1
        have x2 := setN_same hlt2 t2
        rw [x1, x2] at a1 d1
        rw [ht] at c1
        have c1 : EvP PR G f_fence_View_Name [vv ep p a M T, idv s i k m] (bv (waitsB p a k m)) := c1
        have heq : (decide ((s' : Int) = (s' : Int)) && (decide ((i' : Int) = (i' : Int)) && true)) = true := by simp
        by_cases hk : k = 2
        · generalize waitsB p a k m = w at *
          cases w with
          | true =>
            repeat' ((first | refine brP_t (by assumption) ?_ | refine brP_f (by assumption) ?_ | refine brP_t (decide_eq_true (by omega)) ?_ | refine brP_f (decide_eq_false (by omega)) ?_ | refine brP_t (nd_t (by omega)) ?_ | refine brP_f (nd_f (by omega)) ?_ | refine callK_p hf ?_ | refine callM_p hf rfl ?_ | refine callK_pf rfl hf ?_ | refine callK_p hv ?_ | refine callM_p hv rfl ?_ | refine callK_pf rfl hv ?_ | refine callM_p a1 rfl ?_ | refine callM_p a2 rfl ?_ | refine callK_p b1 ?_ | refine callM_p b1 rfl ?_ | refine callK_pf rfl b1 ?_ | refine callK_p c1 ?_ | refine callM_p c1 rfl ?_ | refine callK_pf rfl c1 ?_ | refine callK_p d1 ?_ | refine callM_p d1 rfl ?_ | refine callK_pf rfl d1 ?_ | refine callK_p L29_alive_ok ?_ | refine callM_p L29_alive_ok rfl ?_ | refine callK_pf rfl L29_alive_ok ?_ | ((rw [heq])) | (refine brP_t ?_ ?_; focus (simp; done)) | (refine brP_f ?_ ?_; focus (simp; done)) | (refine brP_t ?_ ?_; focus (simp [hw]; done)) | refine wpfS_seq1 ?_ | refine wpfS_go ?_ | fail) <;> conv => whnf)
            rfl
          | false =>
            repeat' ((first | refine brP_t (by assumption) ?_ | refine brP_f (by assumption) ?_ | refine brP_t (decide_eq_true (by omega)) ?_ | refine brP_f (decide_eq_false (by omega)) ?_ | refine brP_t (nd_t (by omega)) ?_ | refine brP_f (nd_f (by omega)) ?_ | refine callK_p hf ?_ | refine callM_p hf rfl ?_ | refine callK_pf rfl hf ?_ | refine callK_p hv ?_ | refine callM_p hv rfl ?_ | refine callK_pf rfl hv ?_ | refine callM_p a1 rfl ?_ | refine callM_p a2 rfl ?_ | refine callK_p b1 ?_ | refine callM_p b1 rfl ?_ | refine callK_pf rfl b1 ?_ | refine callK_p c1 ?_ | refine callM_p c1 rfl ?_ | refine callK_pf rfl c1 ?_ | refine callK_p d1 ?_ | refine callM_p d1 rfl ?_ | refine callK_pf rfl d1 ?_ | refine callK_p L29_alive_ok ?_ | refine callM_p L29_alive_ok rfl ?_ | refine callK_pf rfl L29_alive_ok ?_ | ((rw [heq])) | (refine brP_t ?_ ?_; focus (simp; done)) | (refine brP_f ?_ ?_; focus (simp; done)) | (refine brP_t ?_ ?_; focus (simp [hw]; done)) | refine wpfS_seq1 ?_ | refine wpfS_go ?_ | fail) <;> conv => whnf)
            rfl
        · have hwt : waitsB p a k m = false := by unfold waitsB; rw [decide_eq_false hk]; rfl
          rw [hwt] at c1
          repeat' ((first | refine brP_t (by assumption) ?_ | refine brP_f (by assumption) ?_ | refine brP_t (decide_eq_true (by omega)) ?_ | refine brP_f (decide_eq_false (by omega)) ?_ | refine brP_t (nd_t (by omega)) ?_ | refine brP_f (nd_f (by omega)) ?_ | refine callK_p hf ?_ | refine callM_p hf rfl ?_ | refine callK_pf rfl hf ?_ | refine callK_p hv ?_ | refine callM_p hv rfl ?_ | refine callK_pf rfl hv ?_ | refine callM_p a1 rfl ?_ | refine callM_p a2 rfl ?_ | refine callK_p b1 ?_ | refine callM_p b1 rfl ?_ | refine callK_pf rfl b1 ?_ | refine callK_p c1 ?_ | refine callM_p c1 rfl ?_ | refine callK_pf rfl c1 ?_ | refine callK_p d1 ?_ | refine callM_p d1 rfl ?_ | refine callK_pf rfl d1 ?_ | refine callK_p L29_alive_ok ?_ | refine callM_p L29_alive_ok rfl ?_ | refine callK_pf rfl L29_alive_ok ?_ | ((rw [heq])) | (refine brP_t ?_ ?_; focus (simp; done)) | (refine brP_f ?_ ?_; focus (simp; done)) | (refine brP_t ?_ ?_; focus (simp [hw]; done)) | refine wpfS_seq1 ?_ | refine wpfS_go ?_ | fail) <;> conv => whnf)
          rfl
theorem nowV_flows {p a : Int} {M T : Nat → Nat} {k m k' m' : Int} (hsw : sweptB p a (laneV k m) = sweptB p a (laneV k' m')) {s i s' i' : Nat} (h1 : s < 65536) (h2 : i < 65536) (h3 : s' < 65536) (h4 : i' < 65536) (h : flowsB s i s' i' = true) :
    flowsB (nowV p a M T k m s) (nowV p a M T k m i) (nowV p a M T k' m' s') (nowV p a M T k' m' i') = true := by
  have h1 := flows_img (M := T) h1 h2 h3 h4 h
  unfold nowV
  rw [← hsw]
  split
  · exact flows_img setN_lt setN_lt setN_lt setN_lt h1
  · exact h1
theorem nowV_lt {p a : Int} {M T : Nat → Nat} {k m : Int} {s : Nat} : nowV p a M T k m s < 65536 := by
  unfold nowV
  split <;> exact setN_lt
set_option maxHeartbeats 4000000 in
theorem fenceFlows_ok (e n : Nat) (he : e < 256) (hn : n < 256) (total now : List (Int × Int)) (s i : Nat) (hs : s < 65536) (hi : i < 65536) (k m : Int) (s' i' : Nat) (hs' : s' < 65536) (hi' : i' < 65536) (k' m' : Int) : EvP PR G f_L29_FenceFlows [seenV e n total now, idv s i k m, idv s' i' k' m'] (bv true) := by
  have hv := L29_views_ok e n he hn total now
  have hf := R21_Fine_ok s i k m
  have hf' := R21_Fine_ok s' i' k' m'
  have hM := mapS_le n (total.take 20) (now.take 20)
  have hT : mapOk (madeN (total.take 20)) := made_le _
  have hE : 0 ≤ ((e % 255 : Nat) : Int) ∧ ((e % 255 : Nat) : Int) < 1000 := by omega
  generalize mapS n (total.take 20) (now.take 20) = M at *
  generalize madeN (total.take 20) = T at *
  generalize (anyC n).1 = p at *
  generalize (anyC n).2 = a at *
  generalize ((e % 255 : Nat) : Int) = ep at *
  refine EvP.of_wpf false hm c_L29_FenceFlows rfl ?_
  refine wpf_seq1 ?_
  conv => whnf
  cases hb : idB k m with
  | false =>
    rw [hb] at hf
    repeat' ((first | refine brP_t (by assumption) ?_ | refine brP_f (by assumption) ?_ | refine brP_t (decide_eq_true (by omega)) ?_ | refine brP_f (decide_eq_false (by omega)) ?_ | refine brP_t (nd_t (by omega)) ?_ | refine brP_f (nd_f (by omega)) ?_ | refine callK_p hf ?_ | refine callM_p hf rfl ?_ | refine callK_pf rfl hf ?_ | refine callK_p L29_alive_ok ?_ | refine callM_p L29_alive_ok rfl ?_ | refine callK_pf rfl L29_alive_ok ?_ | refine wpfS_seq1 ?_ | refine wpfS_go ?_ | fail) <;> conv => whnf)
    rfl
  | true =>
    rw [hb] at hf
    cases hb' : idB k' m' with
    | false =>
      rw [hb'] at hf'
      repeat' ((first | refine brP_t (by assumption) ?_ | refine brP_f (by assumption) ?_ | refine brP_t (decide_eq_true (by omega)) ?_ | refine brP_f (decide_eq_false (by omega)) ?_ | refine brP_t (nd_t (by omega)) ?_ | refine brP_f (nd_f (by omega)) ?_ | refine callK_p hf ?_ | refine callM_p hf rfl ?_ | refine callK_pf rfl hf ?_ | refine callK_p hf' ?_ | refine callM_p hf' rfl ?_ | refine callK_pf rfl hf' ?_ | refine callK_p L29_alive_ok ?_ | refine callM_p L29_alive_ok rfl ?_ | refine callK_pf rfl L29_alive_ok ?_ | refine wpfS_seq1 ?_ | refine wpfS_go ?_ | fail) <;> conv => whnf)
      rfl
    | true =>
      rw [hb'] at hf'
      have a1 := View_Label_ok ep p a M T hM hT s i hs hi k m
      have a2 := View_Label_ok ep p a M T hM hT s' i' hs' hi' k' m'
      have b1 := View_Stamp_ok ep p a hE M T s i k m
      have b2 := View_Stamp_ok ep p a hE M T s' i' k' m'
      have c1 := label_Flows_ok s i s' i' hs hi hs' hi'
      have c2 := label_Flows_ok (nowV p a M T k m s) (nowV p a M T k m i) (nowV p a M T k' m' s') (nowV p a M T k' m' i') nowV_lt nowV_lt nowV_lt nowV_lt
      by_cases hst : stampV p a ep (laneV k m) = stampV p a ep (laneV k' m')
      · have hsw : sweptB p a (laneV k m) = sweptB p a (laneV k' m') := by
          unfold stampV at hst
          cases h1 : sweptB p a (laneV k m) <;> cases h2 : sweptB p a (laneV k' m') <;> simp [h1, h2] at hst <;> first | rfl | omega
        rw [← hst] at b2
        cases hfl : flowsB s i s' i' with
        | false =>
          rw [hfl] at c1
          generalize stampV p a ep (laneV k m) = st at *
          repeat' ((first | refine brP_t (by assumption) ?_ | refine brP_f (by assumption) ?_ | refine brP_t (decide_eq_true (by omega)) ?_ | refine brP_f (decide_eq_false (by omega)) ?_ | refine brP_t (nd_t (by omega)) ?_ | refine brP_f (nd_f (by omega)) ?_ | refine callK_p hf ?_ | refine callM_p hf rfl ?_ | refine callK_pf rfl hf ?_ | refine callK_p hf' ?_ | refine callM_p hf' rfl ?_ | refine callK_pf rfl hf' ?_ | refine callK_p hv ?_ | refine callM_p hv rfl ?_ | refine callK_pf rfl hv ?_ | refine callK_p b1 ?_ | refine callM_p b1 rfl ?_ | refine callK_pf rfl b1 ?_ | refine callK_p b2 ?_ | refine callM_p b2 rfl ?_ | refine callK_pf rfl b2 ?_ | refine callK_p c1 ?_ | refine callM_p c1 rfl ?_ | refine callK_pf rfl c1 ?_ | refine callK_p L29_alive_ok ?_ | refine callM_p L29_alive_ok rfl ?_ | refine callK_pf rfl L29_alive_ok ?_ | refine wpfS_seq1 ?_ | refine wpfS_go ?_ | fail) <;> conv => whnf)
          rfl
        | true =>
          rw [hfl] at c1
          rw [nowV_flows hsw hs hi hs' hi' hfl] at c2
          generalize stampV p a ep (laneV k m) = st at *
          repeat' ((first | refine brP_t (by assumption) ?_ | refine brP_f (by assumption) ?_ | refine brP_t (decide_eq_true (by omega)) ?_ | refine brP_f (decide_eq_false (by omega)) ?_ | refine brP_t (nd_t (by omega)) ?_ | refine brP_f (nd_f (by omega)) ?_ | refine callK_p hf ?_ | refine callM_p hf rfl ?_ | refine callK_pf rfl hf ?_ | refine callK_p hf' ?_ | refine callM_p hf' rfl ?_ | refine callK_pf rfl hf' ?_ | refine callK_p hv ?_ | refine callM_p hv rfl ?_ | refine callK_pf rfl hv ?_ | refine callK_p b1 ?_ | refine callM_p b1 rfl ?_ | refine callK_pf rfl b1 ?_ | refine callK_p b2 ?_ | refine callM_p b2 rfl ?_ | refine callK_pf rfl b2 ?_ | refine callK_p c1 ?_ | refine callM_p c1 rfl ?_ | refine callK_pf rfl c1 ?_ | refine callK_p c2 ?_ | refine callM_p c2 rfl ?_ | refine callK_pf rfl c2 ?_ | refine callK_p a1 ?_ | refine callM_p a1 rfl ?_ | refine callK_pf rfl a1 ?_ | refine callK_p a2 ?_ | refine callM_p a2 rfl ?_ | refine callK_pf rfl a2 ?_ | refine callK_p L29_alive_ok ?_ | refine callM_p L29_alive_ok rfl ?_ | refine callK_pf rfl L29_alive_ok ?_ | refine wpfS_seq1 ?_ | refine wpfS_go ?_ | fail) <;> conv => whnf)
          rfl
      · generalize stampV p a ep (laneV k m) = st at *
        generalize stampV p a ep (laneV k' m') = st' at *
        repeat' ((first | refine brP_t (by assumption) ?_ | refine brP_f (by assumption) ?_ | refine brP_t (decide_eq_true (by omega)) ?_ | refine brP_f (decide_eq_false (by omega)) ?_ | refine brP_t (nd_t (by omega)) ?_ | refine brP_f (nd_f (by omega)) ?_ | refine callK_p hf ?_ | refine callM_p hf rfl ?_ | refine callK_pf rfl hf ?_ | refine callK_p hf' ?_ | refine callM_p hf' rfl ?_ | refine callK_pf rfl hf' ?_ | refine callK_p hv ?_ | refine callM_p hv rfl ?_ | refine callK_pf rfl hv ?_ | refine callK_p b1 ?_ | refine callM_p b1 rfl ?_ | refine callK_pf rfl b1 ?_ | refine callK_p b2 ?_ | refine callM_p b2 rfl ?_ | refine callK_pf rfl b2 ?_ | refine callK_p L29_alive_ok ?_ | refine callM_p L29_alive_ok rfl ?_ | refine callK_pf rfl L29_alive_ok ?_ | refine wpfS_seq1 ?_ | refine wpfS_go ?_ | fail) <;> conv => whnf)
        rfl
end Go.Ab.S
