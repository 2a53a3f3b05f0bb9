/- Part of a proof; no condition. -/
import Derived.Test.YtjdkjlmcnpjohaaDoorLibN2
set_option linter.unusedSimpArgs false
set_option linter.unusedVariables false
namespace Go.Ab.S
open Go Go.Ab Go.Proofs
attribute [local irreducible] SemS
set_option maxRecDepth 100000
/-- A view's cells. -/
def vrow (e p a : Int) (M T : Nat → Nat) : List PV := [.int .i64 e, .int .i64 p, .int .i64 a] ++ (mrow M ++ mrow T)
def vv (e p a : Int) (M T : Nat → Nat) : AV := .agg (vrow e p a M T)
def mapOk (M : Nat → Nat) : Prop := ∀ i, i < 16 → M i ≤ 255
theorem View_swept_ok (e p a : Int) (M T : Nat → Nat) (s i : Nat) (k n : Int) : EvP PR G f_fence_View_swept [vv e p a M T, idv s i k n] (bv (sweptB p a (laneV k n))) := by
  have h1 := ident_Lane_ok s i k n
  have h2 := lane_Swept_ok p a (laneV k n)
  refine EvP.of_wpf true hm c_fence_View_swept rfl ?_
  conv => whnf
  repeat' ((first | refine brP_t (by assumption) ?_ | refine brP_f (by assumption) ?_ | refine brP_t (decide_eq_true (by omega)) ?_ | refine brP_f (decide_eq_false (by omega)) ?_ | refine brP_t (nd_t (by omega)) ?_ | refine brP_f (nd_f (by omega)) ?_ | refine callK_p h1 ?_ | refine callM_p h1 rfl ?_ | refine callK_pf rfl h1 ?_ | refine callK_p h2 ?_ | refine callM_p h2 rfl ?_ | refine callK_pf rfl h2 ?_ | fail) <;> conv => whnf)
  rfl
def nowV (p a : Int) (M T : Nat → Nat) (k n : Int) (s : Nat) : Nat := if sweptB p a (laneV k n) then setN M (setN T s) else setN T s
theorem View_Label_ok (e p a : Int) (M T : Nat → Nat) (hM : mapOk M) (hT : mapOk T) (s i : Nat) (hs : s < 65536) (hi : i < 65536) (k n : Int) : EvP PR G f_fence_View_Label [vv e p a M T, idv s i k n] (lab (nowV p a M T k n s) (nowV p a M T k n i)) := by
  have h1 := ident_Now_ok T hT s i hs hi k n
  have h2 := View_swept_ok e p a M T s i k n
  have h3 := relabel_Label_ok M hM (setN T s) (setN T i) setN_lt setN_lt
  unfold nowV
  refine EvP.of_wpf true hm c_fence_View_Label rfl ?_
  conv => whnf
  cases hb : sweptB p a (laneV k n) with
  | true =>
    rw [hb] at h2
    repeat' ((first | refine brP_t (by assumption) ?_ | refine brP_f (by assumption) ?_ | refine brP_t (decide_eq_true (by omega)) ?_ | refine brP_f (decide_eq_false (by omega)) ?_ | refine brP_t (nd_t (by omega)) ?_ | refine brP_f (nd_f (by omega)) ?_ | refine callK_p h1 ?_ | refine callM_p h1 rfl ?_ | refine callK_pf rfl h1 ?_ | refine callK_p h2 ?_ | refine callM_p h2 rfl ?_ | refine callK_pf rfl h2 ?_ | refine callK_p h3 ?_ | refine callM_p h3 rfl ?_ | refine callK_pf rfl h3 ?_ | fail) <;> conv => whnf)
    rfl
  | false =>
    rw [hb] at h2
    repeat' ((first | refine brP_t (by assumption) ?_ | refine brP_f (by assumption) ?_ | refine brP_t (decide_eq_true (by omega)) ?_ | refine brP_f (decide_eq_false (by omega)) ?_ | refine brP_t (nd_t (by omega)) ?_ | refine brP_f (nd_f (by omega)) ?_ | refine callK_p h1 ?_ | refine callM_p h1 rfl ?_ | refine callK_pf rfl h1 ?_ | refine callK_p h2 ?_ | refine callM_p h2 rfl ?_ | refine callK_pf rfl h2 ?_ | refine callK_p h3 ?_ | refine callM_p h3 rfl ?_ | refine callK_pf rfl h3 ?_ | fail) <;> conv => whnf)
    rfl
theorem View_Stamp_ok (e p a : Int) (he : 0 ≤ e ∧ e < 1000) (M T : Nat → Nat) (s i : Nat) (k n : Int) : EvP PR G f_fence_View_Stamp [vv e p a M T, idv s i k n] (iv (stampV p a e (laneV k n))) := by
  have h1 := ident_Lane_ok s i k n
  have h2 := lane_Stamp_ok p a e (laneV k n) he
  refine EvP.of_wpf true hm c_fence_View_Stamp rfl ?_
  conv => whnf
  repeat' ((first | refine brP_t (by assumption) ?_ | refine brP_f (by assumption) ?_ | refine brP_t (decide_eq_true (by omega)) ?_ | refine brP_f (decide_eq_false (by omega)) ?_ | refine brP_t (nd_t (by omega)) ?_ | refine brP_f (nd_f (by omega)) ?_ | refine callK_p h1 ?_ | refine callM_p h1 rfl ?_ | refine callK_pf rfl h1 ?_ | refine callK_p h2 ?_ | refine callM_p h2 rfl ?_ | refine callK_pf rfl h2 ?_ | fail) <;> conv => whnf)
  rfl
theorem View_moved_ok (e p a : Int) (M T : Nat → Nat) (hM : mapOk M) (hT : mapOk T) (s i : Nat) (hs : s < 65536) (hi : i < 65536) (k n : Int) : EvP PR G f_fence_View_moved [vv e p a M T, idv s i k n] (bv (touchesB M (setN T s) (setN T i))) := by
  have h1 := ident_Now_ok T hT s i hs hi k n
  have h3 := relabel_Touches_ok M hM (setN T s) (setN T i) setN_lt setN_lt
  refine EvP.of_wpf true hm c_fence_View_moved rfl ?_
  conv => whnf
  repeat' ((first | refine brP_t (by assumption) ?_ | refine brP_f (by assumption) ?_ | refine brP_t (decide_eq_true (by omega)) ?_ | refine brP_f (decide_eq_false (by omega)) ?_ | refine brP_t (nd_t (by omega)) ?_ | refine brP_f (nd_f (by omega)) ?_ | refine callK_p h1 ?_ | refine callM_p h1 rfl ?_ | refine callK_pf rfl h1 ?_ | refine callK_p h3 ?_ | refine callM_p h3 rfl ?_ | refine callK_pf rfl h3 ?_ | fail) <;> conv => whnf)
  rfl
def waitsB (p a k n : Int) : Bool := decide (k = 2) && !looseB p a n
theorem View_waits_ok (e p a : Int) (M T : Nat → Nat) (s i : Nat) (k n : Int) : EvP PR G f_fence_View_waits [vv e p a M T, idv s i k n] (bv (waitsB p a k n)) := by
  have h1 := lane_Loose_ok p a n
  unfold waitsB
  refine EvP.of_wpf true hm c_fence_View_waits rfl ?_
  conv => whnf
  by_cases hk : k = 2
  · rw [decide_eq_true hk]
    repeat' ((first | refine brP_t (by assumption) ?_ | refine brP_f (by assumption) ?_ | refine brP_t (decide_eq_true (by omega)) ?_ | refine brP_f (decide_eq_false (by omega)) ?_ | refine brP_t (nd_t (by omega)) ?_ | refine brP_f (nd_f (by omega)) ?_ | refine callK_p h1 ?_ | refine callM_p h1 rfl ?_ | refine callK_pf rfl h1 ?_ | fail) <;> conv => whnf)
    rfl
  · rw [decide_eq_false hk]
    repeat' ((first | refine brP_t (by assumption) ?_ | refine brP_f (by assumption) ?_ | refine brP_t (decide_eq_true (by omega)) ?_ | refine brP_f (decide_eq_false (by omega)) ?_ | refine brP_t (nd_t (by omega)) ?_ | refine brP_f (nd_f (by omega)) ?_ | refine callK_p h1 ?_ | refine callM_p h1 rfl ?_ | refine callK_pf rfl h1 ?_ | fail) <;> conv => whnf)
    rfl
def nameB (p a : Int) (M T : Nat → Nat) (s i : Nat) (k n : Int) : Bool := sweptB p a (laneV k n) && (touchesB M (setN T s) (setN T i) || waitsB p a k n)
theorem View_Name_ok (e p a : Int) (M T : Nat → Nat) (hM : mapOk M) (hT : mapOk T) (s i : Nat) (hs : s < 65536) (hi : i < 65536) (k n : Int) : EvP PR G f_fence_View_Name [vv e p a M T, idv s i k n] (bv (nameB p a M T s i k n)) := by
  have h1 := View_swept_ok e p a M T s i k n
  have h2 := View_moved_ok e p a M T hM hT s i hs hi k n
  have h3 := View_waits_ok e p a M T s i k n
  unfold nameB
  refine EvP.of_wpf true hm c_fence_View_Name rfl ?_
  conv => whnf
  cases hb : sweptB p a (laneV k n) with
  | true =>
    rw [hb] at h1
    cases hc : touchesB M (setN T s) (setN T i) with
    | true =>
      rw [hc] at h2
      repeat' ((first | refine brP_t (by assumption) ?_ | refine brP_f (by assumption) ?_ | refine brP_t (decide_eq_true (by omega)) ?_ | refine brP_f (decide_eq_false (by omega)) ?_ | refine brP_t (nd_t (by omega)) ?_ | refine brP_f (nd_f (by omega)) ?_ | refine callK_p h1 ?_ | refine callM_p h1 rfl ?_ | refine callK_pf rfl h1 ?_ | refine callK_pf rfl h2 ?_ | refine SemS.loop1 true hm ?_ | fail) <;> conv => whnf)
      rfl
    | false =>
      rw [hc] at h2
      generalize waitsB p a k n = w at *
      cases w with
      | true =>
        repeat' ((first | refine brP_t (by assumption) ?_ | refine brP_f (by assumption) ?_ | refine brP_t (decide_eq_true (by omega)) ?_ | refine brP_f (decide_eq_false (by omega)) ?_ | refine brP_t (nd_t (by omega)) ?_ | refine brP_f (nd_f (by omega)) ?_ | refine callK_p h1 ?_ | refine callM_p h1 rfl ?_ | refine callK_pf rfl h1 ?_ | refine callK_pf rfl h2 ?_ | refine callK_pf rfl h3 ?_ | refine SemS.loop1 true hm ?_ | fail) <;> conv => whnf)
        rfl
      | false =>
        repeat' ((first | refine brP_t (by assumption) ?_ | refine brP_f (by assumption) ?_ | refine brP_t (decide_eq_true (by omega)) ?_ | refine brP_f (decide_eq_false (by omega)) ?_ | refine brP_t (nd_t (by omega)) ?_ | refine brP_f (nd_f (by omega)) ?_ | refine callK_p h1 ?_ | refine callM_p h1 rfl ?_ | refine callK_pf rfl h1 ?_ | refine callK_pf rfl h2 ?_ | refine callK_pf rfl h3 ?_ | refine SemS.loop1 true hm ?_ | fail) <;> conv => whnf)
        rfl
  | false =>
    rw [hb] at h1
    repeat' ((first | refine brP_t (by assumption) ?_ | refine brP_f (by assumption) ?_ | refine brP_t (decide_eq_true (by omega)) ?_ | refine brP_f (decide_eq_false (by omega)) ?_ | refine brP_t (nd_t (by omega)) ?_ | refine brP_f (nd_f (by omega)) ?_ | refine callK_p h1 ?_ | refine callM_p h1 rfl ?_ | refine callK_pf rfl h1 ?_ | refine SemS.loop1 true hm ?_ | fail) <;> conv => whnf)
    rfl
/-! ### The document's -/
theorem R29_Was_ok (e p a : Int) (M T : Nat → Nat) (hT : mapOk T) (s i : Nat) (hs : s < 65536) (hi : i < 65536) (k n : Int) : EvP PR G f_R29_Was [vv e p a M T, idv s i k n] (lab (setN T s) (setN T i)) := by
  have h1 := R04_Label_ok T hT s i hs hi
  refine EvP.of_wpf true hm c_R29_Was rfl ?_
  conv => whnf
  repeat' ((first | refine brP_t (by assumption) ?_ | refine brP_f (by assumption) ?_ | refine brP_t (decide_eq_true (by omega)) ?_ | refine brP_f (decide_eq_false (by omega)) ?_ | refine brP_t (nd_t (by omega)) ?_ | refine brP_f (nd_f (by omega)) ?_ | refine callK_p h1 ?_ | refine callM_p h1 rfl ?_ | refine callK_pf rfl h1 ?_ | fail) <;> conv => whnf)
  rfl
theorem R29_Label_ok (e p a : Int) (hp : 0 ≤ p ∧ p ≤ 4) (M T : Nat → Nat) (hM : mapOk M) (hT : mapOk T) (s i : Nat) (hs : s < 65536) (hi : i < 65536) (k n : Int) (hf : idB k n = true) : EvP PR G f_R29_Label [vv e p a M T, idv s i k n] (lab (nowV p a M T k n s) (nowV p a M T k n i)) := by
  have h1 := R29_Was_ok e p a M T hT s i hs hi k n
  have h2 := R28_Swept_ok p a (laneV k n) hp
  have h4 := R21_Lane_ok s i k n hf
  have h3 := R04_Label_ok M hM (setN T s) (setN T i) setN_lt setN_lt
  unfold nowV
  refine EvP.of_wpf true hm c_R29_Label rfl ?_
  conv => whnf
  cases hb : sweptB p a (laneV k n) with
  | true =>
    rw [hb] at h2
    repeat' ((first | refine brP_t (by assumption) ?_ | refine brP_f (by assumption) ?_ | refine brP_t (decide_eq_true (by omega)) ?_ | refine brP_f (decide_eq_false (by omega)) ?_ | refine brP_t (nd_t (by omega)) ?_ | refine brP_f (nd_f (by omega)) ?_ | refine callK_p h1 ?_ | refine callM_p h1 rfl ?_ | refine callK_pf rfl h1 ?_ | refine callK_p h2 ?_ | refine callM_p h2 rfl ?_ | refine callK_pf rfl h2 ?_ | refine callK_p h3 ?_ | refine callM_p h3 rfl ?_ | refine callK_pf rfl h3 ?_ | refine callK_p h4 ?_ | refine callM_p h4 rfl ?_ | refine callK_pf rfl h4 ?_ | fail) <;> conv => whnf)
    rfl
  | false =>
    rw [hb] at h2
    repeat' ((first | refine brP_t (by assumption) ?_ | refine brP_f (by assumption) ?_ | refine brP_t (decide_eq_true (by omega)) ?_ | refine brP_f (decide_eq_false (by omega)) ?_ | refine brP_t (nd_t (by omega)) ?_ | refine brP_f (nd_f (by omega)) ?_ | refine callK_p h1 ?_ | refine callM_p h1 rfl ?_ | refine callK_pf rfl h1 ?_ | refine callK_p h2 ?_ | refine callM_p h2 rfl ?_ | refine callK_pf rfl h2 ?_ | refine callK_p h3 ?_ | refine callM_p h3 rfl ?_ | refine callK_pf rfl h3 ?_ | refine callK_p h4 ?_ | refine callM_p h4 rfl ?_ | refine callK_pf rfl h4 ?_ | fail) <;> conv => whnf)
    rfl
theorem R29_Stamp_ok (e p a : Int) (hp : 0 ≤ p ∧ p ≤ 4) (he : 0 ≤ e ∧ e < 1000) (M T : Nat → Nat) (s i : Nat) (k n : Int) (hf : idB k n = true) : EvP PR G f_R29_Stamp [vv e p a M T, idv s i k n] (iv (stampV p a e (laneV k n))) := by
  have h1 := R21_Lane_ok s i k n hf
  have h2 := R28_Stamp_ok p a e (laneV k n) hp he
  refine EvP.of_wpf true hm c_R29_Stamp rfl ?_
  conv => whnf
  repeat' ((first | refine brP_t (by assumption) ?_ | refine brP_f (by assumption) ?_ | refine brP_t (decide_eq_true (by omega)) ?_ | refine brP_f (decide_eq_false (by omega)) ?_ | refine brP_t (nd_t (by omega)) ?_ | refine brP_f (nd_f (by omega)) ?_ | refine callK_p h1 ?_ | refine callM_p h1 rfl ?_ | refine callK_pf rfl h1 ?_ | refine callK_p h2 ?_ | refine callM_p h2 rfl ?_ | refine callK_pf rfl h2 ?_ | fail) <;> conv => whnf)
  rfl
theorem R29_Name_ok (e p a : Int) (hp : 0 ≤ p ∧ p ≤ 4) (M T : Nat → Nat) (hM : mapOk M) (hT : mapOk T) (s i : Nat) (hs : s < 65536) (hi : i < 65536) (k n : Int) (hf : idB k n = true) : EvP PR G f_R29_Name [vv e p a M T, idv s i k n] (bv (nameB p a M T s i k n)) := by
  have h1 := R29_Was_ok e p a M T hT s i hs hi k n
  have h2 := R28_Swept_ok p a (laneV k n) hp
  have h4 := R21_Lane_ok s i k n hf
  have h3 := R04_Touches_ok M hM (setN T s) (setN T i) setN_lt setN_lt
  have h5 := R28_Loose_ok p a n
  unfold nameB waitsB
  refine EvP.of_wpf true hm c_R29_Name rfl ?_
  conv => whnf
  cases hb : sweptB p a (laneV k n) with
  | true =>
    rw [hb] at h2
    cases hc : touchesB M (setN T s) (setN T i) with
    | true =>
      rw [hc] at h3
      repeat' ((first | refine brP_t (by assumption) ?_ | refine brP_f (by assumption) ?_ | refine brP_t (decide_eq_true (by omega)) ?_ | refine brP_f (decide_eq_false (by omega)) ?_ | refine brP_t (nd_t (by omega)) ?_ | refine brP_f (nd_f (by omega)) ?_ | refine callK_p h1 ?_ | refine callM_p h1 rfl ?_ | refine callK_pf rfl h1 ?_ | refine callK_p h2 ?_ | refine callM_p h2 rfl ?_ | refine callK_pf rfl h2 ?_ | refine callK_p h3 ?_ | refine callM_p h3 rfl ?_ | refine callK_pf rfl h3 ?_ | refine callK_p h4 ?_ | refine callM_p h4 rfl ?_ | refine callK_pf rfl h4 ?_ | refine callK_p h5 ?_ | refine callM_p h5 rfl ?_ | refine callK_pf rfl h5 ?_ | fail) <;> conv => whnf)
      rfl
    | false =>
      rw [hc] at h3
      by_cases hk : k = 2
      · rw [decide_eq_true hk]
        repeat' ((first | refine brP_t (by assumption) ?_ | refine brP_f (by assumption) ?_ | refine brP_t (decide_eq_true (by omega)) ?_ | refine brP_f (decide_eq_false (by omega)) ?_ | refine brP_t (nd_t (by omega)) ?_ | refine brP_f (nd_f (by omega)) ?_ | refine callK_p h1 ?_ | refine callM_p h1 rfl ?_ | refine callK_pf rfl h1 ?_ | refine callK_p h2 ?_ | refine callM_p h2 rfl ?_ | refine callK_pf rfl h2 ?_ | refine callK_p h3 ?_ | refine callM_p h3 rfl ?_ | refine callK_pf rfl h3 ?_ | refine callK_p h4 ?_ | refine callM_p h4 rfl ?_ | refine callK_pf rfl h4 ?_ | refine callK_p h5 ?_ | refine callM_p h5 rfl ?_ | refine callK_pf rfl h5 ?_ | fail) <;> conv => whnf)
        rfl
      · rw [decide_eq_false hk]
        repeat' ((first | refine brP_t (by assumption) ?_ | refine brP_f (by assumption) ?_ | refine brP_t (decide_eq_true (by omega)) ?_ | refine brP_f (decide_eq_false (by omega)) ?_ | refine brP_t (nd_t (by omega)) ?_ | refine brP_f (nd_f (by omega)) ?_ | refine callK_p h1 ?_ | refine callM_p h1 rfl ?_ | refine callK_pf rfl h1 ?_ | refine callK_p h2 ?_ | refine callM_p h2 rfl ?_ | refine callK_pf rfl h2 ?_ | refine callK_p h3 ?_ | refine callM_p h3 rfl ?_ | refine callK_pf rfl h3 ?_ | refine callK_p h4 ?_ | refine callM_p h4 rfl ?_ | refine callK_pf rfl h4 ?_ | refine callK_p h5 ?_ | refine callM_p h5 rfl ?_ | refine callK_pf rfl h5 ?_ | fail) <;> conv => whnf)
        rfl
  | false =>
    rw [hb] at h2
    repeat' ((first | refine brP_t (by assumption) ?_ | refine brP_f (by assumption) ?_ | refine brP_t (decide_eq_true (by omega)) ?_ | refine brP_f (decide_eq_false (by omega)) ?_ | refine brP_t (nd_t (by omega)) ?_ | refine brP_f (nd_f (by omega)) ?_ | refine callK_p h2 ?_ | refine callM_p h2 rfl ?_ | refine callK_pf rfl h2 ?_ | refine callK_p h4 ?_ | refine callM_p h4 rfl ?_ | refine callK_pf rfl h4 ?_ | fail) <;> conv => whnf)
    rfl
end Go.Ab.S
