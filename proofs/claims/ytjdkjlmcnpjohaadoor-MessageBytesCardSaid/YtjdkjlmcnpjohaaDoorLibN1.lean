/- Part of a proof; no condition. -/
import Derived.Test.YtjdkjlmcnpjohaaDoorLibA11
set_option linter.unusedSimpArgs false
set_option linter.unusedVariables false
namespace Go.Ab.S
open Go Go.Ab Go.Proofs
attribute [local irreducible] SemS
set_option maxRecDepth 100000
/-! ### Cursors -/
def cur (p a : Int) : AV := .agg [.int .i64 p, .int .i64 a]
def many (p a : Int) : Int := if p = 2 ∨ p = 3 then 12 else if p = 1 ∨ p = 4 then a else 0
def sweptB (p a k : Int) : Bool := decide (0 ≤ k) && decide (k < many p a)
def looseB (p a n : Int) : Bool := decide (0 ≤ n) && (decide (n < 4) && (decide (p = 3) || (decide (p = 2) && decide (n < a))))
theorem lane_swept_ok (p a : Int) : EvP PR G f_lane_swept [cur p a] (iv (many p a)) := by
  refine EvP.of_wpf true hm c_lane_swept rfl ?_
  conv => whnf
  repeat' ((first | refine brP_t (by assumption) ?_ | refine brP_f (by assumption) ?_ | refine brP_mk (fun h => ?_) (fun h => ?_) | fail) <;> conv => whnf)
  all_goals simp_all [many, finV, iv]
theorem lane_Swept_ok (p a k : Int) : EvP PR G f_lane_Swept [cur p a, iv k] (bv (sweptB p a k)) := by
  have h := lane_swept_ok p a
  unfold sweptB
  generalize many p a = m at *
  refine EvP.of_wpf true hm c_lane_Swept rfl ?_
  conv => whnf
  by_cases h0 : 0 ≤ k
  · rw [decide_eq_true h0]
    repeat' ((first | refine brP_t (by assumption) ?_ | refine brP_f (by assumption) ?_ | refine brP_t (decide_eq_true (by omega)) ?_ | refine brP_f (decide_eq_false (by omega)) ?_ | refine brP_t (nd_t (by omega)) ?_ | refine brP_f (nd_f (by omega)) ?_ | refine callK_p h ?_ | refine callM_p h rfl ?_ | refine callK_pf rfl h ?_ | fail) <;> conv => whnf)
    rfl
  · rw [decide_eq_false h0]
    repeat' ((first | refine brP_t (by assumption) ?_ | refine brP_f (by assumption) ?_ | refine brP_t (decide_eq_true (by omega)) ?_ | refine brP_f (decide_eq_false (by omega)) ?_ | refine brP_t (nd_t (by omega)) ?_ | refine brP_f (nd_f (by omega)) ?_ | refine callK_p h ?_ | refine callM_p h rfl ?_ | refine callK_pf rfl h ?_ | fail) <;> conv => whnf)
    rfl
theorem lane_Loose_ok (p a n : Int) : EvP PR G f_lane_Loose [cur p a, iv n] (bv (looseB p a n)) := by
  unfold looseB
  refine EvP.of_wpf true hm c_lane_Loose rfl ?_
  conv => whnf
  by_cases h0 : 0 ≤ n
  · by_cases h1 : n < 4
    · rw [decide_eq_true h0, decide_eq_true h1]
      by_cases h2 : p = 3
      · rw [decide_eq_true h2]
        repeat' ((first | refine brP_t (by assumption) ?_ | refine brP_f (by assumption) ?_ | refine brP_t (decide_eq_true (by omega)) ?_ | refine brP_f (decide_eq_false (by omega)) ?_ | refine brP_t (nd_t (by omega)) ?_ | refine brP_f (nd_f (by omega)) ?_ | fail) <;> conv => whnf)
        rfl
      · rw [decide_eq_false h2]
        by_cases h3 : p = 2
        · rw [decide_eq_true h3]
          repeat' ((first | refine brP_t (by assumption) ?_ | refine brP_f (by assumption) ?_ | refine brP_t (decide_eq_true (by omega)) ?_ | refine brP_f (decide_eq_false (by omega)) ?_ | refine brP_t (nd_t (by omega)) ?_ | refine brP_f (nd_f (by omega)) ?_ | fail) <;> conv => whnf)
          rfl
        · rw [decide_eq_false h3]
          repeat' ((first | refine brP_t (by assumption) ?_ | refine brP_f (by assumption) ?_ | refine brP_t (decide_eq_true (by omega)) ?_ | refine brP_f (decide_eq_false (by omega)) ?_ | refine brP_t (nd_t (by omega)) ?_ | refine brP_f (nd_f (by omega)) ?_ | fail) <;> conv => whnf)
          rfl
    · rw [decide_eq_true h0, decide_eq_false h1]
      repeat' ((first | refine brP_t (by assumption) ?_ | refine brP_f (by assumption) ?_ | refine brP_t (decide_eq_true (by omega)) ?_ | refine brP_f (decide_eq_false (by omega)) ?_ | refine brP_t (nd_t (by omega)) ?_ | refine brP_f (nd_f (by omega)) ?_ | fail) <;> conv => whnf)
      rfl
  · rw [decide_eq_false h0]
    repeat' ((first | refine brP_t (by assumption) ?_ | refine brP_f (by assumption) ?_ | refine brP_t (decide_eq_true (by omega)) ?_ | refine brP_f (decide_eq_false (by omega)) ?_ | refine brP_t (nd_t (by omega)) ?_ | refine brP_f (nd_f (by omega)) ?_ | fail) <;> conv => whnf)
    rfl
def stampV (p a e k : Int) : Int := if sweptB p a k then e + 1 else e
theorem lane_Stamp_ok (p a e k : Int) (he : 0 ≤ e ∧ e < 1000) : EvP PR G f_lane_Stamp [cur p a, iv e, iv k] (iv (stampV p a e k)) := by
  have h := lane_Swept_ok p a k
  have hw : IntKind.i64.wrap (e + 1) = e + 1 := wrap64 (by omega)
  unfold stampV
  refine EvP.of_wpf true hm c_lane_Stamp rfl ?_
  conv => whnf
  cases hs : sweptB p a k with
  | true =>
    rw [hs] at h
    repeat' ((first | refine brP_t (by assumption) ?_ | refine brP_f (by assumption) ?_ | refine brP_t (decide_eq_true (by omega)) ?_ | refine brP_f (decide_eq_false (by omega)) ?_ | refine brP_t (nd_t (by omega)) ?_ | refine brP_f (nd_f (by omega)) ?_ | refine callK_p h ?_ | refine callM_p h rfl ?_ | refine callK_pf rfl h ?_ | fail) <;> conv => whnf)
    exact (congrArg iv hw).trans rfl
  | false =>
    rw [hs] at h
    repeat' ((first | refine brP_t (by assumption) ?_ | refine brP_f (by assumption) ?_ | refine brP_t (decide_eq_true (by omega)) ?_ | refine brP_f (decide_eq_false (by omega)) ?_ | refine brP_t (nd_t (by omega)) ?_ | refine brP_f (nd_f (by omega)) ?_ | refine callK_p h ?_ | refine callM_p h rfl ?_ | refine callK_pf rfl h ?_ | fail) <;> conv => whnf)
    rfl
theorem R28_Many_ok (p a : Int) (hp : 0 ≤ p ∧ p ≤ 4) : EvP PR G f_R28_Many [cur p a] (iv (many p a)) := by
  refine EvP.of_wpf true hm c_R28_Many rfl ?_
  conv => whnf
  have : p = 0 ∨ p = 1 ∨ p = 2 ∨ p = 3 ∨ p = 4 := by omega
  rcases this with rfl | rfl | rfl | rfl | rfl
  all_goals
    repeat' ((first | refine brP_t (by assumption) ?_ | refine brP_f (by assumption) ?_ | refine brP_t (decide_eq_true (by omega)) ?_ | refine brP_f (decide_eq_false (by omega)) ?_ | refine brP_t (nd_t (by omega)) ?_ | refine brP_f (nd_f (by omega)) ?_ | fail) <;> conv => whnf)
    rfl
theorem R28_Swept_ok (p a k : Int) (hp : 0 ≤ p ∧ p ≤ 4) : EvP PR G f_R28_Swept [cur p a, iv k] (bv (sweptB p a k)) := by
  have h := R28_Many_ok p a hp
  unfold sweptB
  generalize many p a = m at *
  refine EvP.of_wpf true hm c_R28_Swept rfl ?_
  conv => whnf
  by_cases h0 : 0 ≤ k
  · rw [decide_eq_true h0]
    repeat' ((first | refine brP_t (by assumption) ?_ | refine brP_f (by assumption) ?_ | refine brP_t (decide_eq_true (by omega)) ?_ | refine brP_f (decide_eq_false (by omega)) ?_ | refine brP_t (nd_t (by omega)) ?_ | refine brP_f (nd_f (by omega)) ?_ | refine callK_p h ?_ | refine callM_p h rfl ?_ | refine callK_pf rfl h ?_ | fail) <;> conv => whnf)
    rfl
  · rw [decide_eq_false h0]
    repeat' ((first | refine brP_t (by assumption) ?_ | refine brP_f (by assumption) ?_ | refine brP_t (decide_eq_true (by omega)) ?_ | refine brP_f (decide_eq_false (by omega)) ?_ | refine brP_t (nd_t (by omega)) ?_ | refine brP_f (nd_f (by omega)) ?_ | refine callK_p h ?_ | refine callM_p h rfl ?_ | refine callK_pf rfl h ?_ | fail) <;> conv => whnf)
    rfl
theorem R28_Loose_ok (p a n : Int) : EvP PR G f_R28_Loose [cur p a, iv n] (bv (looseB p a n)) := by
  unfold looseB
  refine EvP.of_wpf true hm c_R28_Loose rfl ?_
  conv => whnf
  by_cases h0 : 0 ≤ n
  · by_cases h1 : n < 4
    · rw [decide_eq_true h0, decide_eq_true h1]
      by_cases h2 : p = 3
      · rw [decide_eq_true h2]
        repeat' ((first | refine brP_t (by assumption) ?_ | refine brP_f (by assumption) ?_ | refine brP_t (decide_eq_true (by omega)) ?_ | refine brP_f (decide_eq_false (by omega)) ?_ | refine brP_t (nd_t (by omega)) ?_ | refine brP_f (nd_f (by omega)) ?_ | fail) <;> conv => whnf)
        rfl
      · rw [decide_eq_false h2]
        by_cases h3 : p = 2
        · rw [decide_eq_true h3]
          repeat' ((first | refine brP_t (by assumption) ?_ | refine brP_f (by assumption) ?_ | refine brP_t (decide_eq_true (by omega)) ?_ | refine brP_f (decide_eq_false (by omega)) ?_ | refine brP_t (nd_t (by omega)) ?_ | refine brP_f (nd_f (by omega)) ?_ | fail) <;> conv => whnf)
          rfl
        · rw [decide_eq_false h3]
          repeat' ((first | refine brP_t (by assumption) ?_ | refine brP_f (by assumption) ?_ | refine brP_t (decide_eq_true (by omega)) ?_ | refine brP_f (decide_eq_false (by omega)) ?_ | refine brP_t (nd_t (by omega)) ?_ | refine brP_f (nd_f (by omega)) ?_ | fail) <;> conv => whnf)
          rfl
    · rw [decide_eq_true h0, decide_eq_false h1]
      repeat' ((first | refine brP_t (by assumption) ?_ | refine brP_f (by assumption) ?_ | refine brP_t (decide_eq_true (by omega)) ?_ | refine brP_f (decide_eq_false (by omega)) ?_ | refine brP_t (nd_t (by omega)) ?_ | refine brP_f (nd_f (by omega)) ?_ | fail) <;> conv => whnf)
      rfl
  · rw [decide_eq_false h0]
    repeat' ((first | refine brP_t (by assumption) ?_ | refine brP_f (by assumption) ?_ | refine brP_t (decide_eq_true (by omega)) ?_ | refine brP_f (decide_eq_false (by omega)) ?_ | refine brP_t (nd_t (by omega)) ?_ | refine brP_f (nd_f (by omega)) ?_ | fail) <;> conv => whnf)
    rfl
theorem R28_Stamp_ok (p a e k : Int) (hp : 0 ≤ p ∧ p ≤ 4) (he : 0 ≤ e ∧ e < 1000) : EvP PR G f_R28_Stamp [cur p a, iv e, iv k] (iv (stampV p a e k)) := by
  have h := R28_Swept_ok p a k hp
  have hw : IntKind.i64.wrap (e + 1) = e + 1 := wrap64 (by omega)
  unfold stampV
  refine EvP.of_wpf true hm c_R28_Stamp rfl ?_
  conv => whnf
  cases hs : sweptB p a k with
  | true =>
    rw [hs] at h
    repeat' ((first | refine brP_t (by assumption) ?_ | refine brP_f (by assumption) ?_ | refine brP_t (decide_eq_true (by omega)) ?_ | refine brP_f (decide_eq_false (by omega)) ?_ | refine brP_t (nd_t (by omega)) ?_ | refine brP_f (nd_f (by omega)) ?_ | refine callK_p h ?_ | refine callM_p h rfl ?_ | refine callK_pf rfl h ?_ | fail) <;> conv => whnf)
    exact (congrArg iv hw).trans rfl
  | false =>
    rw [hs] at h
    repeat' ((first | refine brP_t (by assumption) ?_ | refine brP_f (by assumption) ?_ | refine brP_t (decide_eq_true (by omega)) ?_ | refine brP_f (decide_eq_false (by omega)) ?_ | refine brP_t (nd_t (by omega)) ?_ | refine brP_f (nd_f (by omega)) ?_ | refine callK_p h ?_ | refine callM_p h rfl ?_ | refine callK_pf rfl h ?_ | fail) <;> conv => whnf)
    rfl
/-- All cursors, as the document lists them. -/
def anyL : List (Int × Int) := [(1,0),(1,1),(1,2),(1,3),(1,4),(1,5),(1,6),(1,7),(1,8),(1,9),(1,10),(1,11),(2,0),(2,1),(2,2),(2,3),(3,0),(0,0),(4,12),(4,11),(4,10),(4,9),(4,8),(4,7),(4,6),(4,5),(4,4),(4,3),(4,2),(4,1),(0,0)]
def anyC (n : Nat) : Int × Int := anyL.getD (n % 31) (0, 0)
def crows (l : List (Int × Int)) : List (List PV) := l.map fun q => [.int .i64 q.1, .int .i64 q.2]
theorem R28_All_own : EvR PR G f_R28_All [] ⟨[], [.row [.int .i64 0, .int .i64 0]]⟩ (.c (.os (.loc 1) 18)) ⟨[], [.row [.int .i64 0, .int .i64 0], .arr 2 false (crows (anyL.take 18))]⟩ := R0_ok.call 10 false f_R28_All [] _ _ _ (by kernel_rfl)
theorem R28_Back_ok : EvP PR G f_R28_Back [] (slv (crows (anyL.drop 18))) := EvP.of_rEq R0_ok 10 rfl (by kernel_rfl)
theorem R28_Any_ok (n : Nat) (h : n < 256) : EvP PR G f_R28_Any [.c (.p (.int .u8 n))] (cur (anyC n).1 (anyC n).2) := by
  have hw : IntKind.i64.wrap (n : Int) = n := wrap64 (by omega)
  have hL : ((crows (anyL.take 18) ++ crows (anyL.drop 18)).length : Int) = 31 := rfl
  have hr : (n : Int).tmod 31 = ((n % 31 : Nat) : Int) := rfl
  have hlt : n % 31 < 31 := by omega
  have hg : (crows (anyL.take 18) ++ crows (anyL.drop 18))[n % 31]? = some [.int .i64 (anyC n).1, .int .i64 (anyC n).2] := by
    have hh : anyL[n % 31]? = some anyL[n % 31] := List.getElem?_eq_getElem (show n % 31 < anyL.length from hlt)
    rw [show crows (anyL.take 18) ++ crows (anyL.drop 18) = crows anyL from rfl, crows, List.getElem?_map, hh]
    unfold anyC
    rw [List.getD_eq_getElem?_getD, hh]
    rfl
  refine EvP.of_wpf true hm c_R28_Any rfl ?_
  conv => whnf
  refine callK_r R28_All_own ?_
  conv => whnf
  refine callK_p R28_Back_ok ?_
  conv => whnf
  rw [hw, hL, hr]
  refine brP_t (decide_eq_true ⟨by omega, Int.ofNat_lt.2 hlt, rfl, rfl⟩) ?_
  conv => whnf
  conv in (opS _ _ _ _) => whnf
  rw [Int.toNat_natCast, hg]
  conv => whnf
  rfl
theorem anyC_mem (n : Nat) : anyC n ∈ anyL := by
  unfold anyC
  rw [List.getD_eq_getElem?_getD, List.getElem?_eq_getElem (show n % 31 < anyL.length by show n % 31 < 31; omega)]
  exact List.getElem_mem _
theorem anyL_ok : ∀ q ∈ anyL, 0 ≤ q.1 ∧ q.1 ≤ 4 ∧ 0 ≤ q.2 ∧ q.2 ≤ 12 ∧ (q.1 = 0 → q.2 = 0) ∧ (q.1 = 1 → q.2 ≤ 11) := by decide
/-! ### Names -/
def idv (s i : Nat) (k n : Int) : AV := .agg [.int .u16 s, .int .u16 i, .int .i64 k, .int .i64 n]
def idB (k n : Int) : Bool := decide (1 ≤ k) && (decide (k ≤ 3) && (decide (0 ≤ n) && decide (n < 4)))
theorem idB_iff {k n : Int} : idB k n = true ↔ 1 ≤ k ∧ k ≤ 3 ∧ 0 ≤ n ∧ n < 4 := by simp [idB]
theorem ident_Fine_ok (s i : Nat) (k n : Int) : EvP PR G f_ident_Fine [idv s i k n] (bv (idB k n)) := by
  refine EvP.of_wpf true hm c_ident_Fine rfl ?_
  conv => whnf
  by_cases h0 : 1 ≤ k
  · by_cases h1 : k ≤ 3
    · by_cases h2 : 0 ≤ n
      · by_cases h3 : n < 4
        · rw [show idB k n = true by rw [idB_iff]; omega]
          repeat' ((first | refine brP_t (by assumption) ?_ | refine brP_f (by assumption) ?_ | refine brP_t (decide_eq_true (by omega)) ?_ | refine brP_f (decide_eq_false (by omega)) ?_ | refine brP_t (nd_t (by omega)) ?_ | refine brP_f (nd_f (by omega)) ?_ | fail) <;> conv => whnf)
          exact congrArg bv (decide_eq_true h3)
        · rw [show idB k n = false by rw [← Bool.not_eq_true, idB_iff]; omega]
          repeat' ((first | refine brP_t (by assumption) ?_ | refine brP_f (by assumption) ?_ | refine brP_t (decide_eq_true (by omega)) ?_ | refine brP_f (decide_eq_false (by omega)) ?_ | refine brP_t (nd_t (by omega)) ?_ | refine brP_f (nd_f (by omega)) ?_ | fail) <;> conv => whnf)
          exact congrArg bv (decide_eq_false h3)
      · rw [show idB k n = false by rw [← Bool.not_eq_true, idB_iff]; omega]
        repeat' ((first | refine brP_t (by assumption) ?_ | refine brP_f (by assumption) ?_ | refine brP_t (decide_eq_true (by omega)) ?_ | refine brP_f (decide_eq_false (by omega)) ?_ | refine brP_t (nd_t (by omega)) ?_ | refine brP_f (nd_f (by omega)) ?_ | fail) <;> conv => whnf)
        rfl
    · rw [show idB k n = false by rw [← Bool.not_eq_true, idB_iff]; omega]
      repeat' ((first | refine brP_t (by assumption) ?_ | refine brP_f (by assumption) ?_ | refine brP_t (decide_eq_true (by omega)) ?_ | refine brP_f (decide_eq_false (by omega)) ?_ | refine brP_t (nd_t (by omega)) ?_ | refine brP_f (nd_f (by omega)) ?_ | fail) <;> conv => whnf)
      rfl
  · rw [show idB k n = false by rw [← Bool.not_eq_true, idB_iff]; omega]
    repeat' ((first | refine brP_t (by assumption) ?_ | refine brP_f (by assumption) ?_ | refine brP_t (decide_eq_true (by omega)) ?_ | refine brP_f (decide_eq_false (by omega)) ?_ | refine brP_t (nd_t (by omega)) ?_ | refine brP_f (nd_f (by omega)) ?_ | fail) <;> conv => whnf)
    rfl
theorem R21_Fine_ok (s i : Nat) (k n : Int) : EvP PR G f_R21_Fine [idv s i k n] (bv (idB k n)) := by
  refine EvP.of_wpf true hm c_R21_Fine rfl ?_
  conv => whnf
  by_cases h0 : 1 ≤ k ∧ k ≤ 3
  · have hk : k = 1 ∨ k = 2 ∨ k = 3 := by omega
    by_cases h2 : 0 ≤ n ∧ n < 4
    · rw [show idB k n = true by rw [idB_iff]; omega]
      have hn : n = 0 ∨ n = 1 ∨ n = 2 ∨ n = 3 := by omega
      rcases hk with rfl | rfl | rfl <;> rcases hn with rfl | rfl | rfl | rfl
      all_goals
        repeat' ((first | refine brP_t (by assumption) ?_ | refine brP_f (by assumption) ?_ | refine brP_t (decide_eq_true (by omega)) ?_ | refine brP_f (decide_eq_false (by omega)) ?_ | refine brP_t (nd_t (by omega)) ?_ | refine brP_f (nd_f (by omega)) ?_ | fail) <;> conv => whnf)
        rfl
    · rw [show idB k n = false by rw [← Bool.not_eq_true, idB_iff]; omega]
      rcases hk with rfl | rfl | rfl
      all_goals
        repeat' ((first | refine brP_t (by assumption) ?_ | refine brP_f (by assumption) ?_ | refine brP_t (decide_eq_true (by omega)) ?_ | refine brP_f (decide_eq_false (by omega)) ?_ | refine brP_t (nd_t (by omega)) ?_ | refine brP_f (nd_f (by omega)) ?_ | fail) <;> conv => whnf)
        exact congrArg bv (decide_eq_false (by omega))
  · rw [show idB k n = false by rw [← Bool.not_eq_true, idB_iff]; omega]
    repeat' ((first | refine brP_t (by assumption) ?_ | refine brP_f (by assumption) ?_ | refine brP_t (decide_eq_true (by omega)) ?_ | refine brP_f (decide_eq_false (by omega)) ?_ | refine brP_t (nd_t (by omega)) ?_ | refine brP_f (nd_f (by omega)) ?_ | fail) <;> conv => whnf)
    rfl
def laneV (k n : Int) : Int := if idB k n then (k - 1) * 4 + n else -1
theorem ident_Lane_ok (s i : Nat) (k n : Int) : EvP PR G f_ident_Lane [idv s i k n] (iv (laneV k n)) := by
  have h := ident_Fine_ok s i k n
  unfold laneV
  refine EvP.of_wpf true hm c_ident_Lane rfl ?_
  conv => whnf
  cases hf : idB k n with
  | true =>
    rw [hf] at h
    obtain ⟨h1, h2, h3, h4⟩ := idB_iff.1 hf
    repeat' ((first | refine brP_t (by assumption) ?_ | refine brP_f (by assumption) ?_ | refine brP_t (decide_eq_true (by omega)) ?_ | refine brP_f (decide_eq_false (by omega)) ?_ | refine brP_t (nd_t (by omega)) ?_ | refine brP_f (nd_f (by omega)) ?_ | refine callK_p h ?_ | refine callM_p h rfl ?_ | refine callK_pf rfl h ?_ | fail) <;> conv => whnf)
    exact congrArg iv (by rw [wrap64 (n := k - 1) (by omega), wrap64 (n := (k - 1) * 4) (by omega), wrap64 (by omega)]; rfl)
  | false =>
    rw [hf] at h
    repeat' ((first | refine brP_t (by assumption) ?_ | refine brP_f (by assumption) ?_ | refine brP_t (decide_eq_true (by omega)) ?_ | refine brP_f (decide_eq_false (by omega)) ?_ | refine brP_t (nd_t (by omega)) ?_ | refine brP_f (nd_f (by omega)) ?_ | refine callK_p h ?_ | refine callM_p h rfl ?_ | refine callK_pf rfl h ?_ | fail) <;> conv => whnf)
    rfl
theorem R21_At_ok (s i n : Nat) (h : n < 12) : EvP PR G f_R21_At [lab s i, iv n] (idv s i ((n / 4 + 1 : Nat) : Int) ((n % 4 : Nat) : Int)) := by
  refine EvP.of_wpf true hm c_R21_At rfl ?_
  have : n = 0 ∨ n = 1 ∨ n = 2 ∨ n = 3 ∨ n = 4 ∨ n = 5 ∨ n = 6 ∨ n = 7 ∨ n = 8 ∨ n = 9 ∨ n = 10 ∨ n = 11 := by omega
  rcases this with rfl | rfl | rfl | rfl | rfl | rfl | rfl | rfl | rfl | rfl | rfl | rfl
  all_goals
    conv => whnf
    repeat' ((first | refine brP_t (by assumption) ?_ | refine brP_f (by assumption) ?_ | refine brP_t (decide_eq_true (by omega)) ?_ | refine brP_f (decide_eq_false (by omega)) ?_ | refine brP_t (nd_t (by omega)) ?_ | refine brP_f (nd_f (by omega)) ?_ | refine callK_p (R21_Fine_ok _ _ _ _) ?_ | refine callM_p (R21_Fine_ok _ _ _ _) rfl ?_ | refine callK_pf rfl (R21_Fine_ok _ _ _ _) ?_ | refine SemS.loop1 true hm ?_ | refine wpfS_seq1 ?_ | refine wpfS_go ?_ | fail) <;> conv => whnf)
    rfl
theorem R21_Lane_ok (s i : Nat) (k n : Int) (hf : idB k n = true) : EvP PR G f_R21_Lane [idv s i k n] (iv (laneV k n)) := by
  unfold laneV
  rw [hf]
  obtain ⟨h1, h2, h3, h4⟩ := idB_iff.1 hf
  refine EvP.of_wpf true hm c_R21_Lane rfl ?_
  refine wpf_seq1 ?_
  conv => whnf
  repeat' ((first | refine brP_t (by assumption) ?_ | refine brP_f (by assumption) ?_ | refine brP_t (decide_eq_true (by omega)) ?_ | refine brP_f (decide_eq_false (by omega)) ?_ | refine brP_t (nd_t (by omega)) ?_ | refine brP_f (nd_f (by omega)) ?_ | refine wpfS_seq1 ?_ | refine wpfS_go ?_ | fail) <;> conv => whnf)
  obtain ⟨L, hL⟩ : ∃ L : Nat, (k - 1) * 4 + n = L := ⟨((k - 1) * 4 + n).toNat, by omega⟩
  have hk : k = ((L / 4 + 1 : Nat) : Int) := by omega
  have hn : n = ((L % 4 : Nat) : Int) := by omega
  have hL12 : L < 12 := by omega
  rw [if_pos rfl, hL]
  subst hk hn
  clear h1 h2 h3 h4 hf hL
  refine SemS.loopF true hm (σ := Nat) (fun j => [(3, iv j), (1, .c (.ptr (.loc 0) 0))]) (fun _ => ⟨[], [.row [.int .u16 s, .int .u16 i, .int .i64 ((L / 4 + 1 : Nat) : Int), .int .i64 ((L % 4 : Nat) : Int)]]⟩) (fun j => 12 - j) (fun j => j ≤ L) 0 (Nat.zero_le _) ⟨rfl, rfl, trivial⟩ rfl ?_
  intro j hj
  have hat := R21_At_ok s i j (by omega)
  have hw2 : IntKind.i64.wrap ((j : Int) + 1) = ((j + 1 : Nat) : Int) := by rw [wrap64 (by omega)]; rfl
  refine wpf_seq1 ?_
  conv => whnf
  by_cases hjL : j = L
  · subst hjL
    repeat' ((first | refine brP_t (by assumption) ?_ | refine brP_f (by assumption) ?_ | refine brP_t (decide_eq_true (by omega)) ?_ | refine brP_f (decide_eq_false (by omega)) ?_ | refine brP_t (nd_t (by omega)) ?_ | refine brP_f (nd_f (by omega)) ?_ | refine callK_p hat ?_ | refine callM_p hat rfl ?_ | refine callK_pf rfl hat ?_ | (refine brP_t ?_ ?_; focus (simp; done)) | refine wpfS_seq1 ?_ | refine wpfS_go ?_ | fail) <;> conv => whnf)
    rfl
  · have hne : ¬ (j / 4 + 1 = L / 4 + 1 ∧ j % 4 = L % 4) := by omega
    repeat' ((first | refine brP_t (by assumption) ?_ | refine brP_f (by assumption) ?_ | refine brP_t (decide_eq_true (by omega)) ?_ | refine brP_f (decide_eq_false (by omega)) ?_ | refine brP_t (nd_t (by omega)) ?_ | refine brP_f (nd_f (by omega)) ?_ | refine callK_p hat ?_ | refine callM_p hat rfl ?_ | refine callK_pf rfl hat ?_ | (refine brP_f ?_ ?_; focus (simp; omega)) | refine wpfS_seq1 ?_ | refine wpfS_go ?_ | fail) <;> conv => whnf)
    rw [hw2]
    exact ⟨j + 1, by omega, (show 12 - (j + 1) < 12 - j by omega), ⟨rfl, rfl, trivial⟩, rfl⟩
/-! ### What a name became -/
theorem ident_Now_ok (M : Nat → Nat) (hM : ∀ i, i < 16 → M i ≤ 255) (s i : Nat) (hs : s < 65536) (hi : i < 65536) (k n : Int) : EvP PR G f_ident_Now [mv M, idv s i k n] (lab (setN M s) (setN M i)) := by
  have h := relabel_Label_ok M hM s i hs hi
  refine EvP.of_wpf true hm c_ident_Now rfl ?_
  conv => whnf
  repeat' ((first | refine brP_t (by assumption) ?_ | refine brP_f (by assumption) ?_ | refine brP_t (decide_eq_true (by omega)) ?_ | refine brP_f (decide_eq_false (by omega)) ?_ | refine brP_t (nd_t (by omega)) ?_ | refine brP_f (nd_f (by omega)) ?_ | refine callK_p h ?_ | refine callM_p h rfl ?_ | refine callK_pf rfl h ?_ | fail) <;> conv => whnf)
  rfl
end Go.Ab.S
