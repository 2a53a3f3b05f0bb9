/- Part of a proof; no condition. -/
import Derived.Test.YtjdkjlmcnpjohaaDoorFenceF2
set_option linter.unusedSimpArgs false
set_option linter.unusedVariables false
namespace Go.Ab.S
open Go Go.Ab Go.Proofs
attribute [local irreducible] SemS
set_option maxRecDepth 100000
/-- Bytes of a view by numbers. -/
def seenV (e n : Nat) (total now : List (Int × Int)) : AV := .agg [.int .u8 e, .int .u8 n, .sl (prows total), .sl (prows now)]
theorem prows_len {l : List (Int × Int)} : (prows l).length = l.length := by simp [prows]
theorem prows_all (l : List (Int × Int)) : ((prows l).all fun r => r.length == 2) = true := by simp [prows, prow]
theorem cut20 (l : List (Int × Int)) : List.drop 0 (List.take (if (20 : Int) < (l.length : Int) then (20 : Int) else (l.length : Int)).toNat (prows l)) = prows (l.take 20) := by
  rw [List.drop_zero]
  split
  · simp [prows, List.map_take]
  · rw [Int.toNat_natCast, List.take_of_length_le (by simp [prows]), List.take_of_length_le (by omega)]
theorem min20 (l : List (Int × Int)) : (0 : Int) ≤ (if (20 : Int) < (l.length : Int) then (20 : Int) else (l.length : Int)) ∧ (if (20 : Int) < (l.length : Int) then (20 : Int) else (l.length : Int)).toNat ≤ l.length := by
  split <;> omega
theorem L29_views_ok (e n : Nat) (he : e < 256) (hn : n < 256) (total now : List (Int × Int)) : EvP PR G f_L29_views [seenV e n total now] (.tup [vv ((e % 255 : Nat) : Int) (anyC n).1 (anyC n).2 (mapS n (total.take 20) (now.take 20)) (madeN (total.take 20)), vv ((e % 255 : Nat) : Int) (anyC n).1 (anyC n).2 (mapS n (total.take 20) (now.take 20)) (madeN (total.take 20))]) := by
  have h1 := R29_Some_ok e n he hn (total.take 20) (now.take 20) (by rw [List.length_take]; omega) (by rw [List.length_take]; omega)
  rw [← cut20 total, ← cut20 now] at h1
  have l1 := prows_len (l := total)
  have l2 := prows_len (l := now)
  have a1 := prows_all total
  have a2 := prows_all now
  obtain ⟨m1, m2⟩ := min20 total
  obtain ⟨m3, m4⟩ := min20 now
  generalize mapS n (total.take 20) (now.take 20) = M at *
  generalize madeN (total.take 20) = T at *
  generalize (anyC n).1 = p at *
  generalize (anyC n).2 = a at *
  refine EvP.of_wpf false hm c_L29_views rfl ?_
  conv => whnf
  rw [l1]
  repeat' ((first | refine brP_t (by assumption) ?_ | refine brP_f (by assumption) ?_ | refine brP_t (decide_eq_true (by omega)) ?_ | refine brP_f (decide_eq_false (by omega)) ?_ | refine brP_t (nd_t (by omega)) ?_ | refine brP_f (nd_f (by omega)) ?_ | ((rw [l2])) | (refine gd_mk ?_ ?_; focus (simp only [a1, decide_eq_true m1, Bool.and_true, Bool.true_and]; exact decide_eq_true ⟨Nat.zero_le _, m2⟩; done)) | (refine gd_mk ?_ ?_; focus (simp only [a2, decide_eq_true m3, Bool.and_true, Bool.true_and]; exact decide_eq_true ⟨Nat.zero_le _, m4⟩; done)) | refine callM_p h1 rfl ?_ | refine wpfS_seq1 ?_ | refine wpfS_go ?_ | fail) <;> conv => whnf)
  rfl
end Go.Ab.S
