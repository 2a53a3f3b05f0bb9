/- Part of a proof; no condition. -/
import Derived.Test.YteipepbijfdciaaVerV2
set_option linter.unusedSimpArgs false
set_option linter.unusedVariables false
namespace Go.Ab.S
open Go Go.Ab Go.Proofs
attribute [local irreducible] SemS
set_option maxRecDepth 100000
theorem R14_List_ok (e : Int) (es : List (List PV)) (hz : ∀ r ∈ es, Pok r) (hl : es.length ≤ 1000) (hk : 0 ≤ keptN e ∧ keptN e ≤ es.length) : EvP PR G f_R14_List [rs e es] (slv (es.drop (es.length - (keptN e).toNat))) := by
  refine EvP.of_wpf false hm c_R14_List rfl ?_
  have hz2 : ∀ r ∈ es, r.length = 66 := fun r hr => (hz r hr).len
  have hw : IntKind.i64.wrap ((es.length : Int) - keptN e) = ((es.length - (keptN e).toNat : Nat) : Int) := by rw [wrap64 (by omega)]; omega
  conv => whnf
  repeat' ((first | refine brP_t (by assumption) ?_ | refine brP_f (by assumption) ?_ | refine brP_t (decide_eq_true (by omega)) ?_ | refine brP_f (decide_eq_false (by omega)) ?_ | refine brP_t (nd_t (by omega)) ?_ | refine brP_f (nd_f (by omega)) ?_ | refine callK_p (R14_Kept_ok _) ?_ | refine callM_p (R14_Kept_ok _) rfl ?_ | refine callK_pf rfl (R14_Kept_ok _) ?_ | (refine gd_mk ?_ ?_; focus (rw [hw]; simp [hz2]; omega; done)) | fail) <;> conv => whnf)
  rw [hw]
  simp only [Int.toNat_natCast, List.take_length]
  rfl
/-- A policy that tells a number. -/
def numN (n : Nat) : List PV := putAt (putAt firstP (49 + n % 16) [.int .u8 16]) 1 [.int .u16 0, .int .u16 n]
theorem num_ok (n : Nat) : Pok (numN n) := by
  unfold Pok numN
  have h : n % 16 < 16 := Nat.mod_lt _ (by omega)
  generalize n % 16 = i at *
  have : i = 0 ∨ i = 1 ∨ i = 2 ∨ i = 3 ∨ i = 4 ∨ i = 5 ∨ i = 6 ∨ i = 7 ∨ i = 8 ∨ i = 9 ∨ i = 10 ∨ i = 11 ∨ i = 12 ∨ i = 13 ∨ i = 14 ∨ i = 15 := by omega
  rcases this with rfl | rfl | rfl | rfl | rfl | rfl | rfl | rfl | rfl | rfl | rfl | rfl | rfl | rfl | rfl | rfl <;> rfl
theorem number_ok (n : Nat) (hn : n < 65536) : EvP PR G f_L14_number [iv n] (.agg (numN n)) := by
  refine EvP.of_wpf false hm c_L14_number rfl ?_
  conv => whnf
  have ht : (n : Int).tmod 16 = ((n % 16 : Nat) : Int) := rfl
  have h16 : n % 16 < 16 := Nat.mod_lt _ (by omega)
  have hf : firstP.length = 66 := rfl
  have hw : IntKind.u16.wrap (n : Int) = n := wrap16 (by omega)
  repeat' ((first | refine brP_t (by assumption) ?_ | refine brP_f (by assumption) ?_ | refine brP_t (decide_eq_true (by omega)) ?_ | refine brP_f (decide_eq_false (by omega)) ?_ | refine brP_t (nd_t (by omega)) ?_ | refine brP_f (nd_f (by omega)) ?_ | refine callK_p First_ok ?_ | refine callM_p First_ok rfl ?_ | refine callK_pf rfl First_ok ?_ | ((rw [put_all (us := firstP) (by rfl)])) | (refine gd_mk ?_ ?_; focus (rw [ht]; simp; omega; done)) | fail) <;> conv => whnf)
  have e1 : 0 + 49 + ((n : Int).tmod 16).toNat * 1 = 49 + n % 16 := by rw [ht, Int.toNat_natCast]; omega
  rw [e1, hw]
  have hql : (putAt firstP (49 + n % 16) [.int .u8 16]).length = 66 := by rw [putAt_len (by simp [hf]; omega)]; exact hf
  have hnn : numN n = putAt (putAt firstP (49 + n % 16) [.int .u8 16]) 1 [.int .u16 0, .int .u16 n] := rfl
  have hnl := (num_ok n).len
  rw [hnn] at hnl ⊢
  generalize putAt firstP (49 + n % 16) [.int .u8 16] = q at *
  have hnl2 : (putAt q (0 + 1 + Int.toNat 0 * 2) [.int .u16 0, .int .u16 n]).length = 66 := hnl
  repeat' ((first | refine brP_t (by assumption) ?_ | refine brP_f (by assumption) ?_ | refine brP_t (decide_eq_true (by omega)) ?_ | refine brP_f (decide_eq_false (by omega)) ?_ | refine brP_t (nd_t (by omega)) ?_ | refine brP_f (nd_f (by omega)) ?_ | ((rw [td hnl2])) | ((rw [put_all (us := putAt q (0 + 1 + Int.toNat 0 * 2) _) (by rw [hnl2]; rfl)])) | (refine gd_mk ?_ ?_; focus (simp [hql]; done)) | (refine gd_mk ?_ ?_; focus (rw [hnl2]; simp; done)) | (refine gd_mk ?_ ?_; focus (simp [hnl2]; done)) | fail) <;> conv => whnf)
  rfl
theorem L14_alive_ok : EvP PR G f_L14_alive [] (bv true) := EvP.of_isT R0_ok 10 rfl (by kernel_rfl)
end Go.Ab.S
