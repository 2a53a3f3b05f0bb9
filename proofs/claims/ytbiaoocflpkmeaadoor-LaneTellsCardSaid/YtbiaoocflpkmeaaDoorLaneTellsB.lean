/- Part of a proof; no condition. -/
import Derived.Test.YtbiaoocflpkmeaaDoorLaneTellsA
import Derived.Test.YtbiaoocflpkmeaaDoorAb13
set_option linter.unusedSimpArgs false
set_option linter.unusedVariables false
namespace Go.Ab.S
open Go Go.Ab Go.Proofs
attribute [local irreducible] SemS
set_option maxRecDepth 100000
def lo (p : Int) : Int := if p = 4 then 1 else 0
def hi (p : Int) : Int := if p = 1 then 11 else if p = 2 then 3 else if p = 4 then 12 else 0
theorem in_any {p a : Int} (h0 : 0 ≤ p) (h4 : p ≤ 4) (ha : lo p ≤ a) (hb : a ≤ hi p) : (p, a) ∈ anyL := by
  have : p = 0 ∨ p = 1 ∨ p = 2 ∨ p = 3 ∨ p = 4 := by omega
  rcases this with rfl | rfl | rfl | rfl | rfl <;> simp [lo, hi] at ha hb <;> simp [anyL, allL, backL] <;> omega
theorem chk6 : (anyL.all fun q => rEq (R1.call 10 true 6 [cur q.1 q.2] ⟨[], []⟩) tt) = true := by kernel_rfl
theorem chk7 : (anyL.all fun q => rEq (R1.call 10 true 7 [cur q.1 q.2] ⟨[], []⟩) tt) = true := by kernel_rfl
theorem e6t {p a : Int} (h : (p, a) ∈ anyL) : EvP Tryd.prog G 6 [cur p a] (bv true) := EvP.of_rEq R1_ok 10 rfl (List.all_eq_true.1 chk6 (p, a) h)
theorem e7t {p a : Int} (h : (p, a) ∈ anyL) : EvP Tryd.prog G 7 [cur p a] (bv true) := EvP.of_rEq R1_ok 10 rfl (List.all_eq_true.1 chk7 (p, a) h)
theorem e6f {p a : Int} (h : (p, a) ∉ anyL) : EvP Tryd.prog G 6 [cur p a] (bv false) := by
  by_cases hp : 0 ≤ p ∧ p ≤ 4
  · have hq : p = 0 ∨ p = 1 ∨ p = 2 ∨ p = 3 ∨ p = 4 := by omega
    have hr : ¬ (lo p ≤ a ∧ a ≤ hi p) := fun q => h (in_any hp.1 hp.2 q.1 q.2)
    refine EvP.of_wpf true hm c6 rfl ?_
    rcases hq with rfl | rfl | rfl | rfl | rfl
    all_goals simp [lo, hi] at hr
    all_goals conv => whnf
    repeat' ((first | refine brP_t (by assumption) ?_ | refine brP_f (by assumption) ?_ | refine brP_mk (fun h => ?_) (fun h => ?_)) <;> conv => whnf)
    all_goals simp_all [finV, bv]
    all_goals omega
  · refine EvP.of_wpf true hm c6 rfl ?_
    conv => whnf
    repeat' ((first | refine brP_t (by assumption) ?_ | refine brP_f (by assumption) ?_ | refine brP_mk (fun h => ?_) (fun h => ?_)) <;> conv => whnf)
    all_goals first
      | (exfalso; simp only [decide_eq_true_eq, decide_eq_false_iff_not] at *; omega)
      | rfl
theorem e7f {p a : Int} (h : (p, a) ∉ anyL) : EvP Tryd.prog G 7 [cur p a] (bv false) := by
  have h1 : (p, a) ∉ allL := fun q => h (List.mem_append_left _ q)
  have h2 : (p, a) ∉ backL := fun q => h (List.mem_append_right _ q)
  refine EvP.of_wpf true hm c7 rfl ?_
  conv => whnf
  repeat' ((first | refine brP_t (by assumption) ?_ | refine brP_f (by assumption) ?_ | refine brP_mk (fun h => ?_) (fun h => ?_) | refine callK_p e16 ?_ | refine callK_p e25 ?_ | refine callK_p (e24 _ _ _ h1 (by decide)) ?_ | refine callK_p (e24 _ _ _ h2 (by decide)) ?_) <;> conv => whnf)
  all_goals rfl
def next (p a : Int) : (Int × Int) × Int := if p = 0 then ((0,0),6) else if p = 1 then (if a = 11 then ((2,0),0) else ((1,a+1),0)) else if p = 2 then (if a = 3 then ((3,0),0) else ((2,a+1),0)) else if p = 3 then ((0,0),0) else if a = 1 then ((0,0),0) else ((4,a-1),0)
def curE (q : (Int × Int) × Int) : AV := .tup [cur q.1.1 q.1.2, iv q.2]
theorem chk9 : (anyL.all fun q => rEq (R1.call 10 true 9 [cur q.1 q.2] ⟨[], []⟩) (curE (next q.1 q.2))) = true := by kernel_rfl
theorem chk10 : (anyL.all fun q => rEq (R1.call 10 true 10 [cur q.1 q.2] ⟨[], []⟩) (curE (next q.1 q.2))) = true := by kernel_rfl
def turn (p a : Int) : (Int × Int) × Int := if p = 0 then ((0,0),6) else if p = 4 then ((0,0),14) else if many p a = 0 then ((0,0),0) else ((4,many p a),0)
theorem chk11 : (anyL.all fun q => rEq (R1.call 10 true 11 [cur q.1 q.2] ⟨[], []⟩) (curE (turn q.1 q.2))) = true := by kernel_rfl
theorem chk12 : (anyL.all fun q => rEq (R1.call 10 true 12 [cur q.1 q.2] ⟨[], []⟩) (curE (turn q.1 q.2))) = true := by kernel_rfl
def left (p a : Int) : Int := if p = 1 then 17 - a else if p = 2 then 5 - a else if p = 3 then 1 else a
theorem chk13 : (anyL.all fun q => rEq (R1.call 10 true 13 [cur q.1 q.2] ⟨[], []⟩) (iv (left q.1 q.2))) = true := by kernel_rfl
theorem chk14 : (anyL.all fun q => rEq (R1.call 10 true 14 [cur q.1 q.2] ⟨[], []⟩) (iv (left q.1 q.2))) = true := by kernel_rfl
end Go.Ab.S
