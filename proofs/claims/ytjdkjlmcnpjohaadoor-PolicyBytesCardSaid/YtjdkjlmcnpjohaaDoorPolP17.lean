/- Part of a proof; no condition. -/
import Derived.Test.YtjdkjlmcnpjohaaDoorPolP16
import Derived.Test.YtjdkjlmcnpjohaaDoorPolPA
set_option linter.unusedSimpArgs false
set_option linter.unusedVariables false
namespace Go.Ab.S
open Go Go.Ab Go.Proofs
attribute [local irreducible] SemS
set_option maxRecDepth 100000
/-! ### The policies at the end of each statement -/
def secondP : Pol := ⟨3, fun r => if r = 1 then 4 else 0, fun r => if r = 0 then 65535 else 0, fun r => if r = 1 then 1 else 0, fun _ => 0, 65535⟩
def thirdP : Pol := ⟨2, fun _ => 0, fun _ => 0, fun r => if r = 1 then 2 else 0, fun _ => 0, 0⟩
theorem first_ok : firstP.Ok := by
  refine ⟨by decide, fun r _ => by show 0 < _; omega, fun r _ => ?_, fun r _ => by show 0 < _; omega, fun r _ => by show 0 ≤ _; omega, by decide⟩
  show (if r = 0 then 65535 else 0) < 65536
  split <;> omega
theorem second_ok : secondP.Ok := by
  refine ⟨by decide, fun r _ => ?_, fun r _ => ?_, fun r _ => ?_, fun r _ => by show 0 ≤ _; omega, by decide⟩
  · show (if r = 1 then 4 else 0) < 65536
    split <;> omega
  · show (if r = 0 then 65535 else 0) < 65536
    split <;> omega
  · show (if r = 1 then 1 else 0) < 65536
    split <;> omega
theorem third_ok : thirdP.Ok := by
  refine ⟨by decide, fun r _ => by show 0 < _; omega, fun r _ => by show 0 < _; omega, fun r _ => ?_, fun r _ => by show 0 ≤ _; omega, by decide⟩
  show (if r = 1 then 2 else 0) < 65536
  split <;> omega
theorem label_Top_ok : EvP PR G f_label_Top [] (lab 65535 0) := EvP.of_rEq R0_ok 10 rfl (by kernel_rfl)
theorem k_fine1 : fineP firstP = true := by kernel_rfl
theorem k_caps1 : capsN firstP 0 0 65535 = 65535 := by kernel_rfl
theorem k_caps2 : capsN firstP 1 65535 0 = 0 := by kernel_rfl
theorem k_caps3 : capsN secondP 1 0 65535 = 0 := by kernel_rfl
theorem k_caps4 : capsN secondP 1 4 0 = 65535 := by kernel_rfl
theorem k_seen : seenN secondP 0 0 = 1 := by kernel_rfl
theorem k_acts1 : hasN (dwnN secondP 1 65535 0) 0 = true := by kernel_rfl
theorem k_acts2 : hasN (dwnN secondP 0 65535 0) 1 = false := by kernel_rfl
theorem k_owned : ownedN secondP 1 = 65535 := by kernel_rfl
theorem k_fine3 : fineP thirdP = false := by kernel_rfl
theorem k_read : (polRd true (St.mk 0 (polB secondP))).1.row = secondP.row := by kernel_rfl
theorem k_left : (polRd true (St.mk 0 (polB secondP))).2 = St.mk 0 [] := by kernel_rfl
set_option maxHeartbeats 2000000 in
theorem L12_alive_ok : EvP PR G f_L12_alive [] (bv true) := by
  have c1 := policy_First_ok
  have c2 := policy_Bytes_ok secondP second_ok
  have c3 := pr_new (polB secondP)
  have c4 : EvR PR G f_policy_Read [.c (.ptr (.par 0) 0)] ⟨(St.mk 0 (polB secondP)).pr, []⟩ secondP.v ⟨(St.mk 0 []).pr, []⟩ := by
    have h := policy_Read_ok (St.mk 0 (polB secondP))
    rw [k_left, show (polRd true (St.mk 0 (polB secondP))).1.v = secondP.v from congrArg AV.agg k_read] at h
    exact h
  have c5 := pr_err (St.mk 0 [])
  generalize polB secondP = B at *
  have d1 := policy_Fine_ok firstP first_ok
  rw [k_fine1] at d1
  have d2 := policy_Caps_ok firstP first_ok 0 0 65535 (by omega) (by omega)
  rw [k_caps1] at d2
  have d3 := policy_Caps_ok firstP first_ok 1 65535 0 (by omega) (by omega)
  rw [k_caps2] at d3
  have d4 := policy_Caps_ok secondP second_ok 1 0 65535 (by omega) (by omega)
  rw [k_caps3] at d4
  have d5 := policy_Caps_ok secondP second_ok 1 4 0 (by omega) (by omega)
  rw [k_caps4] at d5
  have d6 := policy_Seen_ok secondP second_ok 0 0 (by omega) (by omega)
  rw [k_seen] at d6
  have d7 := policy_ActsFor_ok secondP second_ok 1 0 65535 0 (by omega) (by omega)
  rw [k_acts1] at d7
  have d8 := policy_ActsFor_ok secondP second_ok 0 1 65535 0 (by omega) (by omega)
  rw [k_acts2] at d8
  have d9 := policy_Owned_ok secondP second_ok 1 (by omega)
  rw [k_owned] at d9
  have d10 := policy_Fine_ok thirdP third_ok
  rw [k_fine3] at d10
  refine EvP.of_wpf false hm c_L12_alive rfl ?_
  refine wpf_seq1 ?_
  conv => whnf
  repeat' ((first | refine brP_t (by assumption) ?_ | refine brP_f (by assumption) ?_ | refine brP_t (decide_eq_true (by omega)) ?_ | refine brP_f (decide_eq_false (by omega)) ?_ | refine brP_t (nd_t (by omega)) ?_ | refine brP_f (nd_f (by omega)) ?_ | refine callK_p c1 ?_ | refine callM_p c1 rfl ?_ | refine callK_pf rfl c1 ?_ | refine callK_p c2 ?_ | refine callM_p c2 rfl ?_ | refine callK_pf rfl c2 ?_ | refine callK_r (EvR.fr [] c3 rfl rfl trivial rfl) ?_ | refine callM_l (LEv.fr [] c3 rfl rfl trivial rfl rfl) ?_ | refine callK_rt (EvR.fr [] c3 rfl rfl trivial rfl) ?_ | refine callK_rf rfl (EvR.fr [] c3 rfl rfl trivial rfl) ?_ | refine callK_rft rfl (EvR.fr [] c3 rfl rfl trivial rfl) ?_ | refine callK_r (EvR.fr [_] c4 rfl rfl ⟨rfl, trivial⟩ rfl) ?_ | refine callM_l (LEv.fr [_] c4 rfl rfl ⟨rfl, trivial⟩ rfl rfl) ?_ | refine callK_rt (EvR.fr [_] c4 rfl rfl ⟨rfl, trivial⟩ rfl) ?_ | refine callK_rf rfl (EvR.fr [_] c4 rfl rfl ⟨rfl, trivial⟩ rfl) ?_ | refine callK_rft rfl (EvR.fr [_] c4 rfl rfl ⟨rfl, trivial⟩ rfl) ?_ | refine callK_r (EvR.fr [_] c5 rfl rfl ⟨rfl, trivial⟩ rfl) ?_ | refine callM_l (LEv.fr [_] c5 rfl rfl ⟨rfl, trivial⟩ rfl rfl) ?_ | refine callK_rt (EvR.fr [_] c5 rfl rfl ⟨rfl, trivial⟩ rfl) ?_ | refine callK_rf rfl (EvR.fr [_] c5 rfl rfl ⟨rfl, trivial⟩ rfl) ?_ | refine callK_rft rfl (EvR.fr [_] c5 rfl rfl ⟨rfl, trivial⟩ rfl) ?_ | refine callK_p label_Bottom_ok ?_ | refine callM_p label_Bottom_ok rfl ?_ | refine callK_pf rfl label_Bottom_ok ?_ | refine callK_p label_Top_ok ?_ | refine callM_p label_Top_ok rfl ?_ | refine callK_pf rfl label_Top_ok ?_ | refine callK_p d1 ?_ | refine callM_p d1 rfl ?_ | refine callK_pf rfl d1 ?_ | refine callK_p d2 ?_ | refine callM_p d2 rfl ?_ | refine callK_pf rfl d2 ?_ | refine callK_p d3 ?_ | refine callM_p d3 rfl ?_ | refine callK_pf rfl d3 ?_ | refine callK_p d4 ?_ | refine callM_p d4 rfl ?_ | refine callK_pf rfl d4 ?_ | refine callK_p d5 ?_ | refine callM_p d5 rfl ?_ | refine callK_pf rfl d5 ?_ | refine callK_p d6 ?_ | refine callM_p d6 rfl ?_ | refine callK_pf rfl d6 ?_ | refine callK_p d7 ?_ | refine callM_p d7 rfl ?_ | refine callK_pf rfl d7 ?_ | refine callK_p d8 ?_ | refine callM_p d8 rfl ?_ | refine callK_pf rfl d8 ?_ | refine callK_p d9 ?_ | refine callM_p d9 rfl ?_ | refine callK_pf rfl d9 ?_ | refine callK_p d10 ?_ | refine callM_p d10 rfl ?_ | refine callK_pf rfl d10 ?_ | refine wpfS_seq1 ?_ | refine wpfS_go ?_ | fail) <;> conv => whnf)
  rfl
end Go.Ab.S
