/- Part of a proof; no condition. -/
import Derived.Test.YtjdkjlmcnpjohaaDoorPolP17
set_option linter.unusedSimpArgs false
set_option linter.unusedVariables false
namespace Go.Ab.S
open Go Go.Ab Go.Proofs
attribute [local irreducible] SemS
set_option maxRecDepth 100000
/-! ### The statements -/
set_option maxHeartbeats 4000000 in
theorem hides12_ok (p : Pol) (hp : p.Ok) (a b : Int) (s i : Nat) (hs : s < 65536) (hi : i < 65536) : EvP PR G f_L12_PolicyHides [p.v, iv a, iv b, lab s i] (bv true) := by
  have c0 := R12_Mend_ok p hp
  have hq := mend_ok hp
  have hqf := mend_fine hp
  generalize mendP p = q at *
  have c1 := R12_Cut_ok q hq s i hs hi
  have hr := cut_ok (S := seenN q s i) hq seenN_lt
  have hrf := cut_fine (S := seenN q s i) hq hqf seenN_lt seen_sub
  have k1 := cut_seen (p := q) (s := s) (i := i)
  have k2 := cut_caps (s := s) (i := i) hq (a := a)
  have k3 := cut_dwn (s := s) (i := i) hq (a := a)
  generalize cutS q (seenN q s i) = r at *
  have d1 := policy_Fine_ok r hr
  rw [hrf] at d1
  have d2 := policy_Seen_ok r hr s i hs hi
  have d3 := policy_Seen_ok q hq s i hs hi
  rw [k1] at d2
  have d4 := policy_Caps_ok r hr a s i hs hi
  have d5 := policy_Caps_ok q hq a s i hs hi
  rw [k2] at d4
  have d6 := policy_ActsFor_ok r hr a b s i hs hi
  have d7 := policy_ActsFor_ok q hq a b s i hs hi
  rw [k3] at d6
  generalize seenN q s i = n1 at *
  generalize capsN q a s i = n2 at *
  generalize hasN (dwnN q a s i) b = b1 at *
  have c9 := L12_alive_ok
  refine EvP.of_wpf false hm c_L12_PolicyHides rfl ?_
  refine wpf_seq1 ?_
  conv => whnf
  cases b1
  all_goals
    repeat' ((first | refine brP_t (by assumption) ?_ | refine brP_f (by assumption) ?_ | refine brP_t (decide_eq_true (by omega)) ?_ | refine brP_f (decide_eq_false (by omega)) ?_ | refine brP_t (nd_t (by omega)) ?_ | refine brP_f (nd_f (by omega)) ?_ | refine callK_p c0 ?_ | refine callM_p c0 rfl ?_ | refine callK_pf rfl c0 ?_ | refine callK_p c1 ?_ | refine callM_p c1 rfl ?_ | refine callK_pf rfl c1 ?_ | refine callK_p d1 ?_ | refine callM_p d1 rfl ?_ | refine callK_pf rfl d1 ?_ | refine callK_p d2 ?_ | refine callM_p d2 rfl ?_ | refine callK_pf rfl d2 ?_ | refine callK_p d3 ?_ | refine callM_p d3 rfl ?_ | refine callK_pf rfl d3 ?_ | refine callK_p d4 ?_ | refine callM_p d4 rfl ?_ | refine callK_pf rfl d4 ?_ | refine callK_p d5 ?_ | refine callM_p d5 rfl ?_ | refine callK_pf rfl d5 ?_ | refine callK_p d6 ?_ | refine callM_p d6 rfl ?_ | refine callK_pf rfl d6 ?_ | refine callK_p d7 ?_ | refine callM_p d7 rfl ?_ | refine callK_pf rfl d7 ?_ | refine callK_p c9 ?_ | refine callM_p c9 rfl ?_ | refine callK_pf rfl c9 ?_ | refine wpfS_seq1 ?_ | refine wpfS_go ?_ | fail) <;> conv => whnf)
    rfl
set_option maxHeartbeats 4000000 in
theorem tells12_ok (p : Pol) (hp : p.Ok) (a b : Int) (s i rs : Nat) (hs : s < 65536) (hi : i < 65536) (hrs : rs < 65536) : EvP PR G f_L12_PolicyTells [.agg (p.row ++ [.int .i64 a, .int .i64 b, .int .u16 s, .int .u16 i, .int .u16 rs])] (bv true) := by
  have c0 := R12_Mend_ok p hp
  have d1 := policy_Fine_ok p hp
  have d2 := R12_Fine_ok p hp
  have hq := mend_ok hp
  have hqf := mend_fine hp
  generalize mendP p = q at *
  have d3 := policy_Fine_ok q hq
  rw [hqf] at d3
  have d4 := policy_Seen_ok q hq s i hs hi
  have d5 := R12_Seen_ok q hq s i hs hi
  have d6 := policy_ActsFor_ok q hq a b s i hs hi
  have d7 := R12_ActsFor_ok q hq a b s i hs hi
  have d8 := policy_Caps_ok q hq a s i hs hi
  have d9 := R12_Caps_ok q hq a s i hs hi
  have d10 := policy_Owned_ok q hq rs hrs
  have d11 := R12_Owned_ok q hq rs hrs
  generalize seenN q s i = n1 at *
  generalize capsN q a s i = n2 at *
  generalize ownedN q rs = n3 at *
  generalize hasN (dwnN q a s i) b = b1 at *
  generalize fineP p = b2 at *
  have c9 := L12_alive_ok
  have f1 := policy_First_ok
  have f2 := R12_First_ok
  refine EvP.of_wpf false hm c_L12_PolicyTells rfl ?_
  refine wpf_seq1 ?_
  conv => whnf
  cases b1 <;> cases b2
  all_goals
    repeat' ((first | refine brP_t (by assumption) ?_ | refine brP_f (by assumption) ?_ | refine brP_t (decide_eq_true (by omega)) ?_ | refine brP_f (decide_eq_false (by omega)) ?_ | refine brP_t (nd_t (by omega)) ?_ | refine brP_f (nd_f (by omega)) ?_ | refine callK_p c0 ?_ | refine callM_p c0 rfl ?_ | refine callK_pf rfl c0 ?_ | refine callK_p d1 ?_ | refine callM_p d1 rfl ?_ | refine callK_pf rfl d1 ?_ | refine callK_p d2 ?_ | refine callM_p d2 rfl ?_ | refine callK_pf rfl d2 ?_ | refine callK_p f1 ?_ | refine callM_p f1 rfl ?_ | refine callK_pf rfl f1 ?_ | refine callK_p f2 ?_ | refine callM_p f2 rfl ?_ | refine callK_pf rfl f2 ?_ | refine callK_p d3 ?_ | refine callM_p d3 rfl ?_ | refine callK_pf rfl d3 ?_ | refine callK_p d4 ?_ | refine callM_p d4 rfl ?_ | refine callK_pf rfl d4 ?_ | refine callK_p d5 ?_ | refine callM_p d5 rfl ?_ | refine callK_pf rfl d5 ?_ | refine callK_p d6 ?_ | refine callM_p d6 rfl ?_ | refine callK_pf rfl d6 ?_ | refine callK_p d7 ?_ | refine callM_p d7 rfl ?_ | refine callK_pf rfl d7 ?_ | refine callK_p d8 ?_ | refine callM_p d8 rfl ?_ | refine callK_pf rfl d8 ?_ | refine callK_p d9 ?_ | refine callM_p d9 rfl ?_ | refine callK_pf rfl d9 ?_ | refine callK_p d10 ?_ | refine callM_p d10 rfl ?_ | refine callK_pf rfl d10 ?_ | refine callK_p d11 ?_ | refine callM_p d11 rfl ?_ | refine callK_pf rfl d11 ?_ | refine callK_p c9 ?_ | refine callM_p c9 rfl ?_ | refine callK_pf rfl c9 ?_ | refine wpfS_seq1 ?_ | refine wpfS_go ?_ | fail) <;> conv => whnf)
    rfl
end Go.Ab.S
