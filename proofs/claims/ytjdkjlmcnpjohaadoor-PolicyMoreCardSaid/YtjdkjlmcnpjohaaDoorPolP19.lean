/- Part of a proof; no condition. -/
import Derived.Test.YtjdkjlmcnpjohaaDoorPolP17
set_option linter.unusedSimpArgs false
set_option linter.unusedVariables false
namespace Go.Ab.S
open Go Go.Ab Go.Proofs
attribute [local irreducible] SemS
set_option maxRecDepth 100000
theorem bit_one {s r : Nat} (hs : s < 65536) (hr : r < 16) (h : s.testBit r = true) : IntKind.u16.wrap ((BitVec.ofInt IntKind.u16.bits ((s : Int).fdiv (2 ^ (min (r : Int).toNat IntKind.u16.bits))) &&& BitVec.ofInt IntKind.u16.bits (1 : Int)).toNat : Int) = 1 := of_decide_eq_true ((shr_bit s r hs hr).trans h)
set_option maxHeartbeats 4000000 in
theorem more12_ok (p : Pol) (hp : p.Ok) (a : Int) (s i s' i' : Nat) (hs : s < 65536) (hi0 : i < 65536) (hs' : s' < 65536) (hi0' : i' < 65536) : EvP PR G f_L12_PolicyMore [p.v, iv a, lab s i, lab s' i'] (bv true) := by
  have c0 := R12_Mend_ok p hp
  have hq := mend_ok hp
  generalize mendP p = q at *
  have d1 := policy_Caps_ok q hq a s i hs hi0
  have hc : capsN q a s i < 65536 := caps_lt
  have c9 := L12_alive_ok
  refine EvP.of_wpf false hm c_L12_PolicyMore rfl ?_
  refine wpf_seq1 ?_
  conv => whnf
  repeat' ((first | refine brP_t (by assumption) ?_ | refine brP_f (by assumption) ?_ | refine brP_t (decide_eq_true (by omega)) ?_ | refine brP_f (decide_eq_false (by omega)) ?_ | refine brP_t (nd_t (by omega)) ?_ | refine brP_f (nd_f (by omega)) ?_ | refine callK_p c0 ?_ | refine callM_p c0 rfl ?_ | refine callK_pf rfl c0 ?_ | refine callK_p d1 ?_ | refine callM_p d1 rfl ?_ | refine callK_pf rfl d1 ?_ | refine wpfS_seq1 ?_ | refine wpfS_go ?_ | fail) <;> conv => whnf)
  refine SemS.loopF false hm (σ := Nat) (fun k => [(1, iv a), (4, .c (.ptr (.loc 0) 0)), (6, .c (.ptr (.loc 1) 0)), (7, .c (.ptr (.loc 2) 0)), (9, uv (capsN q a s i)), (10, iv k)]) (fun _ => ⟨[], [.row q.row, .row [.int .u16 s, .int .u16 i], .row [.int .u16 s', .int .u16 i']]⟩) (fun k => 16 - k) (fun k => k ≤ 16) 0 (Nat.zero_le _) ⟨rfl, rfl, rfl, rfl, rfl, rfl, trivial⟩ rfl ?_
  intro k hk
  refine wpf_seq1 ?_
  conv => whnf
  try (refine wpfS_seq1 ?_; conv => whnf)
  refine brP_mk (fun h => ?_) (fun h => ?_)
  · have hk' : k < 16 := by have := of_decide_eq_true h; omega
    clear h
    have hw2 : IntKind.i64.wrap ((k : Int) + 1) = ((k + 1 : Nat) : Int) := by rw [wrap64 (by omega)]; rfl
    have hw3 : IntKind.u64.wrap (k : Int) = k := by simp [IntKind.wrap, IntKind.signed, IntKind.bits]; omega
    have hget := pol_own q hk'
    have hw := wrapU8 (q.own k) (hq.own k hk')
    have hb := shr_bit (capsN q a s i) k hc hk'
    have hcb : (capsN q a s i).testBit k = (hasN (dwnN q a s i) (q.own k) && q.active.testBit k) := by
      unfold capsN ownedN; rw [Nat.testBit_and, setOf_bit' _ hk']
    have d2 := policy_ActsFor_ok q hq a (q.own k) s i hs hi0
    cases h1 : (capsN q a s i).testBit k with
    | false =>
      rw [h1] at hb
      repeat' ((first | refine brP_t (by assumption) ?_ | refine brP_f (by assumption) ?_ | refine brP_t (decide_eq_true (by omega)) ?_ | refine brP_f (decide_eq_false (by omega)) ?_ | refine brP_t (nd_t (by omega)) ?_ | refine brP_f (nd_f (by omega)) ?_ | ((rw [hw3])) | ((rw [hb])) | refine wpfS_seq1 ?_ | refine wpfS_go ?_ | fail) <;> conv => whnf)
      rw [hw2]
      exact ⟨k + 1, hk', (show 16 - (k + 1) < 16 - k by omega), ⟨rfl, rfl, rfl, rfl, rfl, rfl, trivial⟩, rfl⟩
    | true =>
      rw [h1] at hb hcb
      have hcb := hcb.symm
      rw [Bool.and_eq_true] at hcb
      have hone := bit_one hq.active hk' hcb.2
      rw [hcb.1] at d2
      repeat' ((first | refine brP_t (by assumption) ?_ | refine brP_f (by assumption) ?_ | refine brP_t (decide_eq_true (by omega)) ?_ | refine brP_f (decide_eq_false (by omega)) ?_ | refine brP_t (nd_t (by omega)) ?_ | refine brP_f (nd_f (by omega)) ?_ | ((rw [hw3])) | ((rw [hb])) | ((rw [hone])) | ((conv in (opS _ _ _ _) => whnf); rw [Int.toNat_natCast, hget]) | ((conv in (opM _ _ _ _ _) => whnf); (conv in (opS _ _ _ _) => whnf); rw [Int.toNat_natCast, hget]) | ((rw [hw])) | refine callK_p d2 ?_ | refine callM_p d2 rfl ?_ | refine callK_pf rfl d2 ?_ | refine wpfS_seq1 ?_ | refine wpfS_go ?_ | fail) <;> conv => whnf)
      rw [hw2]
      exact ⟨k + 1, hk', (show 16 - (k + 1) < 16 - k by omega), ⟨rfl, rfl, rfl, rfl, rfl, rfl, trivial⟩, rfl⟩
  · have hk' : k = 16 := by have := of_decide_eq_false h; omega
    subst hk'
    clear h
    have d2 := label_Flows_ok s i s' i' hs hi0 hs' hi0'
    cases hf : flowsB s i s' i' with
    | false =>
      rw [hf] at d2
      conv => whnf
      repeat' ((first | refine brP_t (by assumption) ?_ | refine brP_f (by assumption) ?_ | refine brP_t (decide_eq_true (by omega)) ?_ | refine brP_f (decide_eq_false (by omega)) ?_ | refine brP_t (nd_t (by omega)) ?_ | refine brP_f (nd_f (by omega)) ?_ | refine callK_p d2 ?_ | refine callM_p d2 rfl ?_ | refine callK_pf rfl d2 ?_ | refine callK_p c9 ?_ | refine callM_p c9 rfl ?_ | refine callK_pf rfl c9 ?_ | refine wpfS_seq1 ?_ | refine wpfS_go ?_ | fail) <;> conv => whnf)
      rfl
    | true =>
      rw [hf] at d2
      have d3 := policy_Seen_ok q hq s i hs hi0
      have d4 := policy_Seen_ok q hq s' i' hs' hi0'
      have d5 := policy_Caps_ok q hq a s' i' hs' hi0'
      have z1 := sub_diff (a := seenN q s i) (b := seenN q s' i') seenN_lt seenN_lt fun j hj => seen_more hq hs hi0 hs' hi0' hf hj
      have z2 := sub_diff (a := capsN q a s i) (b := capsN q a s' i') caps_lt caps_lt fun j hj => caps_more hq hs hi0 hs' hi0' hf hj
      unfold diffN at z1 z2
      generalize seenN q s i = n1 at *
      generalize seenN q s' i' = n2 at *
      generalize capsN q a s i = n3 at *
      generalize capsN q a s' i' = n4 at *
      conv => whnf
      repeat' ((first | refine brP_t (by assumption) ?_ | refine brP_f (by assumption) ?_ | refine brP_t (decide_eq_true (by omega)) ?_ | refine brP_f (decide_eq_false (by omega)) ?_ | refine brP_t (nd_t (by omega)) ?_ | refine brP_f (nd_f (by omega)) ?_ | refine callK_p d2 ?_ | refine callM_p d2 rfl ?_ | refine callK_pf rfl d2 ?_ | refine callK_p d3 ?_ | refine callM_p d3 rfl ?_ | refine callK_pf rfl d3 ?_ | refine callK_p d4 ?_ | refine callM_p d4 rfl ?_ | refine callK_pf rfl d4 ?_ | refine callK_p d5 ?_ | refine callM_p d5 rfl ?_ | refine callK_pf rfl d5 ?_ | refine callK_p c9 ?_ | refine callM_p c9 rfl ?_ | refine callK_pf rfl c9 ?_ | ((rw [z1])) | ((rw [z2])) | refine wpfS_seq1 ?_ | refine wpfS_go ?_ | fail) <;> conv => whnf)
      rfl
end Go.Ab.S
