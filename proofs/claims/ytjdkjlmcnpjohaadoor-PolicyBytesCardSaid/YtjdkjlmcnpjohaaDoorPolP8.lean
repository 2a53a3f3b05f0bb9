/- Part of a proof; no condition. -/
import Derived.Test.YtjdkjlmcnpjohaaDoorPolP7
set_option linter.unusedSimpArgs false
set_option linter.unusedVariables false
namespace Go.Ab.S
open Go Go.Ab Go.Proofs
attribute [local irreducible] SemS
set_option maxRecDepth 100000
theorem R12_Seen_ok (p : Pol) (hp : p.Ok) (s i : Nat) (hs : s < 65536) (hi0 : i < 65536) : EvP PR G f_R12_Seen [p.v, lab s i] (uv (seenN p s i)) := by
  refine EvP.of_wpf false hm c_R12_Seen rfl ?_
  refine wpf_seq1 ?_
  conv => whnf
  repeat' ((first | refine brP_t (by assumption) ?_ | refine brP_f (by assumption) ?_ | refine brP_t (decide_eq_true (by omega)) ?_ | refine brP_f (decide_eq_false (by omega)) ?_ | refine brP_t (nd_t (by omega)) ?_ | refine brP_f (nd_f (by omega)) ?_ | refine wpfS_seq1 ?_ | refine wpfS_go ?_ | fail) <;> conv => whnf)
  refine SemS.loopF false hm (σ := Nat) (fun k => [(2, .c (.ptr (.loc 0) 0)), (3, .c (.ptr (.loc 1) 0)), (5, uv (setOf (fun r => p.live.testBit r && flowsB (p.ls r) (p.li r) s i) k)), (6, iv k)]) (fun _ => ⟨[], [.row p.row, .row [.int .u16 s, .int .u16 i]]⟩) (fun k => 16 - k) (fun k => k ≤ 16) 0 (Nat.zero_le _) ⟨rfl, rfl, rfl, rfl, trivial⟩ rfl ?_
  intro k hk
  have hso := setOf_lt (fun r => p.live.testBit r && flowsB (p.ls r) (p.li r) s i) hk
  refine wpf_seq1 ?_
  conv => whnf
  try (refine wpfS_seq1 ?_; conv => whnf)
  refine brP_mk (fun h => ?_) (fun h => ?_)
  · have hk' : k < 16 := by have := of_decide_eq_true h; omega
    clear h
    have hw2 : IntKind.i64.wrap ((k : Int) + 1) = ((k + 1 : Nat) : Int) := by rw [wrap64 (by omega)]; rfl
    have hst := setOf_step (fun r => p.live.testBit r && flowsB (p.ls r) (p.li r) s i) k
    generalize setOf (fun r => p.live.testBit r && flowsB (p.ls r) (p.li r) s i) k = o at *
    have e0 := R01_Has_ok p.live k hp.live
    rw [hasN_nat hk'] at e0
    have e1 := R02_Flows_ok (p.ls k) (p.li k) s i (hp.ls k hk') (hp.li k hk') hs hi0
    have g1 := pol_labL p hk'
    have e2 := R01_With_ok o k hso
    rw [withN_nat hk'] at e2
    cases h1 : p.live.testBit k with
    | false =>
      rw [h1] at e0
      rw [h1, Bool.false_and, if_neg (by simp)] at hst
      repeat' ((first | refine brP_t (by assumption) ?_ | refine brP_f (by assumption) ?_ | refine brP_t (decide_eq_true (by omega)) ?_ | refine brP_f (decide_eq_false (by omega)) ?_ | refine brP_t (nd_t (by omega)) ?_ | refine brP_f (nd_f (by omega)) ?_ | refine callK_p e0 ?_ | refine callM_p e0 rfl ?_ | refine callK_pf rfl e0 ?_ | refine wpfS_seq1 ?_ | refine wpfS_go ?_ | fail) <;> conv => whnf)
      rw [hw2]
      refine ⟨k + 1, hk', (show 16 - (k + 1) < 16 - k by omega), ⟨rfl, rfl, ?_, rfl, trivial⟩, rfl⟩
      show uv _ = uv _
      rw [hst]
    | true =>
      rw [h1] at e0
      cases h2 : flowsB (p.ls k) (p.li k) s i with
      | false =>
        rw [h2] at e1
        rw [h1, h2, Bool.and_false, if_neg (by simp)] at hst
        repeat' ((first | (refine gd_mk ?_ ?_; (focus (first | exact decide_eq_true (by rw [pol_len]; omega) | exact decide_eq_true (And.intro rfl (by rw [pol_len]; simp only [List.length_cons, List.length_nil]; omega)) | exact decide_eq_true (And.intro rfl (by rw [pol_len]; omega)) | exact decide_eq_true (by rw [pol_len]; simp only [List.length_cons, List.length_nil]; omega) | exact decide_eq_true (by show _ ≤ 16; omega) | exact decide_eq_true (And.intro rfl (by show _ ≤ 16; omega)) | exact decide_eq_true (And.intro rfl (by show _ ≤ 16; simp only [List.length_cons, List.length_nil]; omega)))); rw [Int.toNat_natCast, g1]) | refine brP_t (by assumption) ?_ | refine brP_f (by assumption) ?_ | refine brP_t (decide_eq_true (by omega)) ?_ | refine brP_f (decide_eq_false (by omega)) ?_ | refine brP_t (nd_t (by omega)) ?_ | refine brP_f (nd_f (by omega)) ?_ | refine callK_p e0 ?_ | refine callM_p e0 rfl ?_ | refine callK_pf rfl e0 ?_ | refine callK_p e1 ?_ | refine callM_p e1 rfl ?_ | refine callK_pf rfl e1 ?_ | refine wpfS_seq1 ?_ | refine wpfS_go ?_ | fail) <;> conv => whnf)
        rw [hw2]
        refine ⟨k + 1, hk', (show 16 - (k + 1) < 16 - k by omega), ⟨rfl, rfl, ?_, rfl, trivial⟩, rfl⟩
        show uv _ = uv _
        rw [hst]
      | true =>
        rw [h2] at e1
        rw [h1, h2, Bool.and_self, if_pos rfl] at hst
        repeat' ((first | (refine gd_mk ?_ ?_; (focus (first | exact decide_eq_true (by rw [pol_len]; omega) | exact decide_eq_true (And.intro rfl (by rw [pol_len]; simp only [List.length_cons, List.length_nil]; omega)) | exact decide_eq_true (And.intro rfl (by rw [pol_len]; omega)) | exact decide_eq_true (by rw [pol_len]; simp only [List.length_cons, List.length_nil]; omega) | exact decide_eq_true (by show _ ≤ 16; omega) | exact decide_eq_true (And.intro rfl (by show _ ≤ 16; omega)) | exact decide_eq_true (And.intro rfl (by show _ ≤ 16; simp only [List.length_cons, List.length_nil]; omega)))); rw [Int.toNat_natCast, g1]) | refine brP_t (by assumption) ?_ | refine brP_f (by assumption) ?_ | refine brP_t (decide_eq_true (by omega)) ?_ | refine brP_f (decide_eq_false (by omega)) ?_ | refine brP_t (nd_t (by omega)) ?_ | refine brP_f (nd_f (by omega)) ?_ | refine callK_p e0 ?_ | refine callM_p e0 rfl ?_ | refine callK_pf rfl e0 ?_ | refine callK_p e1 ?_ | refine callM_p e1 rfl ?_ | refine callK_pf rfl e1 ?_ | refine callK_p e2 ?_ | refine callM_p e2 rfl ?_ | refine callK_pf rfl e2 ?_ | refine wpfS_seq1 ?_ | refine wpfS_go ?_ | fail) <;> conv => whnf)
        rw [hw2]
        refine ⟨k + 1, hk', (show 16 - (k + 1) < 16 - k by omega), ⟨rfl, rfl, ?_, rfl, trivial⟩, rfl⟩
        show uv _ = uv _
        rw [hst]
  · have hk' : k = 16 := by have := of_decide_eq_false h; omega
    subst hk'
    clear h
    conv => whnf
    repeat' ((first | refine brP_t (by assumption) ?_ | refine brP_f (by assumption) ?_ | refine brP_t (decide_eq_true (by omega)) ?_ | refine brP_f (decide_eq_false (by omega)) ?_ | refine brP_t (nd_t (by omega)) ?_ | refine brP_f (nd_f (by omega)) ?_ | refine wpfS_seq1 ?_ | refine wpfS_go ?_ | fail) <;> conv => whnf)
    rfl
/-! ### Whose tags -/
def ownedN (p : Pol) (rs : Nat) : Nat := setOf (fun t => hasN rs (p.own t)) 16
theorem ownedN_lt {p : Pol} {rs : Nat} : ownedN p rs < 65536 := setOf_lt _ (Nat.le_refl 16)
theorem policy_Owned_ok (p : Pol) (hp : p.Ok) (rs : Nat) (hs : rs < 65536) : EvP PR G f_policy_Owned [p.v, uv rs] (uv (ownedN p rs)) := by
  refine EvP.of_wpf false hm c_policy_Owned rfl ?_
  refine wpf_seq1 ?_
  conv => whnf
  repeat' ((first | refine brP_t (by assumption) ?_ | refine brP_f (by assumption) ?_ | refine brP_t (decide_eq_true (by omega)) ?_ | refine brP_f (decide_eq_false (by omega)) ?_ | refine brP_t (nd_t (by omega)) ?_ | refine brP_f (nd_f (by omega)) ?_ | refine wpfS_seq1 ?_ | refine wpfS_go ?_ | fail) <;> conv => whnf)
  refine SemS.loopF false hm (σ := Nat) (fun k => [(1, uv rs), (9, .agg (mrow p.own)), (5, uv (setOf (fun t => hasN rs (p.own t)) k)), (10, iv k)]) (fun _ => ⟨[], [.row p.row]⟩) (fun k => 16 - k) (fun k => k ≤ 16) 0 (Nat.zero_le _) ⟨rfl, rfl, rfl, rfl, trivial⟩ rfl ?_
  intro k hk
  have hso := setOf_lt (fun t => hasN rs (p.own t)) hk
  refine wpf_seq1 ?_
  conv => whnf
  try (refine wpfS_seq1 ?_; conv => whnf)
  refine brP_mk (fun h => ?_) (fun h => ?_)
  · have hk' : k < 16 := by have := of_decide_eq_true h; omega
    clear h
    have hw2 : IntKind.i64.wrap ((k : Int) + 1) = ((k + 1 : Nat) : Int) := by rw [wrap64 (by omega)]; rfl
    have hst := setOf_step (fun t => hasN rs (p.own t)) k
    generalize setOf (fun t => hasN rs (p.own t)) k = o at *
    have hget := own_at p.own hk'
    have hw := wrapU8 (p.own k) (hp.own k hk')
    have e0 := tagset_Has_ok rs (p.own k) hs
    have hpw := pow16 (t := k) (by omega)
    have hor := or16 hso (show 2 ^ k < 65536 by omega)
    have hsh := shl16 hk'
    cases h1 : hasN rs (p.own k) with
    | false =>
      rw [h1] at e0
      rw [h1, if_neg (by simp)] at hst
      repeat' ((first | refine brP_t (by assumption) ?_ | refine brP_f (by assumption) ?_ | refine brP_t (decide_eq_true (by omega)) ?_ | refine brP_f (decide_eq_false (by omega)) ?_ | refine brP_t (nd_t (by omega)) ?_ | refine brP_f (nd_f (by omega)) ?_ | ((conv in (opS _ _ _ _) => whnf); rw [Int.toNat_natCast, hget]) | ((conv in (opM _ _ _ _ _) => whnf); (conv in (opS _ _ _ _) => whnf); rw [Int.toNat_natCast, hget]) | ((rw [hw])) | refine callK_p e0 ?_ | refine callM_p e0 rfl ?_ | refine callK_pf rfl e0 ?_ | refine wpfS_seq1 ?_ | refine wpfS_go ?_ | fail) <;> conv => whnf)
      rw [hw2]
      refine ⟨k + 1, hk', (show 16 - (k + 1) < 16 - k by omega), ⟨rfl, rfl, ?_, rfl, trivial⟩, rfl⟩
      show uv _ = uv _
      rw [hst]
    | true =>
      rw [h1] at e0
      rw [h1, if_pos rfl] at hst
      repeat' ((first | refine brP_t (by assumption) ?_ | refine brP_f (by assumption) ?_ | refine brP_t (decide_eq_true (by omega)) ?_ | refine brP_f (decide_eq_false (by omega)) ?_ | refine brP_t (nd_t (by omega)) ?_ | refine brP_f (nd_f (by omega)) ?_ | ((conv in (opS _ _ _ _) => whnf); rw [Int.toNat_natCast, hget]) | ((conv in (opM _ _ _ _ _) => whnf); (conv in (opS _ _ _ _) => whnf); rw [Int.toNat_natCast, hget]) | ((rw [hw])) | refine callK_p e0 ?_ | refine callM_p e0 rfl ?_ | refine callK_pf rfl e0 ?_ | ((rw [hsh, hor])) | refine wpfS_seq1 ?_ | refine wpfS_go ?_ | fail) <;> conv => whnf)
      rw [hw2]
      refine ⟨k + 1, hk', (show 16 - (k + 1) < 16 - k by omega), ⟨rfl, rfl, ?_, rfl, trivial⟩, rfl⟩
      first | (show uv _ = uv _; rw [hst]; done) | (rw [hsh, hor]; show uv _ = uv _; rw [hst])
  · have hk' : k = 16 := by have := of_decide_eq_false h; omega
    subst hk'
    clear h
    conv => whnf
    repeat' ((first | refine brP_t (by assumption) ?_ | refine brP_f (by assumption) ?_ | refine brP_t (decide_eq_true (by omega)) ?_ | refine brP_f (decide_eq_false (by omega)) ?_ | refine brP_t (nd_t (by omega)) ?_ | refine brP_f (nd_f (by omega)) ?_ | refine wpfS_seq1 ?_ | refine wpfS_go ?_ | fail) <;> conv => whnf)
    rfl
theorem R12_Owned_ok (p : Pol) (hp : p.Ok) (rs : Nat) (hs : rs < 65536) : EvP PR G f_R12_Owned [p.v, uv rs] (uv (ownedN p rs)) := by
  refine EvP.of_wpf false hm c_R12_Owned rfl ?_
  refine wpf_seq1 ?_
  conv => whnf
  repeat' ((first | refine brP_t (by assumption) ?_ | refine brP_f (by assumption) ?_ | refine brP_t (decide_eq_true (by omega)) ?_ | refine brP_f (decide_eq_false (by omega)) ?_ | refine brP_t (nd_t (by omega)) ?_ | refine brP_f (nd_f (by omega)) ?_ | refine wpfS_seq1 ?_ | refine wpfS_go ?_ | fail) <;> conv => whnf)
  refine SemS.loopF false hm (σ := Nat) (fun k => [(1, uv rs), (2, .c (.ptr (.loc 0) 0)), (5, uv (setOf (fun t => hasN rs (p.own t)) k)), (6, iv k)]) (fun _ => ⟨[], [.row p.row]⟩) (fun k => 16 - k) (fun k => k ≤ 16) 0 (Nat.zero_le _) ⟨rfl, rfl, rfl, rfl, trivial⟩ rfl ?_
  intro k hk
  have hso := setOf_lt (fun t => hasN rs (p.own t)) hk
  refine wpf_seq1 ?_
  conv => whnf
  try (refine wpfS_seq1 ?_; conv => whnf)
  refine brP_mk (fun h => ?_) (fun h => ?_)
  · have hk' : k < 16 := by have := of_decide_eq_true h; omega
    clear h
    have hw2 : IntKind.i64.wrap ((k : Int) + 1) = ((k + 1 : Nat) : Int) := by rw [wrap64 (by omega)]; rfl
    have hst := setOf_step (fun t => hasN rs (p.own t)) k
    generalize setOf (fun t => hasN rs (p.own t)) k = o at *
    have hget := pol_own p hk'
    have hw := wrapU8 (p.own k) (hp.own k hk')
    have e0 := R01_Has_ok rs (p.own k) hs
    have e2 := R01_With_ok o k hso
    rw [withN_nat hk'] at e2
    cases h1 : hasN rs (p.own k) with
    | false =>
      rw [h1] at e0
      rw [h1, if_neg (by simp)] at hst
      repeat' ((first | refine brP_t (by assumption) ?_ | refine brP_f (by assumption) ?_ | refine brP_t (decide_eq_true (by omega)) ?_ | refine brP_f (decide_eq_false (by omega)) ?_ | refine brP_t (nd_t (by omega)) ?_ | refine brP_f (nd_f (by omega)) ?_ | ((conv in (opS _ _ _ _) => whnf); rw [Int.toNat_natCast, hget]) | ((conv in (opM _ _ _ _ _) => whnf); (conv in (opS _ _ _ _) => whnf); rw [Int.toNat_natCast, hget]) | ((rw [hw])) | refine callK_p e0 ?_ | refine callM_p e0 rfl ?_ | refine callK_pf rfl e0 ?_ | refine wpfS_seq1 ?_ | refine wpfS_go ?_ | fail) <;> conv => whnf)
      rw [hw2]
      refine ⟨k + 1, hk', (show 16 - (k + 1) < 16 - k by omega), ⟨rfl, rfl, ?_, rfl, trivial⟩, rfl⟩
      show uv _ = uv _
      rw [hst]
    | true =>
      rw [h1] at e0
      rw [h1, if_pos rfl] at hst
      repeat' ((first | refine brP_t (by assumption) ?_ | refine brP_f (by assumption) ?_ | refine brP_t (decide_eq_true (by omega)) ?_ | refine brP_f (decide_eq_false (by omega)) ?_ | refine brP_t (nd_t (by omega)) ?_ | refine brP_f (nd_f (by omega)) ?_ | ((conv in (opS _ _ _ _) => whnf); rw [Int.toNat_natCast, hget]) | ((conv in (opM _ _ _ _ _) => whnf); (conv in (opS _ _ _ _) => whnf); rw [Int.toNat_natCast, hget]) | ((rw [hw])) | refine callK_p e0 ?_ | refine callM_p e0 rfl ?_ | refine callK_pf rfl e0 ?_ | refine callK_p e2 ?_ | refine callM_p e2 rfl ?_ | refine callK_pf rfl e2 ?_ | refine wpfS_seq1 ?_ | refine wpfS_go ?_ | fail) <;> conv => whnf)
      rw [hw2]
      refine ⟨k + 1, hk', (show 16 - (k + 1) < 16 - k by omega), ⟨rfl, rfl, ?_, rfl, trivial⟩, rfl⟩
      show uv _ = uv _
      rw [hst]
  · have hk' : k = 16 := by have := of_decide_eq_false h; omega
    subst hk'
    clear h
    conv => whnf
    repeat' ((first | refine brP_t (by assumption) ?_ | refine brP_f (by assumption) ?_ | refine brP_t (decide_eq_true (by omega)) ?_ | refine brP_f (decide_eq_false (by omega)) ?_ | refine brP_t (nd_t (by omega)) ?_ | refine brP_f (nd_f (by omega)) ?_ | refine wpfS_seq1 ?_ | refine wpfS_go ?_ | fail) <;> conv => whnf)
    rfl
/-! ### The first -/
def firstP : Pol := ⟨1, fun _ => 0, fun r => if r = 0 then 65535 else 0, fun _ => 0, fun _ => 0, 65535⟩
theorem policy_First_ok : EvP PR G f_policy_First [] firstP.v := EvP.of_rEq R0_ok 10 rfl (by kernel_rfl)
theorem R12_First_ok : EvP PR G f_R12_First [] firstP.v := EvP.of_rEq R0_ok 10 rfl (by kernel_rfl)
end Go.Ab.S
