/- Part of a proof; no condition. -/
import Derived.Test.YtjdkjlmcnpjohaaDoorPolP4
set_option linter.unusedSimpArgs false
set_option linter.unusedVariables false
namespace Go.Ab.S
open Go Go.Ab Go.Proofs
attribute [local irreducible] SemS
set_option maxRecDepth 100000
/-! ### Which policies may be -/
def all16 (f : Nat → Bool) : Bool := (List.range 16).all f
theorem all16_iff {f : Nat → Bool} : all16 f = true ↔ ∀ r, r < 16 → f r = true := by
  unfold all16
  rw [List.all_eq_true]
  exact ⟨fun h r hr => h r (by simpa using hr), fun h r hr => h r (by simpa using hr)⟩
theorem all16_t {f : Nat → Bool} (h : ∀ r, r < 16 → f r = true) : all16 f = true := all16_iff.2 h
theorem all16_f {f : Nat → Bool} {r : Nat} (hr : r < 16) (h : f r = false) : all16 f = false := by
  cases hh : all16 f with
  | false => rfl
  | true => rw [all16_iff.1 hh r hr] at h; cases h
theorem all16_at {f : Nat → Bool} (h : all16 f = true) {r : Nat} (hr : r < 16) : f r = true := all16_iff.1 h r hr
def ownB (p : Pol) (t : Nat) : Bool := decide (p.own t = 16) || (hasN p.live (p.own t) && p.active.testBit t)
def fineP (p : Pol) : Bool := all16 (roleB p) && all16 (ownB p)
theorem policy_Fine_ok (p : Pol) (hp : p.Ok) : EvP PR G f_policy_Fine [p.v] (bv (fineP p)) := by
  refine EvP.of_wpf false hm c_policy_Fine rfl ?_
  refine wpf_seq1 ?_
  conv => whnf
  repeat' ((first | refine brP_t (by assumption) ?_ | refine brP_f (by assumption) ?_ | refine brP_t (decide_eq_true (by omega)) ?_ | refine brP_f (decide_eq_false (by omega)) ?_ | refine brP_t (nd_t (by omega)) ?_ | refine brP_f (nd_f (by omega)) ?_ | refine wpfS_seq1 ?_ | refine wpfS_go ?_ | fail) <;> conv => whnf)
  refine SemS.loopF false hm (σ := Nat) (fun i => [(1, .c (.ptr (.loc 0) 0)), (6, iv i)]) (fun _ => ⟨[], [.row p.row]⟩) (fun i => 16 - i) (fun i => i ≤ 16 ∧ ∀ j, j < i → roleB p j = true) 0 ⟨Nat.zero_le _, fun j h => absurd h (Nat.not_lt_zero j)⟩ ⟨rfl, rfl, trivial⟩ rfl ?_
  rintro i ⟨hi, hall⟩
  refine wpf_seq1 ?_
  conv => whnf
  refine wpfS_seq1 ?_
  conv => whnf
  refine brP_mk (fun h => ?_) (fun h => ?_)
  · have hi' : i < 16 := by have := of_decide_eq_true h; omega
    clear h
    have hw2 : IntKind.i64.wrap ((i : Int) + 1) = ((i + 1 : Nat) : Int) := by rw [wrap64 (by omega)]; rfl
    have e1 := policy_role_ok p hp i hi'
    cases h1 : roleB p i with
    | false =>
      rw [h1] at e1
      have hf : fineP p = false := by unfold fineP; rw [all16_f hi' h1]; rfl
      rw [hf]
      repeat' ((first | refine brP_t (by assumption) ?_ | refine brP_f (by assumption) ?_ | refine brP_t (decide_eq_true (by omega)) ?_ | refine brP_f (decide_eq_false (by omega)) ?_ | refine brP_t (nd_t (by omega)) ?_ | refine brP_f (nd_f (by omega)) ?_ | refine callK_p e1 ?_ | refine callM_p e1 rfl ?_ | refine callK_pf rfl e1 ?_ | refine wpfS_seq1 ?_ | refine wpfS_go ?_ | fail) <;> conv => whnf)
      rfl
    | true =>
      rw [h1] at e1
      repeat' ((first | refine brP_t (by assumption) ?_ | refine brP_f (by assumption) ?_ | refine brP_t (decide_eq_true (by omega)) ?_ | refine brP_f (decide_eq_false (by omega)) ?_ | refine brP_t (nd_t (by omega)) ?_ | refine brP_f (nd_f (by omega)) ?_ | refine callK_p e1 ?_ | refine callM_p e1 rfl ?_ | refine callK_pf rfl e1 ?_ | refine wpfS_seq1 ?_ | refine wpfS_go ?_ | fail) <;> conv => whnf)
      rw [hw2]
      refine ⟨i + 1, ⟨hi', fun j hj => ?_⟩, (show 16 - (i + 1) < 16 - i by omega), ⟨rfl, rfl, trivial⟩, rfl⟩
      by_cases e : j = i
      · subst e; exact h1
      · exact hall j (by omega)
  · have hi' : i = 16 := by have := of_decide_eq_false h; omega
    subst hi'
    clear h
    conv => whnf
    repeat' ((first | refine brP_t (by assumption) ?_ | refine brP_f (by assumption) ?_ | refine brP_t (decide_eq_true (by omega)) ?_ | refine brP_f (decide_eq_false (by omega)) ?_ | refine brP_t (nd_t (by omega)) ?_ | refine brP_f (nd_f (by omega)) ?_ | refine wpfS_seq1 ?_ | refine wpfS_go ?_ | fail) <;> conv => whnf)
    refine SemS.loopF false hm (σ := Nat) (fun i => [(1, .c (.ptr (.loc 0) 0)), (15, .agg (mrow p.own)), (16, iv i)]) (fun _ => ⟨[], [.row p.row]⟩) (fun i => 16 - i) (fun i => i ≤ 16 ∧ ∀ j, j < i → ownB p j = true) 0 ⟨Nat.zero_le _, fun j h => absurd h (Nat.not_lt_zero j)⟩ ⟨rfl, rfl, rfl, trivial⟩ rfl ?_
    rintro i ⟨hi, hal2⟩
    refine wpf_seq1 ?_
    conv => whnf
    refine wpfS_seq1 ?_
    conv => whnf
    refine brP_mk (fun h => ?_) (fun h => ?_)
    · have hi' : i < 16 := by have := of_decide_eq_true h; omega
      clear h
      have hw2 : IntKind.i64.wrap ((i : Int) + 1) = ((i + 1 : Nat) : Int) := by rw [wrap64 (by omega)]; rfl
      have hget := own_at p.own hi'
      have hw := wrapU8 (p.own i) (hp.own i hi')
      have e1 := tagset_Has_ok p.live (p.own i) hp.live
      have e2 := tagset_Has_ok p.active i hp.active
      rw [hasN_nat hi'] at e2
      have goOn : ownB p i = true → ∀ j, j < i + 1 → ownB p j = true := fun hb j hj => by
        by_cases e : j = i
        · subst e; exact hb
        · exact hal2 j (by omega)
      by_cases h0 : p.own i = 16
      · have hb : ownB p i = true := by unfold ownB; rw [decide_eq_true h0]; rfl
        repeat' ((first | refine brP_t (by assumption) ?_ | refine brP_f (by assumption) ?_ | refine brP_t (decide_eq_true (by omega)) ?_ | refine brP_f (decide_eq_false (by omega)) ?_ | refine brP_t (nd_t (by omega)) ?_ | refine brP_f (nd_f (by omega)) ?_ | ((conv in (opS _ _ _ _) => whnf); rw [Int.toNat_natCast, hget]) | ((conv in (opM _ _ _ _ _) => whnf); (conv in (opS _ _ _ _) => whnf); rw [Int.toNat_natCast, hget]) | refine wpfS_seq1 ?_ | refine wpfS_go ?_ | fail) <;> conv => whnf)
        rw [hw2]
        exact ⟨i + 1, ⟨hi', goOn hb⟩, (show 16 - (i + 1) < 16 - i by omega), ⟨rfl, rfl, rfl, trivial⟩, rfl⟩
      · cases h1 : hasN p.live (p.own i) with
        | false =>
          rw [h1] at e1
          have hb : ownB p i = false := by unfold ownB; rw [decide_eq_false h0, h1]; rfl
          have hf : fineP p = false := by unfold fineP; rw [all16_f hi' hb, Bool.and_false]
          rw [hf]
          repeat' ((first | refine brP_t (by assumption) ?_ | refine brP_f (by assumption) ?_ | refine brP_t (decide_eq_true (by omega)) ?_ | refine brP_f (decide_eq_false (by omega)) ?_ | refine brP_t (nd_t (by omega)) ?_ | refine brP_f (nd_f (by omega)) ?_ | ((conv in (opS _ _ _ _) => whnf); rw [Int.toNat_natCast, hget]) | ((conv in (opM _ _ _ _ _) => whnf); (conv in (opS _ _ _ _) => whnf); rw [Int.toNat_natCast, hget]) | refine callK_p e1 ?_ | refine callM_p e1 rfl ?_ | refine callK_pf rfl e1 ?_ | ((rw [hw])) | refine wpfS_seq1 ?_ | refine wpfS_go ?_ | fail) <;> conv => whnf)
          rfl
        | true =>
          rw [h1] at e1
          cases h2 : p.active.testBit i with
          | false =>
            rw [h2] at e2
            have hb : ownB p i = false := by unfold ownB; rw [decide_eq_false h0, h1, h2]; rfl
            have hf : fineP p = false := by unfold fineP; rw [all16_f hi' hb, Bool.and_false]
            rw [hf]
            repeat' ((first | refine brP_t (by assumption) ?_ | refine brP_f (by assumption) ?_ | refine brP_t (decide_eq_true (by omega)) ?_ | refine brP_f (decide_eq_false (by omega)) ?_ | refine brP_t (nd_t (by omega)) ?_ | refine brP_f (nd_f (by omega)) ?_ | ((conv in (opS _ _ _ _) => whnf); rw [Int.toNat_natCast, hget]) | ((conv in (opM _ _ _ _ _) => whnf); (conv in (opS _ _ _ _) => whnf); rw [Int.toNat_natCast, hget]) | refine callK_p e1 ?_ | refine callM_p e1 rfl ?_ | refine callK_pf rfl e1 ?_ | ((rw [hw])) | refine callK_p e2 ?_ | refine callM_p e2 rfl ?_ | refine callK_pf rfl e2 ?_ | refine wpfS_seq1 ?_ | refine wpfS_go ?_ | fail) <;> conv => whnf)
            rfl
          | true =>
            rw [h2] at e2
            have hb : ownB p i = true := by unfold ownB; rw [h1, h2, Bool.and_self, Bool.or_true]
            repeat' ((first | refine brP_t (by assumption) ?_ | refine brP_f (by assumption) ?_ | refine brP_t (decide_eq_true (by omega)) ?_ | refine brP_f (decide_eq_false (by omega)) ?_ | refine brP_t (nd_t (by omega)) ?_ | refine brP_f (nd_f (by omega)) ?_ | ((conv in (opS _ _ _ _) => whnf); rw [Int.toNat_natCast, hget]) | ((conv in (opM _ _ _ _ _) => whnf); (conv in (opS _ _ _ _) => whnf); rw [Int.toNat_natCast, hget]) | refine callK_p e1 ?_ | refine callM_p e1 rfl ?_ | refine callK_pf rfl e1 ?_ | ((rw [hw])) | refine callK_p e2 ?_ | refine callM_p e2 rfl ?_ | refine callK_pf rfl e2 ?_ | refine wpfS_seq1 ?_ | refine wpfS_go ?_ | fail) <;> conv => whnf)
            rw [hw2]
            exact ⟨i + 1, ⟨hi', goOn hb⟩, (show 16 - (i + 1) < 16 - i by omega), ⟨rfl, rfl, rfl, trivial⟩, rfl⟩
    · have hi' : i = 16 := by have := of_decide_eq_false h; omega
      subst hi'
      clear h
      have hf : fineP p = true := by unfold fineP; rw [all16_t hall, all16_t hal2]; rfl
      rw [hf]
      conv => whnf
      repeat' ((first | refine brP_t (by assumption) ?_ | refine brP_f (by assumption) ?_ | refine brP_t (decide_eq_true (by omega)) ?_ | refine brP_f (decide_eq_false (by omega)) ?_ | refine brP_t (nd_t (by omega)) ?_ | refine brP_f (nd_f (by omega)) ?_ | refine wpfS_seq1 ?_ | refine wpfS_go ?_ | fail) <;> conv => whnf)
      rfl
end Go.Ab.S
