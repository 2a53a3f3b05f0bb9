/- Part of a proof; no condition. -/
import Derived.Test.YtmohadlgjokgmaaLibA3
set_option linter.unusedSimpArgs false
set_option linter.unusedVariables false
namespace Go.Ab.S
open Go Go.Ab Go.Proofs
attribute [local irreducible] SemS
set_option maxRecDepth 100000
def movedN (M : Nat → Nat) : Nat := setOf (fun t => decide (M t ≠ t)) 16
theorem ofN_nat {i : Nat} (h : i < 16) : ofN i = 2 ^ i := by
  unfold ofN
  rw [if_pos (by omega)]; rfl
theorem setOf_step (p : Nat → Bool) (n : Nat) : setOf p (n + 1) = if p n then setOf p n ||| 2 ^ n else setOf p n := rfl
theorem relabel_Moved_ok (M : Nat → Nat) (hM : ∀ i, i < 16 → M i ≤ 255) : EvP PR G f_relabel_Moved [mv M] (uv (movedN M)) := by
  refine EvP.of_wpf true hm c_relabel_Moved rfl ?_
  refine wpf_seq1 ?_
  conv => whnf
  refine wpfS_seq1 ?_
  conv => whnf
  refine wpfS_seq1 ?_
  conv => whnf
  refine SemS.loopF true hm (σ := Nat) (fun i => [(6, mv M), (7, iv i), (3, uv (setOf (fun t => decide (M t ≠ t)) i))]) (fun _ => ⟨[], [.row (mrow M)]⟩) (fun i => 16 - i) (fun i => i ≤ 16) 0 (Nat.zero_le _) ⟨rfl, rfl, rfl, trivial⟩ rfl ?_
  intro i hi
  conv => whnf
  refine brP_mk (fun h => ?_) (fun h => ?_)
  · have hi' : i < 16 := by have := of_decide_eq_true h; omega
    clear h
    conv => whnf
    have hget := mrow_at' M (i := (i : Int).toNat * 1) (t := i) (by simp) hi'
    have hw := wrapU8 (M i) (hM i hi')
    have hw2 : IntKind.i64.wrap ((i : Int) + 1) = ((i + 1 : Nat) : Int) := by rw [wrap64 (by omega)]; rfl
    have hso := setOf_lt (fun t => decide (M t ≠ t)) hi
    have hp := pow16 (t := i) (by omega)
    repeat' ((first | refine brP_t (by assumption) ?_ | refine brP_f (by assumption) ?_ | refine brP_t (decide_eq_true (by omega)) ?_ | refine brP_f (decide_eq_false (by omega)) ?_ | refine brP_t (nd_t (by omega)) ?_ | refine brP_f (nd_f (by omega)) ?_ | (conv in (opS _ _ _ _) => whnf; rw [hget]) | fail) <;> conv => whnf)
    rw [hw]
    refine brP_mk (fun h => ?_) (fun h => ?_)
    · have hne : M i ≠ i := by simp at h; omega
      clear h
      conv => whnf
      repeat' ((first | refine brP_t (by assumption) ?_ | refine brP_f (by assumption) ?_ | refine brP_t (decide_eq_true (by omega)) ?_ | refine brP_f (decide_eq_false (by omega)) ?_ | refine brP_t (nd_t (by omega)) ?_ | refine brP_f (nd_f (by omega)) ?_ | refine callK_p (Of1_ok _) ?_ | refine callM_p (Of1_ok _) rfl ?_ | refine callK_pf rfl (Of1_ok _) ?_ | fail) <;> conv => whnf)
      rw [ofN_nat hi', or16 hso (by omega), hw2]
      refine ⟨i + 1, by omega, (show 16 - (i + 1) < 16 - i by omega), ⟨rfl, rfl, ?_, trivial⟩, rfl⟩
      show _ = uv _
      rw [setOf_step, if_pos (decide_eq_true hne)]; rfl
    · have hne : M i = i := by simp at h; omega
      clear h
      conv => whnf
      repeat' ((first | refine brP_t (by assumption) ?_ | refine brP_f (by assumption) ?_ | refine brP_t (decide_eq_true (by omega)) ?_ | refine brP_f (decide_eq_false (by omega)) ?_ | refine brP_t (nd_t (by omega)) ?_ | refine brP_f (nd_f (by omega)) ?_ | fail) <;> conv => whnf)
      rw [hw2]
      refine ⟨i + 1, by omega, (show 16 - (i + 1) < 16 - i by omega), ⟨rfl, rfl, ?_, trivial⟩, rfl⟩
      show _ = uv _
      rw [setOf_step, if_neg (by simp [hne])]; rfl
  · have hi' : i = 16 := by have := of_decide_eq_false h; omega
    subst hi'
    conv => whnf
    refine wpfS_go ?_
    conv => whnf
    rfl

theorem setOf_bit' (p : Nat → Bool) {n j : Nat} (h : j < n) : (setOf p n).testBit j = p j := by rw [setOf_bit]; simp [h]
theorem withN_nat {s i : Nat} (h : i < 16) : withN s i = s ||| 2 ^ i := by unfold withN; rw [if_pos (by omega)]; rfl
theorem hasN_nat {s i : Nat} (h : i < 16) : hasN s i = s.testBit i := by
  unfold hasN
  rw [decide_eq_true (show (0 : Int) ≤ i by omega), decide_eq_true (show (i : Int) ≤ 15 by omega)]; rfl
theorem R04_Moved_ok (M : Nat → Nat) (hM : ∀ i, i < 16 → M i ≤ 255) : EvP PR G f_R04_Moved [mv M] (uv (movedN M)) := by
  refine EvP.of_wpf true hm c_R04_Moved rfl ?_
  refine wpf_seq1 ?_
  conv => whnf
  refine wpfS_seq1 ?_
  conv => whnf
  refine wpfS_seq1 ?_
  conv => whnf
  refine SemS.loopF true hm (σ := Nat) (fun i => [(1, .c (.ptr (.loc 0) 0)), (4, iv i), (3, uv (setOf (fun t => decide (M t ≠ t)) i))]) (fun _ => ⟨[], [.row (mrow M)]⟩) (fun i => 16 - i) (fun i => i ≤ 16) 0 (Nat.zero_le _) ⟨rfl, rfl, rfl, trivial⟩ rfl ?_
  intro i hi
  have hso := setOf_lt (fun t => decide (M t ≠ t)) hi
  conv => whnf
  refine brP_mk (fun h => ?_) (fun h => ?_)
  · have hi' : i < 16 := by have := of_decide_eq_true h; omega
    clear h
    conv => whnf
    have hget := mrow_at' M (i := 0 + (i : Int).toNat * 1) (t := i) (by simp) hi'
    have hget' := mrow_at M (i := 0 + (i : Int).toNat * 1) (t := i) (by simp) hi'
    have hw := wrapU8 (M i) (hM i hi')
    have hw2 : IntKind.i64.wrap ((i : Int) + 1) = ((i + 1 : Nat) : Int) := by rw [wrap64 (by omega)]; rfl
    repeat' ((first | refine brP_t (by assumption) ?_ | refine brP_f (by assumption) ?_ | refine brP_t (decide_eq_true (by omega)) ?_ | refine brP_f (decide_eq_false (by omega)) ?_ | refine brP_t (nd_t (by omega)) ?_ | refine brP_f (nd_f (by omega)) ?_ | (conv in (opS _ _ _ _) => whnf; first | rw [hget] | rw [hget']) | fail) <;> conv => whnf)
    rw [hw]
    refine brP_mk (fun h => ?_) (fun h => ?_)
    · have hne : M i ≠ i := by simp at h; omega
      clear h
      conv => whnf
      repeat' ((first | refine brP_t (by assumption) ?_ | refine brP_f (by assumption) ?_ | refine brP_t (decide_eq_true (by omega)) ?_ | refine brP_f (decide_eq_false (by omega)) ?_ | refine brP_t (nd_t (by omega)) ?_ | refine brP_f (nd_f (by omega)) ?_ | refine callK_p (R01_With_ok _ _ hso) ?_ | refine callM_p (R01_With_ok _ _ hso) rfl ?_ | refine callK_pf rfl (R01_With_ok _ _ hso) ?_ | fail) <;> conv => whnf)
      rw [withN_nat hi', hw2]
      refine ⟨i + 1, by omega, (show 16 - (i + 1) < 16 - i by omega), ⟨rfl, rfl, ?_, trivial⟩, rfl⟩
      show _ = uv _
      rw [setOf_step, if_pos (decide_eq_true hne)]; rfl
    · have hne : M i = i := by simp at h; omega
      clear h
      conv => whnf
      repeat' ((first | refine brP_t (by assumption) ?_ | refine brP_f (by assumption) ?_ | refine brP_t (decide_eq_true (by omega)) ?_ | refine brP_f (decide_eq_false (by omega)) ?_ | refine brP_t (nd_t (by omega)) ?_ | refine brP_f (nd_f (by omega)) ?_ | fail) <;> conv => whnf)
      rw [hw2]
      refine ⟨i + 1, by omega, (show 16 - (i + 1) < 16 - i by omega), ⟨rfl, rfl, ?_, trivial⟩, rfl⟩
      show _ = uv _
      rw [setOf_step, if_neg (by simp [hne])]; rfl
  · have hi' : i = 16 := by have := of_decide_eq_false h; omega
    subst hi'
    conv => whnf
    refine wpfS_go ?_
    conv => whnf
    rfl

theorem R01_Less_ok (a b : Nat) (ha : a < 65536) (hb : b < 65536) : EvP PR G f_R01_Less [uv a, uv b] (uv (setOf (fun t => a.testBit t && !b.testBit t) 16)) := by
  refine EvP.of_wpf true hm c_R01_Less rfl ?_
  refine wpf_seq1 ?_
  conv => whnf
  refine wpfS_seq1 ?_
  conv => whnf
  refine wpfS_seq1 ?_
  conv => whnf
  refine SemS.loopF true hm (σ := Nat) (fun i => [(0, uv a), (1, uv b), (6, iv i), (5, uv (setOf (fun t => a.testBit t && !b.testBit t) i))]) (fun _ => ⟨[], []⟩) (fun i => 16 - i) (fun i => i ≤ 16) 0 (Nat.zero_le _) ⟨rfl, rfl, rfl, rfl, trivial⟩ rfl ?_
  intro i hi
  have hso := setOf_lt (fun t => a.testBit t && !b.testBit t) hi
  conv => whnf
  refine brP_mk (fun h => ?_) (fun h => ?_)
  · have hi' : i < 16 := by have := of_decide_eq_true h; omega
    clear h
    conv => whnf
    have hw2 : IntKind.i64.wrap ((i : Int) + 1) = ((i + 1 : Nat) : Int) := by rw [wrap64 (by omega)]; rfl
    have e1 := hasN_nat (s := a) hi'
    have e2 := hasN_nat (s := b) hi'
    repeat' ((first | refine brP_t (by assumption) ?_ | refine brP_f (by assumption) ?_ | refine callK_p (R01_Has_ok _ _ ha) ?_ | refine callM_p (R01_Has_ok _ _ ha) rfl ?_ | refine callK_pf rfl (R01_Has_ok _ _ ha) ?_ | refine callK_p (R01_Has_ok _ _ hb) ?_ | refine callM_p (R01_Has_ok _ _ hb) rfl ?_ | refine callK_pf rfl (R01_Has_ok _ _ hb) ?_ | refine callK_p (R01_With_ok _ _ hso) ?_ | refine callM_p (R01_With_ok _ _ hso) rfl ?_ | refine callK_pf rfl (R01_With_ok _ _ hso) ?_ | refine brP_mk (fun h => ?_) (fun h => ?_) | fail) <;> conv => whnf)
    all_goals
      refine ⟨i + 1, by omega, (show 16 - (i + 1) < 16 - i by omega), ⟨rfl, rfl, ?_, ?_, trivial⟩, rfl⟩
      · show iv (IntKind.i64.wrap _) = _
        rw [hw2]
      · show uv _ = uv _
        simp_all [setOf_step, withN_nat hi']
  · have hi' : i = 16 := by have := of_decide_eq_false h; omega
    subst hi'
    conv => whnf
    refine wpfS_go ?_
    conv => whnf
    rfl
end Go.Ab.S
