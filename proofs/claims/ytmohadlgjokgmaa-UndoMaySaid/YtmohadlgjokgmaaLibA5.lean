/- Part of a proof; no condition. -/
import Derived.Test.YtmohadlgjokgmaaLibA4
set_option linter.unusedSimpArgs false
set_option linter.unusedVariables false
namespace Go.Ab.S
open Go Go.Ab Go.Proofs
attribute [local irreducible] SemS
set_option maxRecDepth 100000
theorem and_lt {a b : Nat} (ha : a < 65536) : a &&& b < 65536 := Nat.lt_of_le_of_lt Nat.and_le_left ha
theorem or_lt {a b : Nat} (ha : a < 65536) (hb : b < 65536) : a ||| b < 65536 := Nat.or_lt_two_pow (n := 16) ha hb
theorem R01_And_ok (a b : Nat) (ha : a < 65536) (hb : b < 65536) : EvP PR G f_R01_And [uv a, uv b] (uv ((a &&& b : Nat) : Int)) := by
  have hl := setOf_lt (fun t => a.testBit t && !b.testBit t) (Nat.le_refl 16)
  have e : setOf (fun t => a.testBit t && !(setOf (fun t => a.testBit t && !b.testBit t) 16).testBit t) 16 = a &&& b := by
    refine set_ext (setOf_lt _ (Nat.le_refl 16)) (and_lt ha) fun j hj => ?_
    rw [setOf_bit' _ hj, setOf_bit' _ hj, Nat.testBit_and]
    cases a.testBit j <;> simp
  refine EvP.of_wpf true hm c_R01_And rfl ?_
  conv => whnf
  repeat' ((first | refine brP_t (by assumption) ?_ | refine brP_f (by assumption) ?_ | refine brP_t (decide_eq_true (by omega)) ?_ | refine brP_f (decide_eq_false (by omega)) ?_ | refine brP_t (nd_t (by omega)) ?_ | refine brP_f (nd_f (by omega)) ?_ | refine callK_p (R01_Less_ok a b ha hb) ?_ | refine callM_p (R01_Less_ok a b ha hb) rfl ?_ | refine callK_pf rfl (R01_Less_ok a b ha hb) ?_ | refine callK_p (R01_Less_ok a _ ha hl) ?_ | refine callM_p (R01_Less_ok a _ ha hl) rfl ?_ | refine callK_pf rfl (R01_Less_ok a _ ha hl) ?_ | fail) <;> conv => whnf)
  rw [e]
  rfl
theorem R01_Or_ok (a b : Nat) (ha : a < 65536) (hb : b < 65536) : EvP PR G f_R01_Or [uv a, uv b] (uv ((a ||| b : Nat) : Int)) := by
  refine EvP.of_wpf true hm c_R01_Or rfl ?_
  refine wpf_seq1 ?_
  conv => whnf
  refine wpfS_seq1 ?_
  conv => whnf
  refine SemS.loopF true hm (σ := Nat) (fun i => [(0, uv ((a ||| setOf b.testBit i : Nat) : Int)), (1, uv b), (5, iv i)]) (fun _ => ⟨[], []⟩) (fun i => 16 - i) (fun i => i ≤ 16) 0 (Nat.zero_le _) ⟨?_, rfl, rfl, trivial⟩ rfl ?_
  · show uv _ = uv _
    simp [setOf]
  intro i hi
  have hso := or_lt ha (setOf_lt b.testBit hi)
  conv => whnf
  refine brP_mk (fun h => ?_) (fun h => ?_)
  · have hi' : i < 16 := by have := of_decide_eq_true h; omega
    clear h
    conv => whnf
    have hw2 : IntKind.i64.wrap ((i : Int) + 1) = ((i + 1 : Nat) : Int) := by rw [wrap64 (by omega)]; rfl
    have e2 := hasN_nat (s := b) hi'
    repeat' ((first | refine brP_t (by assumption) ?_ | refine brP_f (by assumption) ?_ | refine callK_p (R01_Has_ok _ _ hb) ?_ | refine callM_p (R01_Has_ok _ _ hb) rfl ?_ | refine callK_pf rfl (R01_Has_ok _ _ hb) ?_ | refine callK_p (R01_With_ok _ _ hso) ?_ | refine callM_p (R01_With_ok _ _ hso) rfl ?_ | refine callK_pf rfl (R01_With_ok _ _ hso) ?_ | refine brP_mk (fun h => ?_) (fun h => ?_) | fail) <;> conv => whnf)
    all_goals
      refine ⟨i + 1, by omega, (show 16 - (i + 1) < 16 - i by omega), ⟨?_, rfl, ?_, trivial⟩, rfl⟩
      · show uv _ = uv _
        simp_all [setOf_step, withN_nat hi', Nat.or_assoc]
      · show iv (IntKind.i64.wrap _) = _
        rw [hw2]
  · have hi' : i = 16 := by have := of_decide_eq_false h; omega
    subst hi'
    conv => whnf
    refine wpfS_go ?_
    conv => whnf
    have e : a ||| setOf b.testBit 16 = a ||| b := by
      refine set_ext (or_lt ha (setOf_lt _ (Nat.le_refl 16))) (or_lt ha hb) fun j hj => ?_
      rw [Nat.testBit_or, Nat.testBit_or, setOf_bit' _ hj]
    show uv _ = uv _
    rw [e]
def lab (s i : Nat) : AV := .agg [.int .u16 s, .int .u16 i]
theorem label_Tags_ok (s i : Nat) (hs : s < 65536) (hi : i < 65536) : EvP PR G f_label_Tags [lab s i] (uv ((s ||| i : Nat) : Int)) := by
  refine EvP.of_wpf true hm c_label_Tags rfl ?_
  conv => whnf
  rw [or16 hs hi]
  rfl
def touchesB (M : Nat → Nat) (s i : Nat) : Bool := !decide (((s ||| i) &&& movedN M) = 0)
theorem movedN_lt {M : Nat → Nat} : movedN M < 65536 := setOf_lt _ (Nat.le_refl 16)
theorem int_zero {a : Nat} : decide ((a : Int) = 0) = decide (a = 0) := by apply decide_eq_decide.2; omega
theorem relabel_Touches_ok (M : Nat → Nat) (hM : ∀ i, i < 16 → M i ≤ 255) (s i : Nat) (hs : s < 65536) (hi : i < 65536) : EvP PR G f_relabel_Touches [mv M, lab s i] (bv (touchesB M s i)) := by
  refine EvP.of_wpf true hm c_relabel_Touches rfl ?_
  conv => whnf
  repeat' ((first | refine brP_t (by assumption) ?_ | refine brP_f (by assumption) ?_ | refine brP_t (decide_eq_true (by omega)) ?_ | refine brP_f (decide_eq_false (by omega)) ?_ | refine brP_t (nd_t (by omega)) ?_ | refine brP_f (nd_f (by omega)) ?_ | refine callK_p (label_Tags_ok s i hs hi) ?_ | refine callM_p (label_Tags_ok s i hs hi) rfl ?_ | refine callK_pf rfl (label_Tags_ok s i hs hi) ?_ | refine callK_p (relabel_Moved_ok M hM) ?_ | refine callM_p (relabel_Moved_ok M hM) rfl ?_ | refine callK_pf rfl (relabel_Moved_ok M hM) ?_ | fail) <;> conv => whnf)
  rw [and16 (or_lt hs hi) movedN_lt, int_zero]
  rfl
theorem R04_Touches_ok (M : Nat → Nat) (hM : ∀ i, i < 16 → M i ≤ 255) (s i : Nat) (hs : s < 65536) (hi : i < 65536) : EvP PR G f_R04_Touches [mv M, lab s i] (bv (touchesB M s i)) := by
  refine EvP.of_wpf true hm c_R04_Touches rfl ?_
  conv => whnf
  repeat' ((first | refine brP_t (by assumption) ?_ | refine brP_f (by assumption) ?_ | refine brP_t (decide_eq_true (by omega)) ?_ | refine brP_f (decide_eq_false (by omega)) ?_ | refine brP_t (nd_t (by omega)) ?_ | refine brP_f (nd_f (by omega)) ?_ | refine callK_p (R04_Moved_ok M hM) ?_ | refine callM_p (R04_Moved_ok M hM) rfl ?_ | refine callK_pf rfl (R04_Moved_ok M hM) ?_ | refine callK_p (R01_Or_ok s i hs hi) ?_ | refine callM_p (R01_Or_ok s i hs hi) rfl ?_ | refine callK_pf rfl (R01_Or_ok s i hs hi) ?_ | refine callK_p (R01_And_ok _ _ movedN_lt (or_lt hs hi)) ?_ | refine callM_p (R01_And_ok _ _ movedN_lt (or_lt hs hi)) rfl ?_ | refine callK_pf rfl (R01_And_ok _ _ movedN_lt (or_lt hs hi)) ?_ | fail) <;> conv => whnf)
  rw [int_zero, Nat.and_comm]
  rfl
/-- May a map be? -/
def fineB (M : Nat → Nat) : Bool := (List.range 16).all fun t => decide (M t < 16) && decide (M (M t) = M t)
theorem fineB_iff {M : Nat → Nat} : fineB M = true ↔ ∀ t, t < 16 → M t < 16 ∧ M (M t) = M t := by simp [fineB]
theorem fineB_false {M : Nat → Nat} {t : Nat} (ht : t < 16) (h : ¬ (M t < 16 ∧ M (M t) = M t)) : fineB M = false := by
  cases hf : fineB M with
  | false => rfl
  | true => exact absurd (fineB_iff.1 hf t ht) h
end Go.Ab.S
