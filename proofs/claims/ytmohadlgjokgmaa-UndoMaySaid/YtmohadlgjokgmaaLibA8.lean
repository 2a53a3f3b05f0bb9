/- Part of a proof; no condition. -/
import Derived.Test.YtmohadlgjokgmaaLibA7
set_option linter.unusedSimpArgs false
set_option linter.unusedVariables false
namespace Go.Ab.S
open Go Go.Ab Go.Proofs
attribute [local irreducible] SemS
set_option maxRecDepth 100000
theorem moved_has {M : Nat → Nat} {a : Int} (h0 : 0 ≤ a) (h1 : a ≤ 15) : hasN (movedN M) a = !staysB M a := by
  obtain ⟨a, rfl⟩ := Int.eq_ofNat_of_zero_le h0
  rw [hasN_nat (by omega), movedN, setOf_bit' _ (by omega)]
  have : staysB M a = decide (M a = a) := by
    simp only [staysB, Int.toNat_natCast]
    rw [decide_eq_true h0, decide_eq_true (show (a : Int) < 16 by omega)]
    simp only [Bool.true_and]
    apply decide_eq_decide.2; omega
  rw [this]
  simp
theorem stays_out {M : Nat → Nat} {a : Int} (h : ¬ (0 ≤ a ∧ a ≤ 15)) : staysB M a = false := by simp [staysB]; omega
theorem R04_Move_ok (M : Nat → Nat) (hM : ∀ i, i < 16 → M i ≤ 255) (a b : Int) : EvP PR G f_R04_Move [mv M, iv a, iv b] (.tup [mv (if mayB M a b then moveN M a b else zeroM), bv (mayB M a b)]) := by
  refine EvP.of_wpf false hm c_R04_Move rfl ?_
  refine wpf_seq1 ?_
  conv => whnf
  refine wpfS_seq1 ?_
  conv => whnf
  repeat' ((first | refine brP_t (by assumption) ?_ | refine brP_f (by assumption) ?_ | refine callK_p (R04_Moved_ok M hM) ?_ | refine callM_p (R04_Moved_ok M hM) rfl ?_ | refine callK_pf rfl (R04_Moved_ok M hM) ?_ | refine callK_p (R01_Has_ok _ _ movedN_lt) ?_ | refine callM_p (R01_Has_ok _ _ movedN_lt) rfl ?_ | refine callK_pf rfl (R01_Has_ok _ _ movedN_lt) ?_ | refine brP_mk (fun h => ?_) (fun h => ?_) | fail) <;> conv => whnf)
  · have : mayB M a b = false := by rw [mayB, stays_out (by have := of_decide_eq_true h; omega)]; rfl
    rw [this]; rfl
  · have : mayB M a b = false := by rw [mayB, stays_out (by have := of_decide_eq_true h; omega)]; rfl
    rw [this]; rfl
  · have : mayB M a b = false := by rw [mayB, stays_out (a := b) (by have := of_decide_eq_true h; omega)]; cases staysB M a <;> rfl
    rw [this]; rfl
  · have : mayB M a b = false := by rw [mayB, stays_out (a := b) (by have := of_decide_eq_true h; omega)]; cases staysB M a <;> rfl
    rw [this]; rfl
  · have : mayB M a b = false := by rw [mayB, h]; cases staysB M a <;> cases staysB M b <;> rfl
    rw [this]; rfl
  · have : mayB M a b = false := by
      simp only [decide_eq_false_iff_not] at *
      have hh : hasN (movedN M) a = true := by assumption
      rw [moved_has (by omega) (by omega)] at hh
      simp at hh
      rw [mayB, hh]; rfl
    rw [this]; rfl
  · have : mayB M a b = false := by
      simp only [decide_eq_false_iff_not] at *
      have hh : hasN (movedN M) b = true := by assumption
      rw [moved_has (by omega) (by omega)] at hh
      simp at hh
      rw [mayB, hh]; cases staysB M a <;> rfl
    rw [this]; rfl
  have g1 : hasN (movedN M) a = false := by assumption
  have g2 : hasN (movedN M) b = false := by assumption
  have g3 : decide (a < 0) = false := by assumption
  have g4 : decide (a > 15) = false := by assumption
  have g5 : decide (b < 0) = false := by assumption
  have g6 : decide (b > 15) = false := by assumption
  have g7 : decide (a = b) = false := by assumption
  simp only [decide_eq_false_iff_not] at g3 g4 g5 g6 g7
  rw [moved_has (by omega) (by omega)] at g1
  rw [moved_has (by omega) (by omega)] at g2
  have b0 : 0 ≤ b := by omega
  have b1 : b < 16 := by omega
  have hmay : mayB M a b = true := by
    have e1 : staysB M a = true := by simpa using g1
    have e2 : staysB M b = true := by simpa using g2
    simp [mayB, e1, e2, g7]
  rw [hmay, if_pos rfl]
  refine wpfS_seq1 ?_
  conv => whnf
  refine SemS.loopF false hm (σ := Nat) (fun i => [(8, iv i), (3, .c (.ptr (.loc 0) 0)), (6, .c (.ptr (.loc 1) 0)), (1, iv a), (2, iv b)]) (fun i => ⟨[], [.row (mrow (upN M a b i)), .row (mrow zeroM)]⟩) (fun i => 16 - i) (fun i => i ≤ 16) 0 (Nat.zero_le _) ⟨rfl, rfl, rfl, rfl, rfl, trivial⟩ rfl ?_
  intro i hi
  conv => whnf
  refine brP_mk (fun h => ?_) (fun h => ?_)
  · have hi' : i < 16 := by have := of_decide_eq_true h; omega
    clear h
    conv => whnf
    have hget := mrow_at' (upN M a b i) (i := 0 + (i : Int).toNat * 1) (t := i) (by simp) hi'
    have hup : upN M a b i i = M i := by simp [upN]
    rw [hup] at hget
    have hw := wrapU8 (M i) (hM i hi')
    have hw2 : IntKind.i64.wrap ((i : Int) + 1) = ((i + 1 : Nat) : Int) := by rw [wrap64 (by omega)]; rfl
    repeat' ((first | refine brP_t (by assumption) ?_ | refine brP_f (by assumption) ?_ | refine brP_t (decide_eq_true (by omega)) ?_ | refine brP_f (decide_eq_false (by omega)) ?_ | refine brP_t (nd_t (by omega)) ?_ | refine brP_f (nd_f (by omega)) ?_ | (conv in (opS _ _ _ _) => whnf; rw [hget]) | fail) <;> conv => whnf)
    rw [hw]
    refine brP_mk (fun h => ?_) (fun h => ?_)
    · have he : (M i : Int) = a := by simpa using h
      clear h
      conv => whnf
      rw [cast8 ⟨b0, b1⟩]
      repeat' ((first | refine brP_t (by assumption) ?_ | refine brP_f (by assumption) ?_ | refine brP_t (decide_eq_true (by omega)) ?_ | refine brP_f (decide_eq_false (by omega)) ?_ | refine brP_t (nd_t (by omega)) ?_ | refine brP_f (nd_f (by omega)) ?_ | refine brP_t (decide_eq_true ⟨rfl, (show 0 + (i : Int).toNat * 1 + 1 ≤ 16 by omega)⟩) ?_ | fail) <;> conv => whnf)
      rw [hw2]
      refine ⟨i + 1, by omega, (show 16 - (i + 1) < 16 - i by omega), ⟨rfl, rfl, rfl, rfl, rfl, trivial⟩, ?_⟩
      show (⟨[], [.row (putAt (mrow (upN M a b i)) (0 + (i : Int).toNat * 1) [.int .u8 (b.toNat : Nat)]), .row (mrow zeroM)]⟩ : Hp) = ⟨[], [.row (mrow (upN M a b (i + 1))), .row (mrow zeroM)]⟩
      rw [show 0 + (i : Int).toNat * 1 = i by omega, mrow_put _ hi', upN_step]
      rw [show moveN M a b i = b.toNat by unfold moveN; rw [if_pos he]]
    · have he : (M i : Int) ≠ a := by simpa using h
      clear h
      conv => whnf
      repeat' ((first | refine brP_t (by assumption) ?_ | refine brP_f (by assumption) ?_ | refine brP_t (decide_eq_true (by omega)) ?_ | refine brP_f (decide_eq_false (by omega)) ?_ | refine brP_t (nd_t (by omega)) ?_ | refine brP_f (nd_f (by omega)) ?_ | fail) <;> conv => whnf)
      rw [hw2]
      refine ⟨i + 1, by omega, (show 16 - (i + 1) < 16 - i by omega), ⟨rfl, rfl, rfl, rfl, rfl, trivial⟩, ?_⟩
      show (⟨[], [.row (mrow (upN M a b i)), .row (mrow zeroM)]⟩ : Hp) = ⟨[], [.row (mrow (upN M a b (i + 1))), .row (mrow zeroM)]⟩
      rw [upN_step]
      rw [mrow_ext (M := upN M a b i) (M' := fun t => if t = i then moveN M a b i else upN M a b i t)]
      intro t ht
      by_cases e : t = i
      · subst e; simp [upN, moveN, he]
      · simp [e]
  · have hi' : i = 16 := by have := of_decide_eq_false h; omega
    subst hi'
    conv => whnf
    refine wpfS_go ?_
    conv => whnf
    show AV.tup [.agg (mrow (upN M a b 16)), bv true] = .tup [.agg (mrow (moveN M a b)), bv true]
    rw [mrow_ext (M := upN M a b 16) (M' := moveN M a b) fun t ht => by simp [upN, ht]]
end Go.Ab.S
