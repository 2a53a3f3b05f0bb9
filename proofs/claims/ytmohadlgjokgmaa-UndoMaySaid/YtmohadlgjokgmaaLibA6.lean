/- Part of a proof; no condition. -/
import Derived.Test.YtmohadlgjokgmaaLibA5
set_option linter.unusedSimpArgs false
set_option linter.unusedVariables false
namespace Go.Ab.S
open Go Go.Ab Go.Proofs
attribute [local irreducible] SemS
set_option maxRecDepth 100000
/-- The tags that have one in whose place they are. -/
def imgB (M : Nat → Nat) (s n u : Nat) : Bool := (List.range n).any fun t => s.testBit t && decide (M t = u)
def setN (M : Nat → Nat) (s : Nat) : Nat := setOf (imgB M s 16) 16
theorem imgB_iff {M : Nat → Nat} {s n u : Nat} : imgB M s n u = true ↔ ∃ t, t < n ∧ s.testBit t = true ∧ M t = u := by simp [imgB]
theorem imgB_step (M : Nat → Nat) (s n u : Nat) : imgB M s (n + 1) u = (imgB M s n u || (s.testBit n && decide (M n = u))) := by
  simp [imgB, List.range_succ]
theorem setN_lt {M : Nat → Nat} {s : Nat} : setN M s < 65536 := setOf_lt _ (Nat.le_refl 16)
theorem setN_bit {M : Nat → Nat} {s u : Nat} : (setN M s).testBit u = true ↔ u < 16 ∧ ∃ t, t < 16 ∧ s.testBit t = true ∧ M t = u := by
  rw [setN, setOf_bit, Bool.and_eq_true, decide_eq_true_eq, imgB_iff]
theorem or_self_bit {a u : Nat} : (a ||| 2 ^ u) ||| 2 ^ u = a ||| 2 ^ u := by rw [Nat.or_assoc, Nat.or_self]
theorem R04_Set_ok (M : Nat → Nat) (hM : ∀ i, i < 16 → M i ≤ 255) (s : Nat) (hs : s < 65536) : EvP PR G f_R04_Set [mv M, uv s] (uv (setN M s)) := by
  refine EvP.of_wpf true hm c_R04_Set rfl ?_
  refine wpf_seq1 ?_
  conv => whnf
  refine wpfS_seq1 ?_
  conv => whnf
  refine wpfS_seq1 ?_
  conv => whnf
  refine SemS.loopF true hm (σ := Nat) (fun u => [(1, uv s), (2, .c (.ptr (.loc 0) 0)), (6, iv u), (5, uv (setOf (imgB M s 16) u))]) (fun _ => ⟨[], [.row (mrow M)]⟩) (fun i => 16 - i) (fun i => i ≤ 16) 0 (Nat.zero_le _) ⟨rfl, rfl, rfl, rfl, trivial⟩ rfl ?_
  intro u hu
  conv => whnf
  refine brP_mk (fun h => ?_) (fun h => ?_)
  · have hu' : u < 16 := by have := of_decide_eq_true h; omega
    clear h
    have hA := setOf_lt (imgB M s 16) hu
    have hp := pow16 (t := u) (by omega)
    conv => whnf
    refine SemS.loopF true hm (σ := Nat) (fun t => [(1, uv s), (2, .c (.ptr (.loc 0) 0)), (6, iv u), (7, iv t), (5, uv ((if imgB M s t u then setOf (imgB M s 16) u ||| 2 ^ u else setOf (imgB M s 16) u : Nat) : Int))]) (fun _ => ⟨[], [.row (mrow M)]⟩) (fun i => 16 - i) (fun i => i ≤ 16) 0 (Nat.zero_le _) ⟨rfl, rfl, rfl, rfl, rfl, trivial⟩ rfl ?_
    intro t ht
    have hB : (if imgB M s t u then setOf (imgB M s 16) u ||| 2 ^ u else setOf (imgB M s 16) u) < 65536 := by
      split
      · exact or_lt hA (by omega)
      · exact hA
    conv => whnf
    refine brP_mk (fun h => ?_) (fun h => ?_)
    · have ht' : t < 16 := by have := of_decide_eq_true h; omega
      clear h
      conv => whnf
      have hget := mrow_at' M (i := 0 + (t : Int).toNat * 1) (t := t) (by simp) ht'
      have hget2 := mrow_at M (i := 0 + (t : Int).toNat * 1) (t := t) (by simp) ht'
      have hw := wrapU8 (M t) (hM t ht')
      have hw2 : IntKind.i64.wrap ((t : Int) + 1) = ((t + 1 : Nat) : Int) := by rw [wrap64 (by omega)]; rfl
      have e1 := hasN_nat (s := s) ht'
      repeat' ((first | refine brP_t (by assumption) ?_ | refine brP_f (by assumption) ?_ | refine brP_t (decide_eq_true (by omega)) ?_ | refine brP_f (decide_eq_false (by omega)) ?_ | refine brP_t (nd_t (by omega)) ?_ | refine brP_f (nd_f (by omega)) ?_ | refine callK_p (R01_Has_ok _ _ hs) ?_ | refine callM_p (R01_Has_ok _ _ hs) rfl ?_ | refine callK_pf rfl (R01_Has_ok _ _ hs) ?_ | fail) <;> conv => whnf)
      rw [e1]
      have next : ∀ {T : Tm} (x : Nat), (x = if imgB M s (t + 1) u then setOf (imgB M s 16) u ||| 2 ^ u else setOf (imgB M s 16) u) → subP T [(1, uv s), (2, .c (.ptr (.loc 0) 0)), (6, iv u), (7, iv ((t + 1 : Nat) : Int)), (5, uv (x : Int))] → ∃ s', s' ≤ 16 ∧ 16 - s' < 16 - t ∧ subP T [(1, uv s), (2, .c (.ptr (.loc 0) 0)), (6, iv u), (7, iv (s' : Int)), (5, uv ((if imgB M s s' u then setOf (imgB M s 16) u ||| 2 ^ u else setOf (imgB M s 16) u : Nat) : Int))] ∧ True := by
        rintro T x rfl h
        exact ⟨t + 1, by omega, by omega, h, trivial⟩
      cases hb : s.testBit t with
      | true =>
        conv => whnf
        repeat' ((first | refine brP_t (by assumption) ?_ | refine brP_f (by assumption) ?_ | refine brP_t (decide_eq_true (by omega)) ?_ | refine brP_f (decide_eq_false (by omega)) ?_ | refine brP_t (nd_t (by omega)) ?_ | refine brP_f (nd_f (by omega)) ?_ | (conv in (opS _ _ _ _) => whnf; first | rw [hget] | rw [hget2]) | fail) <;> conv => whnf)
        rw [hw]
        refine brP_mk (fun h => ?_) (fun h => ?_)
        · have he : M t = u := by simp at h; omega
          conv => whnf
          repeat' ((first | refine brP_t (by assumption) ?_ | refine brP_f (by assumption) ?_ | refine brP_t (decide_eq_true (by omega)) ?_ | refine brP_f (decide_eq_false (by omega)) ?_ | refine brP_t (nd_t (by omega)) ?_ | refine brP_f (nd_f (by omega)) ?_ | refine callK_p (R01_With_ok _ _ hB) ?_ | refine callM_p (R01_With_ok _ _ hB) rfl ?_ | refine callK_pf rfl (R01_With_ok _ _ hB) ?_ | fail) <;> conv => whnf)
          rw [hw2, withN_nat hu']
          refine ⟨t + 1, by omega, (show 16 - (t + 1) < 16 - t by omega), ⟨rfl, rfl, rfl, rfl, ?_, trivial⟩, rfl⟩
          show uv _ = uv _
          rw [imgB_step, hb]
          cases imgB M s t u <;> simp [he, or_self_bit]
        · have he : M t ≠ u := by simp at h; omega
          conv => whnf
          repeat' ((first | refine brP_t (by assumption) ?_ | refine brP_f (by assumption) ?_ | refine brP_t (decide_eq_true (by omega)) ?_ | refine brP_f (decide_eq_false (by omega)) ?_ | refine brP_t (nd_t (by omega)) ?_ | refine brP_f (nd_f (by omega)) ?_ | fail) <;> conv => whnf)
          rw [hw2]
          refine ⟨t + 1, by omega, (show 16 - (t + 1) < 16 - t by omega), ⟨rfl, rfl, rfl, rfl, ?_, trivial⟩, rfl⟩
          show uv _ = uv _
          rw [imgB_step, hb]
          simp [he]
      | false =>
        conv => whnf
        repeat' ((first | refine brP_t (by assumption) ?_ | refine brP_f (by assumption) ?_ | refine brP_t (decide_eq_true (by omega)) ?_ | refine brP_f (decide_eq_false (by omega)) ?_ | refine brP_t (nd_t (by omega)) ?_ | refine brP_f (nd_f (by omega)) ?_ | fail) <;> conv => whnf)
        rw [hw2]
        refine ⟨t + 1, by omega, (show 16 - (t + 1) < 16 - t by omega), ⟨rfl, rfl, rfl, rfl, ?_, trivial⟩, rfl⟩
        show uv _ = uv _
        rw [imgB_step, hb]
        simp
    · have ht' : t = 16 := by have := of_decide_eq_false h; omega
      subst ht'
      have hw2 : IntKind.i64.wrap ((u : Int) + 1) = ((u + 1 : Nat) : Int) := by rw [wrap64 (by omega)]; rfl
      conv => whnf
      repeat' ((first | refine brP_t (by assumption) ?_ | refine brP_f (by assumption) ?_ | refine brP_t (decide_eq_true (by omega)) ?_ | refine brP_f (decide_eq_false (by omega)) ?_ | refine brP_t (nd_t (by omega)) ?_ | refine brP_f (nd_f (by omega)) ?_ | fail) <;> conv => whnf)
      rw [hw2]
      refine ⟨u + 1, by omega, (show 16 - (u + 1) < 16 - u by omega), ⟨rfl, rfl, rfl, ?_, trivial⟩, rfl⟩
      show uv _ = uv _
      rw [setOf_step]
  · have hu' : u = 16 := by have := of_decide_eq_false h; omega
    subst hu'
    conv => whnf
    refine wpfS_go ?_
    conv => whnf
    rfl
end Go.Ab.S
