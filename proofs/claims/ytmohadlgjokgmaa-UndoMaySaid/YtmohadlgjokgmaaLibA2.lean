/- Part of a proof; no condition. -/
import Derived.Test.YtmohadlgjokgmaaLibA1
set_option linter.unusedSimpArgs false
set_option linter.unusedVariables false
namespace Go.Ab.S
open Go Go.Ab Go.Proofs
attribute [local irreducible] SemS
set_option maxRecDepth 100000
/-- Is a number a tag of a set? -/
def hasN (s : Nat) (t : Int) : Bool := decide (0 ≤ t) && decide (t ≤ 15) && s.testBit t.toNat
theorem half16 {s : Nat} (h : s < 65536) : IntKind.u16.wrap ((s : Int).tdiv 2) = ((s / 2 : Nat) : Int) := by
  rw [show (s : Int).tdiv 2 = ((s / 2 : Nat) : Int) from rfl, wrapN16 (by omega)]
theorem R01_Has_ok (s : Nat) (t : Int) (hs : s < 65536) : EvP PR G f_R01_Has [uv s, iv t] (bv (hasN s t)) := by
  refine EvP.of_wpf true hm c_R01_Has rfl ?_
  refine wpf_seq1 ?_
  conv => whnf
  refine wpfS_seq1 ?_
  conv => whnf
  by_cases h0 : 0 ≤ t ∧ t ≤ 15
  · obtain ⟨t, rfl⟩ := Int.eq_ofNat_of_zero_le h0.1
    refine brP_f (decide_eq_false (by omega)) ?_
    conv => whnf
    refine wpfS_seq1 ?_
    conv => whnf
    refine SemS.loopF true hm (σ := Nat) (fun i => [(0, uv ((s / 2 ^ i : Nat) : Int)), (1, iv (t : Int)), (5, iv i)]) (fun _ => ⟨[], []⟩) (fun i => t - i) (fun i => i ≤ t) 0 (Nat.zero_le _) ?_ rfl ?_
    · refine ⟨?_, rfl, rfl, trivial⟩
      show uv s = uv ((s / 2 ^ 0 : Nat) : Int)
      simp
    · intro i hi
      have hlt : s / 2 ^ i < 65536 := Nat.lt_of_le_of_lt (Nat.div_le_self _ _) hs
      conv => whnf
      refine brP_mk (fun h => ?_) (fun h => ?_)
      · have h' : i < t := by simpa using h
        conv => whnf
        refine ⟨i + 1, by omega, (show t - (i + 1) < t - i by omega), ⟨?_, rfl, ?_, trivial⟩, rfl⟩
        · show uv (IntKind.u16.wrap ((((s / 2 ^ i : Nat) : Int)).tdiv 2)) = _
          rw [half16 hlt, Nat.div_div_eq_div_mul, ← Nat.pow_succ]
        · show iv (IntKind.i64.wrap ((i : Int) + 1)) = _
          rw [wrap64 (by omega)]; rfl
      · have h' : i = t := by have : ¬ i < t := by simpa using h
                              omega
        subst h'
        conv => whnf
        refine wpfS_go ?_
        conv => whnf
        have e : ((↑(s / 2 ^ i) : Int)).tmod 2 = ((s / 2 ^ i % 2 : Nat) : Int) := rfl
        rw [e]
        have : hasN s i = decide (s / 2 ^ i % 2 = 1) := by
          simp only [hasN, Int.toNat_natCast, Nat.testBit_eq_decide_div_mod_eq]
          rw [decide_eq_true h0.1, decide_eq_true h0.2]; rfl
        rw [this]
        show bv _ = bv _
        congr 1
        apply decide_eq_decide.2
        omega
  · have : hasN s t = false := by simp [hasN]; omega
    rw [this]
    repeat' ((first | refine brP_t (by assumption) ?_ | refine brP_f (by assumption) ?_ | refine brP_mk (fun h => ?_) (fun h => ?_) | fail) <;> conv => whnf)
    · rfl
    · rfl
    · exfalso
      simp only [decide_eq_false_iff_not] at *
      omega

/-- A set with one tag more. -/
def withN (s : Nat) (t : Int) : Nat := if 0 ≤ t ∧ t ≤ 15 then s ||| 2 ^ t.toNat else s
theorem pow16 {t : Nat} (h : t ≤ 15) : 2 ^ t ≤ 32768 := by
  have : 2 ^ t ≤ 2 ^ 15 := Nat.pow_le_pow_right (by omega) h
  omega
theorem withN_lt {s : Nat} {t : Int} (hs : s < 65536) : withN s t < 65536 := by
  unfold withN
  split
  · have := pow16 (t := t.toNat) (by omega)
    exact Nat.or_lt_two_pow (n := 16) hs (by omega)
  · exact hs
theorem add_or {s t : Nat} (hs : s < 65536) (ht : t < 16) (h : s.testBit t = false) : s + 2 ^ t = s ||| 2 ^ t := by
  have h2 := pow16 (t := t) (by omega)
  have hb := BitVec.add_eq_or_of_and_eq_zero (BitVec.ofNat 20 s) (BitVec.ofNat 20 (2 ^ t)) (by
    apply BitVec.eq_of_toNat_eq
    rw [BitVec.toNat_and, BitVec.toNat_ofNat, BitVec.toNat_ofNat, Nat.mod_eq_of_lt (by omega), Nat.mod_eq_of_lt (by omega)]
    refine Nat.eq_of_testBit_eq fun j => ?_
    rw [Nat.testBit_and, Nat.testBit_two_pow]
    by_cases e : t = j
    · subst e; simp [h]
    · simp [e])
  have := congrArg BitVec.toNat hb
  rw [BitVec.toNat_add, BitVec.toNat_or, BitVec.toNat_ofNat, BitVec.toNat_ofNat, Nat.mod_eq_of_lt (a := s) (by omega), Nat.mod_eq_of_lt (a := 2 ^ t) (by omega), Nat.mod_eq_of_lt (by omega)] at this
  exact this
theorem R01_With_ok (s : Nat) (t : Int) (hs : s < 65536) : EvP PR G f_R01_With [uv s, iv t] (uv (withN s t)) := by
  refine EvP.of_wpf true hm c_R01_With rfl ?_
  refine wpf_seq1 ?_
  conv => whnf
  refine wpfS_seq1 ?_
  conv => whnf
  by_cases h0 : 0 ≤ t ∧ t ≤ 15
  · obtain ⟨t, rfl⟩ := Int.eq_ofNat_of_zero_le h0.1
    repeat' ((first | refine brP_t (by assumption) ?_ | refine brP_f (by assumption) ?_ | refine brP_t (decide_eq_true (by omega)) ?_ | refine brP_f (decide_eq_false (by omega)) ?_ | refine brP_t (nd_t (by omega)) ?_ | refine brP_f (nd_f (by omega)) ?_ | refine callK_p (R01_Has_ok s t hs) ?_ | refine callM_p (R01_Has_ok s t hs) rfl ?_ | refine callK_pf rfl (R01_Has_ok s t hs) ?_ | fail) <;> conv => whnf)
    cases hb : hasN s t with
    | true =>
      conv => whnf
      have : withN s t = s := by
        unfold withN
        rw [if_pos h0]
        simp [hasN] at hb
        refine Nat.eq_of_testBit_eq fun j => ?_
        rw [Nat.testBit_or, Nat.testBit_two_pow]
        by_cases e : t = j
        · subst e; simp [hb.2]
        · simp [e]
      rw [this]; rfl
    | false =>
      conv => whnf
      have hbit : s.testBit t = false := by
        simp only [hasN, Int.toNat_natCast] at hb
        rw [decide_eq_true h0.1, decide_eq_true h0.2] at hb
        simpa using hb
      have hw : withN s t = s + 2 ^ t := by
        unfold withN
        rw [if_pos h0, add_or hs (by omega) hbit]; rfl
      refine wpfS_seq1 ?_
      conv => whnf
      refine wpfS_seq1 ?_
      conv => whnf
      refine SemS.loopF true hm (σ := Nat) (fun i => [(0, uv s), (1, iv (t : Int)), (5, uv ((2 ^ i : Nat) : Int)), (6, iv i)]) (fun _ => ⟨[], []⟩) (fun i => t - i) (fun i => i ≤ t) 0 (Nat.zero_le _) ⟨rfl, rfl, rfl, rfl, trivial⟩ rfl ?_
      intro i hi
      have hp := pow16 (t := i) (by omega)
      conv => whnf
      refine brP_mk (fun h => ?_) (fun h => ?_)
      · have h' : i < t := by simpa using h
        have hp2 := pow16 (t := i + 1) (by omega)
        conv => whnf
        refine ⟨i + 1, by omega, (show t - (i + 1) < t - i by omega), ⟨rfl, rfl, ?_, ?_, trivial⟩, rfl⟩
        · show uv (IntKind.u16.wrap (((2 ^ i : Nat) : Int) * 2)) = _
          rw [show ((2 ^ i : Nat) : Int) * 2 = ((2 ^ (i + 1) : Nat) : Int) by rw [Nat.pow_succ]; omega, wrapN16 (by omega)]
        · show iv (IntKind.i64.wrap ((i : Int) + 1)) = _
          rw [wrap64 (by omega)]; rfl
      · have h' : i = t := by have : ¬ i < t := by simpa using h
                              omega
        subst h'
        conv => whnf
        refine wpfS_go ?_
        conv => whnf
        show uv (IntKind.u16.wrap ((s : Int) + ((2 ^ i : Nat) : Int))) = _
        have := withN_lt (t := (i : Int)) hs
        rw [hw] at this ⊢
        rw [← Int.natCast_add, wrapN16 this]
  · have : withN s t = s := by unfold withN; rw [if_neg h0]
    rw [this]
    repeat' ((first | refine brP_t (by assumption) ?_ | refine brP_f (by assumption) ?_ | refine callK_p (R01_Has_ok s t hs) ?_ | refine callM_p (R01_Has_ok s t hs) rfl ?_ | refine callK_pf rfl (R01_Has_ok s t hs) ?_ | refine brP_mk (fun h => ?_) (fun h => ?_) | fail) <;> conv => whnf)
    · rfl
    · rfl
    all_goals
      exfalso
      simp only [decide_eq_false_iff_not] at *
      omega
end Go.Ab.S
