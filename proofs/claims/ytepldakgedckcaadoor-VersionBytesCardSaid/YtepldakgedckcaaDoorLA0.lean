/- Sets of tags as numbers: plain facts. No condition. -/
import Derived.Test.YtepldakgedckcaaDoorFwE
set_option linter.unusedSimpArgs false
set_option linter.unusedVariables false
namespace Go.Ab
open Go

theorem odd_part : ∀ (t : Nat), 0 < t → ∃ k m, t = 2 ^ k * (2 * m + 1) := by
  intro t
  induction t using Nat.strongRecOn with
  | _ t ih =>
    intro ht
    rcases Nat.mod_two_eq_zero_or_one t with h | h
    · obtain ⟨k, m, e⟩ := ih (t / 2) (by omega) (by omega)
      refine ⟨k + 1, m, ?_⟩
      have : t = 2 * (t / 2) := by omega
      rw [this, e, Nat.pow_succ, Nat.mul_comm (2 ^ k) 2, Nat.mul_assoc]
    · exact ⟨0, t / 2, by rw [Nat.pow_zero]; omega⟩

theorem bit_t (k m j : Nat) : (2 ^ k * (2 * m + 1)).testBit j = if j < k then false else (2 * m + 1).testBit (j - k) := by
  have := Nat.testBit_two_pow_mul_add (2 * m + 1) (b := 0) (i := k) (Nat.two_pow_pos k) j
  rw [Nat.add_zero] at this
  rw [this]
  simp
theorem bit_t1 (k m j : Nat) : (2 ^ k * (2 * m + 1) - 1).testBit j = if j < k then true else (2 * m).testBit (j - k) := by
  have hp := Nat.two_pow_pos k
  have e : 2 ^ k * (2 * m + 1) - 1 = 2 ^ k * (2 * m) + (2 ^ k - 1) := by rw [Nat.mul_add, Nat.mul_one]; omega
  rw [e, Nat.testBit_two_pow_mul_add (2 * m) (by omega) j]
  split
  · rw [Nat.testBit_two_pow_sub_one]; simpa using by assumption
  · rfl
theorem odd_bit (m j : Nat) : (2 * m + 1).testBit j = if j = 0 then true else (2 * m).testBit j := by
  cases j with
  | zero => simp
  | succ j => simp [Nat.testBit_succ]; congr 1; omega

theorem and_pred (k m : Nat) : 2 ^ k * (2 * m + 1) &&& (2 ^ k * (2 * m + 1) - 1) = 2 ^ k * (2 * m) := by
  refine Nat.eq_of_testBit_eq fun j => ?_
  have := Nat.testBit_two_pow_mul_add (2 * m) (b := 0) (i := k) (Nat.two_pow_pos k) j
  rw [Nat.add_zero] at this
  rw [Nat.testBit_and, bit_t, bit_t1, this, odd_bit]
  by_cases h : j < k
  · simp [h]
  · by_cases h2 : j - k = 0
    · simp [h, h2]
    · simp [h, h2]

theorem and_neg (k m : Nat) (h : 2 ^ k * (2 * m + 1) < 65536) : 2 ^ k * (2 * m + 1) &&& (65536 - 2 ^ k * (2 * m + 1)) = 2 ^ k := by
  have hp := Nat.two_pow_pos k
  have hpos : 0 < 2 ^ k * (2 * m + 1) := Nat.mul_pos hp (by omega)
  have hk : k < 16 := by
    apply Nat.lt_of_not_le
    intro hk
    have : 2 ^ 16 ≤ 2 ^ k := Nat.pow_le_pow_right (by omega) hk
    have : 2 ^ k * 1 ≤ 2 ^ k * (2 * m + 1) := Nat.mul_le_mul_left _ (by omega)
    omega
  refine Nat.eq_of_testBit_eq fun j => ?_
  have e : 65536 - 2 ^ k * (2 * m + 1) = 2 ^ 16 - ((2 ^ k * (2 * m + 1) - 1) + 1) := by
    rw [show (2 ^ k * (2 * m + 1) - 1) + 1 = 2 ^ k * (2 * m + 1) by omega]
  rw [Nat.testBit_and, e, Nat.testBit_two_pow_sub_succ (by omega), bit_t, bit_t1, Nat.testBit_two_pow, odd_bit]
  by_cases h1 : j < k
  · have : ¬ k = j := by omega
    simp [h1, this]
  · by_cases h2 : j - k = 0
    · have : k = j := by omega
      subst this
      simp [hk]
    · have : ¬ k = j := by omega
      simp only [h1, h2, this, if_false]
      cases (2 * m).testBit (j - k) <;> simp

/-- A set's tags, rising. -/
def bitsN (s : Nat) : List Nat := (List.range 16).filter fun i => s.testBit i
def bitsL (s : Nat) : List Int := (bitsN s).map fun (i : Nat) => (i : Int)

theorem bitsL_zero : bitsL 0 = [] := by simp [bitsL, bitsN]
theorem bitsN_step (k m : Nat) (h : 2 ^ k * (2 * m + 1) < 65536) : bitsN (2 ^ k * (2 * m + 1)) = k :: bitsN (2 ^ k * (2 * m)) := by
  have hp := Nat.two_pow_pos k
  have hk : k < 16 := by
    apply Nat.lt_of_not_le
    intro hk
    have : 2 ^ 16 ≤ 2 ^ k := Nat.pow_le_pow_right (by omega) hk
    have : 2 ^ k * 1 ≤ 2 ^ k * (2 * m + 1) := Nat.mul_le_mul_left _ (by omega)
    omega
  have hb : ∀ j, (2 ^ k * (2 * m)).testBit j = if j < k then false else (2 * m).testBit (j - k) := by
    intro j
    have := Nat.testBit_two_pow_mul_add (2 * m) (b := 0) (i := k) hp j
    rw [Nat.add_zero] at this
    rw [this]; simp
  have hr : List.range 16 = List.range' 0 k ++ k :: List.range' (k + 1) (15 - k) := by
    rw [List.range_eq_range']
    have : 16 = k + ((15 - k) + 1) := by omega
    conv => lhs; rw [this]
    rw [← List.range'_append_1, Nat.zero_add, List.range'_succ]
  unfold bitsN
  rw [hr, List.filter_append, List.filter_append, List.filter_cons, List.filter_cons]
  have e1 : (List.range' 0 k).filter (fun i => (2 ^ k * (2 * m + 1)).testBit i) = [] := by
    rw [List.filter_eq_nil_iff]
    intro i hi
    simp only [List.mem_range'_1] at hi
    rw [bit_t]
    simp [show i < k by omega]
  have e2 : (List.range' 0 k).filter (fun i => (2 ^ k * (2 * m)).testBit i) = [] := by
    rw [List.filter_eq_nil_iff]
    intro i hi
    simp only [List.mem_range'_1] at hi
    rw [hb]
    simp [show i < k by omega]
  have e3 : (2 ^ k * (2 * m + 1)).testBit k = true := by rw [bit_t]; simp
  have e4 : (2 ^ k * (2 * m)).testBit k = false := by rw [hb]; simp
  rw [e1, e2, e3, e4]
  simp only [List.nil_append, if_true, Bool.false_eq_true, if_false]
  congr 1
  apply List.filter_congr
  intro i hi
  simp only [List.mem_range'_1] at hi
  rw [bit_t, hb, odd_bit]
  simp [show ¬ i < k by omega, show ¬ i - k = 0 by omega]
theorem bitsL_step (k m : Nat) (h : 2 ^ k * (2 * m + 1) < 65536) : bitsL (2 ^ k * (2 * m + 1)) = (k : Int) :: bitsL (2 ^ k * (2 * m)) := by
  unfold bitsL
  rw [bitsN_step k m h]
  rfl
theorem mem_bitsN {s i : Nat} : i ∈ bitsN s ↔ i < 16 ∧ s.testBit i = true := by simp [bitsN]
theorem bit_lt {t i : Nat} (ht : t < 65536) (h : t.testBit i = true) : i < 16 := by
  apply Nat.lt_of_not_le
  intro hi
  rw [Nat.testBit_lt_two_pow (Nat.lt_of_lt_of_le ht (show 2 ^ 16 ≤ 2 ^ i from Nat.pow_le_pow_right (by omega) hi))] at h
  cases h

/-- The set of the numbers below n that have a property. -/
def setOf (p : Nat → Bool) : Nat → Nat
  | 0 => 0
  | n + 1 => if p n then setOf p n ||| 2 ^ n else setOf p n
theorem setOf_bit (p : Nat → Bool) : ∀ (n j : Nat), (setOf p n).testBit j = (decide (j < n) && p j)
  | 0, j => by simp [setOf]
  | n + 1, j => by
    simp only [setOf]
    split
    · rename_i h
      rw [Nat.testBit_or, setOf_bit p n j, Nat.testBit_two_pow]
      by_cases e : n = j
      · subst e; simp [h]
      · have : (j < n + 1) = (j < n) := by apply propext; omega
        simp [e, this]
    · rename_i h
      rw [setOf_bit p n j]
      by_cases e : n = j
      · subst e; simp [h]
      · have : (j < n + 1) = (j < n) := by apply propext; omega
        simp [this]
theorem lt_of_bits {a : Nat} (h : ∀ j, a.testBit j = true → j < 16) : a < 65536 := by
  apply Nat.lt_of_not_le
  intro hge
  obtain ⟨j, hj, hb⟩ := Nat.exists_ge_and_testBit_of_ge_two_pow (n := 16) hge
  have := h j hb
  omega
theorem setOf_lt (p : Nat → Bool) {n : Nat} (h : n ≤ 16) : setOf p n < 65536 := lt_of_bits fun j hj => by
  rw [setOf_bit] at hj
  simp at hj
  omega
theorem set_ext {a b : Nat} (ha : a < 65536) (hb : b < 65536) (h : ∀ j, j < 16 → a.testBit j = b.testBit j) : a = b := by
  refine Nat.eq_of_testBit_eq fun j => ?_
  by_cases hj : j < 16
  · exact h j hj
  · have e : ∀ {c : Nat}, c < 65536 → c.testBit j = false := fun hc => by
      cases hb : Nat.testBit _ j with
      | false => rfl
      | true => exact absurd (bit_lt hc hb) hj
    rw [e ha, e hb]

/-! ### 16 bits -/
theorem wrapN16 {n : Nat} (h : n < 65536) : IntKind.u16.wrap (n : Int) = n := by
  simp [IntKind.wrap, IntKind.signed, IntKind.bits]; omega
theorem bv16 {n : Nat} (h : n < 65536) : (BitVec.ofInt (IntKind.bits .u16) (n : Int)).toNat = n := by
  simp [IntKind.bits, BitVec.ofInt]
  omega
theorem and16 {a b : Nat} (ha : a < 65536) (hb : b < 65536) : IntKind.u16.wrap ((BitVec.ofInt (IntKind.bits .u16) (a : Int) &&& BitVec.ofInt (IntKind.bits .u16) (b : Int)).toNat : Int) = ((a &&& b : Nat) : Int) := by
  rw [BitVec.toNat_and, bv16 ha, bv16 hb, wrapN16 (Nat.and_lt_two_pow a (n := 16) hb)]
theorem or16 {a b : Nat} (ha : a < 65536) (hb : b < 65536) : IntKind.u16.wrap ((BitVec.ofInt (IntKind.bits .u16) (a : Int) ||| BitVec.ofInt (IntKind.bits .u16) (b : Int)).toNat : Int) = ((a ||| b : Nat) : Int) := by
  rw [BitVec.toNat_or, bv16 ha, bv16 hb, wrapN16 (Nat.or_lt_two_pow (n := 16) ha hb)]
theorem neg16 {a : Nat} (h0 : 0 < a) (ha : a < 65536) : IntKind.u16.wrap (0 - (a : Int)) = ((65536 - a : Nat) : Int) := by
  simp [IntKind.wrap, IntKind.signed, IntKind.bits]; omega
end Go.Ab
