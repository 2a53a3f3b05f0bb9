/- Part of a proof; no condition. -/
import Derived.Test.YtmohadlgjokgmaaLibA6
set_option linter.unusedSimpArgs false
set_option linter.unusedVariables false
namespace Go.Ab.S
open Go Go.Ab Go.Proofs
attribute [local irreducible] SemS
set_option maxRecDepth 100000
/-- What has been gathered of some tags. -/
def accN (M : Nat → Nat) (l : List Int) : Nat := setOf (fun u => l.any fun t => decide (M t.toNat = u)) 16
theorem accN_lt {M : Nat → Nat} {l : List Int} : accN M l < 65536 := setOf_lt _ (Nat.le_refl 16)
theorem accN_nil (M : Nat → Nat) : accN M [] = 0 := by
  refine set_ext (setOf_lt _ (Nat.le_refl 16)) (by omega) fun j hj => ?_
  rw [accN, setOf_bit' _ hj]; simp
theorem accN_snoc (M : Nat → Nat) (l : List Int) (i : Nat) : accN M (l ++ [(i : Int)]) = accN M l ||| ofN (M i) := by
  refine set_ext (setOf_lt _ (Nat.le_refl 16)) (or_lt (setOf_lt _ (Nat.le_refl 16)) ofN_lt) fun j hj => ?_
  rw [accN, setOf_bit' _ hj, Nat.testBit_or, accN, setOf_bit' _ hj, List.any_append]
  congr 1
  simp only [List.any_cons, List.any_nil, Bool.or_false, Int.toNat_natCast]
  unfold ofN
  split
  · simp only [Int.toNat_natCast, Nat.testBit_two_pow]
  · rw [Nat.zero_testBit]
    simp; omega
theorem accN_bits (M : Nat → Nat) (s : Nat) : accN M (bitsL s) = setN M s := by
  refine set_ext (setOf_lt _ (Nat.le_refl 16)) setN_lt fun j hj => ?_
  rw [accN, setOf_bit' _ hj, setN, setOf_bit' _ hj]
  rw [Bool.eq_iff_iff, imgB_iff]
  simp only [bitsL, List.any_map, List.any_eq_true, Function.comp, mem_bitsN, Int.toNat_natCast, decide_eq_true_eq]
  constructor
  · rintro ⟨t, ⟨h1, h2⟩, h3⟩; exact ⟨t, h1, h2, h3⟩
  · rintro ⟨t, h1, h2, h3⟩; exact ⟨t, ⟨h1, h2⟩, h3⟩
theorem setN_id {M : Nat → Nat} (h : ∀ i, i < 16 → M i = i) {s : Nat} (hs : s < 65536) : setN M s = s := by
  refine set_ext setN_lt hs fun j hj => ?_
  rw [Bool.eq_iff_iff, setN_bit]
  constructor
  · rintro ⟨_, t, h1, h2, h3⟩; rw [h t h1] at h3; subst h3; exact h2
  · intro hb; exact ⟨hj, j, hj, hb, h j hj⟩
/-- A move: when it may be, and what it makes. -/
def mayB (M : Nat → Nat) (a b : Int) : Bool := staysB M a && staysB M b && !decide (a = b)
def moveN (M : Nat → Nat) (a b : Int) : Nat → Nat := fun t => if (M t : Int) = a then b.toNat else M t
def upN (M : Nat → Nat) (a b : Int) (n : Nat) : Nat → Nat := fun t => if t < n then moveN M a b t else M t
theorem stays_iff {M : Nat → Nat} {t : Int} : staysB M t = true ↔ 0 ≤ t ∧ t < 16 ∧ (M t.toNat : Int) = t := by simp [staysB, and_assoc]
theorem cast8 {b : Int} (h : 0 ≤ b ∧ b < 16) : IntKind.u8.wrap b = ((b.toNat : Nat) : Int) := by
  simp [IntKind.wrap, IntKind.signed, IntKind.bits]; omega
def zeroM : Nat → Nat := fun _ => 0
theorem upN_step {M : Nat → Nat} {a b : Int} {n : Nat} : upN M a b (n + 1) = fun t => if t = n then moveN M a b n else upN M a b n t := by
  funext t
  unfold upN
  by_cases h : t = n
  · subst h; simp
  · have : (t < n + 1) = (t < n) := by apply propext; omega
    simp [h, this]
end Go.Ab.S
