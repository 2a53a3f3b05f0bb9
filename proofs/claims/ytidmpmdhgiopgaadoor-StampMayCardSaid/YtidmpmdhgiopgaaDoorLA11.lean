/- Part of a proof; no condition. Part of a proof; no condition. -/
import Derived.Test.YtidmpmdhgiopgaaDoorLA9
set_option linter.unusedSimpArgs false
set_option linter.unusedVariables false
namespace Go.Ab.S
open Go Go.Ab Go.Proofs
attribute [local irreducible] SemS
set_option maxRecDepth 100000
def diffN (a b : Nat) : Nat := (BitVec.ofInt (IntKind.bits .u16) (a : Int) &&& ~~~BitVec.ofInt (IntKind.bits .u16) (b : Int)).toNat
def subB (a b : Nat) : Bool := decide (diffN a b = 0)
def flowsB (s i s' i' : Nat) : Bool := subB s s' && subB i' i
/-! ### Images -/
theorem moved_bit {M : Nat → Nat} {j : Nat} (hj : j < 16) : (movedN M).testBit j = decide (M j ≠ j) := by rw [movedN, setOf_bit' _ hj]
theorem setN_moved {M : Nat → Nat} (hf : fineB M = true) {s : Nat} : setN M s &&& movedN M = 0 := by
  rw [fineB_iff] at hf
  refine set_ext (and_lt setN_lt) (by omega) fun j hj => ?_
  rw [Nat.testBit_and, moved_bit hj, Nat.zero_testBit]
  cases h : (setN M s).testBit j with
  | false => rfl
  | true =>
    obtain ⟨_, t, h1, h2, h3⟩ := setN_bit.1 h
    have := (hf t h1).2
    rw [h3] at this
    simp [this]
theorem touches_img {M : Nat → Nat} (hf : fineB M = true) {s i : Nat} : touchesB M (setN M s) (setN M i) = false := by
  unfold touchesB
  rw [Nat.and_or_distrib_right, setN_moved hf, setN_moved hf]
  rfl
end Go.Ab.S

namespace Go.Ab.S
open Go Go.Ab Go.Proofs
attribute [local irreducible] SemS
set_option maxRecDepth 100000
def listM (l : List Nat) : Nat → Nat := fun i => l.getD i 0
theorem step_fine {M : Nat → Nat} (h : fineB M = true) (p : Int × Int) : fineB (stepM M p) = true := by
  unfold stepM
  split
  · rename_i hm'
    simp only [mayB, Bool.and_eq_true, Bool.not_eq_true', decide_eq_false_iff_not] at hm'
    obtain ⟨⟨ha, hb⟩, hne⟩ := hm'
    obtain ⟨a0, a1, a2⟩ := stays_iff.1 ha
    obtain ⟨b0, b1, b2⟩ := stays_iff.1 hb
    rw [fineB_iff] at h ⊢
    intro t ht
    obtain ⟨h1, h2⟩ := h t ht
    have hb' : ¬ ((M p.2.toNat : Int) = p.1) := by omega
    by_cases e : (M t : Int) = p.1
    · have e1 : moveN M p.1 p.2 t = p.2.toNat := by unfold moveN; rw [if_pos e]
      have e2 : moveN M p.1 p.2 p.2.toNat = M p.2.toNat := by unfold moveN; rw [if_neg hb']
      rw [e1, e2]
      exact ⟨by omega, by omega⟩
    · have e1 : moveN M p.1 p.2 t = M t := by unfold moveN; rw [if_neg e]
      have e2 : moveN M p.1 p.2 (M t) = M (M t) := by unfold moveN; rw [h2, if_neg e]
      rw [e1, e2]
      exact ⟨h1, h2⟩
  · exact h
theorem id_fine : fineB id = true := by rw [fineB_iff]; intro t ht; exact ⟨ht, rfl⟩
theorem made_fine (l : List (Int × Int)) : fineB (madeN l) = true := by
  have : ∀ (l : List (Int × Int)) (M : Nat → Nat), fineB M = true → fineB (l.foldl stepM M) = true := by
    intro l
    induction l with
    | nil => intro M h; exact h
    | cons p l ih => intro M h; exact ih _ (step_fine h p)
  exact this l id id_fine
theorem prows_of : ∀ {es : List (List PV)}, (∀ r ∈ es, r.length = 2 ∧ wt (.arr 2 1 (.int .i64)) r) → ∃ l, es = prows l
  | [], _ => ⟨[], rfl⟩
  | r :: es, h => by
    obtain ⟨l, rfl⟩ := prows_of fun q hq => h q (List.mem_cons_of_mem _ hq)
    obtain ⟨-, rs, hr, h2, h3⟩ := h r (List.mem_cons_self ..)
    match rs, h2 with
    | [x, y], _ =>
      obtain ⟨-, a, rfl, -⟩ := h3 x (by simp)
      obtain ⟨-, b, rfl, -⟩ := h3 y (by simp)
      exact ⟨(a, b) :: l, by rw [hr]; rfl⟩
theorem lab_of {cs : List PV} (h : wt (.st (.cons 1 (.int .u16) (.cons 1 (.int .u16) .nil))) cs) : ∃ s i : Nat, cs = [.int .u16 s, .int .u16 i] ∧ s < 65536 ∧ i < 65536 := by
  obtain ⟨a, b, rfl, -, ⟨p, rfl, p0, p1⟩, ⟨b', c', rfl, -, ⟨q, rfl, q0, q1⟩, rfl⟩⟩ := h
  have e0 : 0 ≤ p := by simpa [IntKind.min, IntKind.signed] using p0
  have e1 : p ≤ 65535 := by simpa [IntKind.max, IntKind.signed, IntKind.bits] using p1
  have e2 : 0 ≤ q := by simpa [IntKind.min, IntKind.signed] using q0
  have e3 : q ≤ 65535 := by simpa [IntKind.max, IntKind.signed, IntKind.bits] using q1
  exact ⟨p.toNat, q.toNat, by rw [Int.toNat_of_nonneg e0, Int.toNat_of_nonneg e2]; rfl, by omega, by omega⟩
end Go.Ab.S
