/- Part of a proof; no condition. Part of a proof; no condition. -/
import Derived.Test.YtmohadlgjokgmaaLA9
set_option linter.unusedSimpArgs false
set_option linter.unusedVariables false
namespace Go.Ab.S
open Go Go.Ab Go.Proofs
attribute [local irreducible] SemS
set_option maxRecDepth 100000
def diffN (a b : Nat) : Nat := (BitVec.ofInt (IntKind.bits .u16) (a : Int) &&& ~~~BitVec.ofInt (IntKind.bits .u16) (b : Int)).toNat
theorem diffN_lt {a b : Nat} : diffN a b < 65536 := by
  unfold diffN
  exact BitVec.isLt (w := 16) _
theorem bvdiff {w : Nat} (x y : BitVec w) {j : Nat} (h : j < w) : (x &&& ~~~y).toNat.testBit j = (x.toNat.testBit j && !y.toNat.testBit j) := by
  rw [BitVec.testBit_toNat, BitVec.testBit_toNat, BitVec.testBit_toNat, BitVec.getLsbD_and, BitVec.getLsbD_not]
  simp [h]
theorem diffN_bit {a b j : Nat} (ha : a < 65536) (hb : b < 65536) (hj : j < 16) : (diffN a b).testBit j = (a.testBit j && !b.testBit j) := by
  unfold diffN
  rw [bvdiff _ _ (show j < IntKind.bits .u16 from hj), bv16 ha, bv16 hb]
def subB (a b : Nat) : Bool := decide (diffN a b = 0)
theorem subB_iff {a b : Nat} (ha : a < 65536) (hb : b < 65536) : subB a b = true ↔ ∀ j, j < 16 → a.testBit j = true → b.testBit j = true := by
  rw [subB, decide_eq_true_eq]
  constructor
  · intro h j hj h1
    have := diffN_bit ha hb hj
    rw [h, Nat.zero_testBit, h1] at this
    simpa using this.symm
  · intro h
    refine set_ext diffN_lt (by omega) fun j hj => ?_
    rw [diffN_bit ha hb hj, Nat.zero_testBit]
    have := h j hj
    cases h1 : a.testBit j <;> simp_all
def flowsB (s i s' i' : Nat) : Bool := subB s s' && subB i' i
/-! ### Images -/
theorem moved_bit {M : Nat → Nat} {j : Nat} (hj : j < 16) : (movedN M).testBit j = decide (M j ≠ j) := by rw [movedN, setOf_bit' _ hj]
theorem setN_same {M : Nat → Nat} {s : Nat} (hs : s < 65536) (h : s &&& movedN M = 0) : setN M s = s := by
  have key : ∀ t, t < 16 → s.testBit t = true → M t = t := by
    intro t ht hb
    have : (s &&& movedN M).testBit t = false := by rw [h, Nat.zero_testBit]
    rw [Nat.testBit_and, hb, moved_bit ht] at this
    simpa using this
  refine set_ext setN_lt hs fun j hj => ?_
  rw [Bool.eq_iff_iff, setN_bit]
  constructor
  · rintro ⟨_, t, h1, h2, h3⟩
    rw [key t h1 h2] at h3
    subst h3; exact h2
  · intro hb; exact ⟨hj, j, hj, hb, key j hj hb⟩
theorem touches_false {M : Nat → Nat} {s i : Nat} (h : touchesB M s i = false) : s &&& movedN M = 0 ∧ i &&& movedN M = 0 := by
  unfold touchesB at h
  rw [Nat.and_or_distrib_right] at h
  have h' : (s &&& movedN M ||| i &&& movedN M) = 0 := by simpa using h
  exact Nat.or_eq_zero_iff.1 h'
end Go.Ab.S

namespace Go.Ab.S
open Go Go.Ab Go.Proofs
attribute [local irreducible] SemS
set_option maxRecDepth 100000
def listM (l : List Nat) : Nat → Nat := fun i => l.getD i 0
theorem prows_of : ∀ {es : List (List PV)}, (∀ r ∈ es, r.length = 2 ∧ wt (.arr 2 1 (.int .i64)) r) → ∃ l, es = prows l
  | [], _ => ⟨[], rfl⟩
  | r :: es, h => by
    obtain ⟨l, rfl⟩ := prows_of fun q hq => h q (List.mem_cons_of_mem _ hq)
    obtain ⟨-, rs, hr, h2, h3⟩ := h r (List.mem_cons_self ..)
    match rs, h2 with
    | [x, y], _ =>
      obtain ⟨-, a, rfl, -⟩ := h3 x (by simp)
      obtain ⟨-, b, rfl, -⟩ := h3 y (by simp)
      exact ⟨(a, b) :: l, by rw [hr]; rfl⟩
theorem lab_of {cs : List PV} (h : wt (.st (.cons 1 (.int .u16) (.cons 1 (.int .u16) .nil))) cs) : ∃ s i : Nat, cs = [.int .u16 s, .int .u16 i] ∧ s < 65536 ∧ i < 65536 := by
  obtain ⟨a, b, rfl, -, ⟨p, rfl, p0, p1⟩, ⟨b', c', rfl, -, ⟨q, rfl, q0, q1⟩, rfl⟩⟩ := h
  have e0 : 0 ≤ p := by simpa [IntKind.min, IntKind.signed] using p0
  have e1 : p ≤ 65535 := by simpa [IntKind.max, IntKind.signed, IntKind.bits] using p1
  have e2 : 0 ≤ q := by simpa [IntKind.min, IntKind.signed] using q0
  have e3 : q ≤ 65535 := by simpa [IntKind.max, IntKind.signed, IntKind.bits] using q1
  exact ⟨p.toNat, q.toNat, by rw [Int.toNat_of_nonneg e0, Int.toNat_of_nonneg e2]; rfl, by omega, by omega⟩
end Go.Ab.S
