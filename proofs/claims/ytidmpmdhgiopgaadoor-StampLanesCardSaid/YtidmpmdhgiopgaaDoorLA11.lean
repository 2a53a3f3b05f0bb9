/- Part of a proof; no condition. Part of a proof; no condition. -/
import Derived.Test.YtidmpmdhgiopgaaDoorLA9
set_option linter.unusedSimpArgs false
set_option linter.unusedVariables false
namespace Go.Ab.S
open Go Go.Ab Go.Proofs
attribute [local irreducible] SemS
set_option maxRecDepth 100000
def diffN (a b : Nat) : Nat := (BitVec.ofInt (IntKind.bits .u16) (a : Int) &&& ~~~BitVec.ofInt (IntKind.bits .u16) (b : Int)).toNat
def subB (a b : Nat) : Bool := decide (diffN a b = 0)
def flowsB (s i s' i' : Nat) : Bool := subB s s' && subB i' i
/-! ### Images -/
end Go.Ab.S

namespace Go.Ab.S
open Go Go.Ab Go.Proofs
attribute [local irreducible] SemS
set_option maxRecDepth 100000
def listM (l : List Nat) : Nat → Nat := fun i => l.getD i 0
theorem prows_of : ∀ {es : List (List PV)}, (∀ r ∈ es, r.length = 2 ∧ wt (.arr 2 1 (.int .i64)) r) → ∃ l, es = prows l
  | [], _ => ⟨[], rfl⟩
  | r :: es, h => by
    obtain ⟨l, rfl⟩ := prows_of fun q hq => h q (List.mem_cons_of_mem _ hq)
    obtain ⟨-, rs, hr, h2, h3⟩ := h r (List.mem_cons_self ..)
    match rs, h2 with
    | [x, y], _ =>
      obtain ⟨-, a, rfl, -⟩ := h3 x (by simp)
      obtain ⟨-, b, rfl, -⟩ := h3 y (by simp)
      exact ⟨(a, b) :: l, by rw [hr]; rfl⟩
theorem lab_of {cs : List PV} (h : wt (.st (.cons 1 (.int .u16) (.cons 1 (.int .u16) .nil))) cs) : ∃ s i : Nat, cs = [.int .u16 s, .int .u16 i] ∧ s < 65536 ∧ i < 65536 := by
  obtain ⟨a, b, rfl, -, ⟨p, rfl, p0, p1⟩, ⟨b', c', rfl, -, ⟨q, rfl, q0, q1⟩, rfl⟩⟩ := h
  have e0 : 0 ≤ p := by simpa [IntKind.min, IntKind.signed] using p0
  have e1 : p ≤ 65535 := by simpa [IntKind.max, IntKind.signed, IntKind.bits] using p1
  have e2 : 0 ≤ q := by simpa [IntKind.min, IntKind.signed] using q0
  have e3 : q ≤ 65535 := by simpa [IntKind.max, IntKind.signed, IntKind.bits] using q1
  exact ⟨p.toNat, q.toNat, by rw [Int.toNat_of_nonneg e0, Int.toNat_of_nonneg e2]; rfl, by omega, by omega⟩
end Go.Ab.S
