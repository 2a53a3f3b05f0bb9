/- One change, by the document: a role goes, a tag's deeds. No condition. One change, by the document. No condition. -/
import Derived.Test.YtidmpmdhgiopgaaDoorLC5
set_option linter.unusedSimpArgs false
set_option linter.unusedVariables false
namespace Go.Ab.S
open Go Go.Ab Go.Proofs
attribute [local irreducible] SemS
set_option maxRecDepth 100000
/-! ### A policy that may be, without a role, is mended -/
theorem fine_role {p : Pol} (hf : fineP p = true) {r : Nat} (hr : r < 16) : roleB p r = true := by
  unfold fineP at hf
  rw [Bool.and_eq_true] at hf
  exact all16_at hf.1 hr
theorem fine_own {p : Pol} (hf : fineP p = true) {r : Nat} (hr : r < 16) : ownB p r = true := by
  unfold fineP at hf
  rw [Bool.and_eq_true] at hf
  exact all16_at hf.2 hr
theorem role_live {p : Pol} (hp : p.Ok) (hf : fineP p = true) {r : Nat} (hr : r < 16) (h : p.live.testBit r = true) : (∀ j, j < 16 → (p.ls r).testBit j = true → p.active.testBit j = true) ∧ (∀ j, j < 16 → (p.li r).testBit j = true → p.active.testBit j = true) ∧ (∀ j, j < 16 → (p.acts r).testBit j = true → p.live.testBit j = true) ∧ (p.acts r).testBit r = false := by
  have hb := fine_role hf hr
  unfold roleB at hb
  rw [if_pos h] at hb
  simp only [Bool.and_eq_true, Bool.not_eq_true'] at hb
  obtain ⟨h1, h2, h3⟩ := hb
  have h1 := (subB_iff (or_lt (hp.ls r hr) (hp.li r hr)) hp.active).1 h1
  have h2 := (subB_iff (hp.acts r hr) hp.live).1 h2
  exact ⟨fun j hj hb => h1 j hj (by rw [Nat.testBit_or, hb]; rfl), fun j hj hb => h1 j hj (by rw [Nat.testBit_or, hb, Bool.or_true]), h2, h3⟩
theorem role_dead {p : Pol} (hf : fineP p = true) {r : Nat} (hr : r < 16) (h : p.live.testBit r = false) : p.ls r = 0 ∧ p.li r = 0 ∧ p.acts r = 0 := by
  have hb := fine_role hf hr
  unfold roleB at hb
  rw [if_neg (by rw [h]; decide)] at hb
  simp only [Bool.and_eq_true, decide_eq_true_eq] at hb
  exact hb
theorem own_16 {p : Pol} (hf : fineP p = true) {t : Nat} (ht : t < 16) : p.own t = 16 ∨ (p.own t < 16 ∧ p.live.testBit (p.own t) = true ∧ p.active.testBit t = true) := by
  have hb := fine_own hf ht
  unfold ownB at hb
  rw [Bool.or_eq_true, decide_eq_true_eq, Bool.and_eq_true] at hb
  rcases hb with h | ⟨h1, h2⟩
  · exact .inl h
  · have hlt := has_lt h1
    rw [hasN_nat hlt] at h1
    exact .inr ⟨hlt, h1, h2⟩
theorem pow_bit {r j : Nat} : (2 ^ r).testBit j = decide (r = j) := Nat.testBit_two_pow
theorem diff_zero {b : Nat} (hb : b < 65536) : diffN 0 b = 0 := set_ext diffN_lt (by decide) fun j hj => by rw [diffN_bit (by decide) hb hj, Nat.zero_testBit]; rfl
end Go.Ab.S

namespace Go.Ab.S
open Go Go.Ab Go.Proofs
attribute [local irreducible] SemS
set_option maxRecDepth 100000
/-- What a change of a tag does. -/
def tagQ (p : Pol) (c : Chg) : Pol × Int :=
  if hasN p.active c.a then
    (if c.k = 5 then (if decide (c.b < 16) && !hasN p.live c.b then (zeroP, 6) else (setOwn p c.a.toNat c.b.toNat, 0))
     else if hasN p.active c.b then (if mayB id c.a c.b then (mapP (moveN id c.a c.b) p, 0) else (zeroP, 1)) else (zeroP, 6))
  else (zeroP, 6)
end Go.Ab.S
