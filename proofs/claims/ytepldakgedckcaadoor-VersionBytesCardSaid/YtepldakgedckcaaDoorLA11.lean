/- Part of a proof; no condition. Part of a proof; no condition. -/
import Derived.Test.YtepldakgedckcaaDoorLA9
set_option linter.unusedSimpArgs false
set_option linter.unusedVariables false
namespace Go.Ab.S
open Go Go.Ab Go.Proofs
attribute [local irreducible] SemS
set_option maxRecDepth 100000
def diffN (a b : Nat) : Nat := (BitVec.ofInt (IntKind.bits .u16) (a : Int) &&& ~~~BitVec.ofInt (IntKind.bits .u16) (b : Int)).toNat
theorem diffN_lt {a b : Nat} : diffN a b < 65536 := by
  unfold diffN
  exact BitVec.isLt (w := 16) _
theorem bvdiff {w : Nat} (x y : BitVec w) {j : Nat} (h : j < w) : (x &&& ~~~y).toNat.testBit j = (x.toNat.testBit j && !y.toNat.testBit j) := by
  rw [BitVec.testBit_toNat, BitVec.testBit_toNat, BitVec.testBit_toNat, BitVec.getLsbD_and, BitVec.getLsbD_not]
  simp [h]
theorem diffN_bit {a b j : Nat} (ha : a < 65536) (hb : b < 65536) (hj : j < 16) : (diffN a b).testBit j = (a.testBit j && !b.testBit j) := by
  unfold diffN
  rw [bvdiff _ _ (show j < IntKind.bits .u16 from hj), bv16 ha, bv16 hb]
def subB (a b : Nat) : Bool := decide (diffN a b = 0)
theorem subB_iff {a b : Nat} (ha : a < 65536) (hb : b < 65536) : subB a b = true ↔ ∀ j, j < 16 → a.testBit j = true → b.testBit j = true := by
  rw [subB, decide_eq_true_eq]
  constructor
  · intro h j hj h1
    have := diffN_bit ha hb hj
    rw [h, Nat.zero_testBit, h1] at this
    simpa using this.symm
  · intro h
    refine set_ext diffN_lt (by omega) fun j hj => ?_
    rw [diffN_bit ha hb hj, Nat.zero_testBit]
    have := h j hj
    cases h1 : a.testBit j <;> simp_all
theorem tagset_Sub_ok (a b : Nat) (ha : a < 65536) (hb : b < 65536) : EvP PR G f_tagset_Sub [uv a, uv b] (bv (subB a b)) := by
  refine EvP.of_wpf true hm c_tagset_Sub rfl ?_
  conv => whnf
  show bv (decide (IntKind.u16.wrap (diffN a b : Int) = 0)) = _
  rw [wrapN16 diffN_lt, int_zero]; rfl
def flowsB (s i s' i' : Nat) : Bool := subB s s' && subB i' i
/-! ### Images -/
end Go.Ab.S

namespace Go.Ab.S
open Go Go.Ab Go.Proofs
attribute [local irreducible] SemS
set_option maxRecDepth 100000
def listM (l : List Nat) : Nat → Nat := fun i => l.getD i 0
theorem map_of {cs : List PV} (h : wt (.arr 16 1 (.int .u8)) cs) : ∃ M : Nat → Nat, cs = mrow M ∧ ∀ i, i < 16 → M i ≤ 255 := by
  obtain ⟨rs, rfl, h2, h3⟩ := h
  have key : ∀ r ∈ rs, ∃ n : Nat, r = [.int .u8 n] ∧ n ≤ 255 := by
    intro r hr
    obtain ⟨-, n, rfl, h0, h1⟩ := h3 r hr
    have h0' : 0 ≤ n := by simpa [IntKind.min, IntKind.signed] using h0
    have h1' : n ≤ 255 := by simpa [IntKind.max, IntKind.signed, IntKind.bits] using h1
    exact ⟨n.toNat, by rw [Int.toNat_of_nonneg h0'], by omega⟩
  match rs, h2 with
  | [r0, r1, r2, r3, r4, r5, r6, r7, r8, r9, r10, r11, r12, r13, r14, r15], _ =>
    obtain ⟨n0, rfl, k0⟩ := key r0 (by simp)
    obtain ⟨n1, rfl, k1⟩ := key r1 (by simp)
    obtain ⟨n2, rfl, k2⟩ := key r2 (by simp)
    obtain ⟨n3, rfl, k3⟩ := key r3 (by simp)
    obtain ⟨n4, rfl, k4⟩ := key r4 (by simp)
    obtain ⟨n5, rfl, k5⟩ := key r5 (by simp)
    obtain ⟨n6, rfl, k6⟩ := key r6 (by simp)
    obtain ⟨n7, rfl, k7⟩ := key r7 (by simp)
    obtain ⟨n8, rfl, k8⟩ := key r8 (by simp)
    obtain ⟨n9, rfl, k9⟩ := key r9 (by simp)
    obtain ⟨n10, rfl, k10⟩ := key r10 (by simp)
    obtain ⟨n11, rfl, k11⟩ := key r11 (by simp)
    obtain ⟨n12, rfl, k12⟩ := key r12 (by simp)
    obtain ⟨n13, rfl, k13⟩ := key r13 (by simp)
    obtain ⟨n14, rfl, k14⟩ := key r14 (by simp)
    obtain ⟨n15, rfl, k15⟩ := key r15 (by simp)
    refine ⟨listM [n0, n1, n2, n3, n4, n5, n6, n7, n8, n9, n10, n11, n12, n13, n14, n15], rfl, fun i hi => ?_⟩
    have : i = 0 ∨ i = 1 ∨ i = 2 ∨ i = 3 ∨ i = 4 ∨ i = 5 ∨ i = 6 ∨ i = 7 ∨ i = 8 ∨ i = 9 ∨ i = 10 ∨ i = 11 ∨ i = 12 ∨ i = 13 ∨ i = 14 ∨ i = 15 := by omega
    rcases this with rfl | rfl | rfl | rfl | rfl | rfl | rfl | rfl | rfl | rfl | rfl | rfl | rfl | rfl | rfl | rfl <;> assumption
end Go.Ab.S
