/- Part of a proof; no condition. Part of a proof; no condition. -/
import Derived.Test.YtidmpmdhgiopgaaDoorLA9
set_option linter.unusedSimpArgs false
set_option linter.unusedVariables false
namespace Go.Ab.S
open Go Go.Ab Go.Proofs
attribute [local irreducible] SemS
set_option maxRecDepth 100000
def diffN (a b : Nat) : Nat := (BitVec.ofInt (IntKind.bits .u16) (a : Int) &&& ~~~BitVec.ofInt (IntKind.bits .u16) (b : Int)).toNat
theorem diffN_lt {a b : Nat} : diffN a b < 65536 := by
  unfold diffN
  exact BitVec.isLt (w := 16) _
theorem bvdiff {w : Nat} (x y : BitVec w) {j : Nat} (h : j < w) : (x &&& ~~~y).toNat.testBit j = (x.toNat.testBit j && !y.toNat.testBit j) := by
  rw [BitVec.testBit_toNat, BitVec.testBit_toNat, BitVec.testBit_toNat, BitVec.getLsbD_and, BitVec.getLsbD_not]
  simp [h]
theorem diffN_bit {a b j : Nat} (ha : a < 65536) (hb : b < 65536) (hj : j < 16) : (diffN a b).testBit j = (a.testBit j && !b.testBit j) := by
  unfold diffN
  rw [bvdiff _ _ (show j < IntKind.bits .u16 from hj), bv16 ha, bv16 hb]
def subB (a b : Nat) : Bool := decide (diffN a b = 0)
theorem subB_iff {a b : Nat} (ha : a < 65536) (hb : b < 65536) : subB a b = true ↔ ∀ j, j < 16 → a.testBit j = true → b.testBit j = true := by
  rw [subB, decide_eq_true_eq]
  constructor
  · intro h j hj h1
    have := diffN_bit ha hb hj
    rw [h, Nat.zero_testBit, h1] at this
    simpa using this.symm
  · intro h
    refine set_ext diffN_lt (by omega) fun j hj => ?_
    rw [diffN_bit ha hb hj, Nat.zero_testBit]
    have := h j hj
    cases h1 : a.testBit j <;> simp_all
theorem tagset_Sub_ok (a b : Nat) (ha : a < 65536) (hb : b < 65536) : EvP PR G f_tagset_Sub [uv a, uv b] (bv (subB a b)) := by
  refine EvP.of_wpf true hm c_tagset_Sub rfl ?_
  conv => whnf
  show bv (decide (IntKind.u16.wrap (diffN a b : Int) = 0)) = _
  rw [wrapN16 diffN_lt, int_zero]; rfl
def flowsB (s i s' i' : Nat) : Bool := subB s s' && subB i' i
theorem label_Flows_ok (s i s' i' : Nat) (h1 : s < 65536) (h2 : i < 65536) (h3 : s' < 65536) (h4 : i' < 65536) : EvP PR G f_label_Flows [lab s i, lab s' i'] (bv (flowsB s i s' i')) := by
  refine EvP.of_wpf true hm c_label_Flows rfl ?_
  conv => whnf
  repeat' ((first | refine brP_t (by assumption) ?_ | refine brP_f (by assumption) ?_ | refine callK_p (tagset_Sub_ok s s' h1 h3) ?_ | refine callM_p (tagset_Sub_ok s s' h1 h3) rfl ?_ | refine callK_pf rfl (tagset_Sub_ok s s' h1 h3) ?_ | refine callK_p (tagset_Sub_ok i' i h4 h2) ?_ | refine callM_p (tagset_Sub_ok i' i h4 h2) rfl ?_ | refine callK_pf rfl (tagset_Sub_ok i' i h4 h2) ?_ | refine brP_mk (fun h => ?_) (fun h => ?_) | fail) <;> conv => whnf)
  all_goals simp_all [flowsB, finV, bv]
/-! ### Images -/
theorem moved_bit {M : Nat → Nat} {j : Nat} (hj : j < 16) : (movedN M).testBit j = decide (M j ≠ j) := by rw [movedN, setOf_bit' _ hj]
theorem setN_or {M : Nat → Nat} {a b : Nat} : setN M (a ||| b) = setN M a ||| setN M b := by
  refine set_ext setN_lt (or_lt setN_lt setN_lt) fun j hj => ?_
  rw [Nat.testBit_or, Bool.eq_iff_iff, Bool.or_eq_true, setN_bit, setN_bit, setN_bit]
  constructor
  · rintro ⟨_, t, h1, h2, h3⟩
    rw [Nat.testBit_or, Bool.or_eq_true] at h2
    exact h2.imp (fun h => ⟨hj, t, h1, h, h3⟩) fun h => ⟨hj, t, h1, h, h3⟩
  · rintro (⟨_, t, h1, h2, h3⟩ | ⟨_, t, h1, h2, h3⟩)
    · exact ⟨hj, t, h1, by rw [Nat.testBit_or, h2]; rfl, h3⟩
    · exact ⟨hj, t, h1, by rw [Nat.testBit_or, h2, Bool.or_true], h3⟩
end Go.Ab.S

namespace Go.Ab.S
open Go Go.Ab Go.Proofs
attribute [local irreducible] SemS
set_option maxRecDepth 100000
def listM (l : List Nat) : Nat → Nat := fun i => l.getD i 0
theorem step_fine {M : Nat → Nat} (h : fineB M = true) (p : Int × Int) : fineB (stepM M p) = true := by
  unfold stepM
  split
  · rename_i hm'
    simp only [mayB, Bool.and_eq_true, Bool.not_eq_true', decide_eq_false_iff_not] at hm'
    obtain ⟨⟨ha, hb⟩, hne⟩ := hm'
    obtain ⟨a0, a1, a2⟩ := stays_iff.1 ha
    obtain ⟨b0, b1, b2⟩ := stays_iff.1 hb
    rw [fineB_iff] at h ⊢
    intro t ht
    obtain ⟨h1, h2⟩ := h t ht
    have hb' : ¬ ((M p.2.toNat : Int) = p.1) := by omega
    by_cases e : (M t : Int) = p.1
    · have e1 : moveN M p.1 p.2 t = p.2.toNat := by unfold moveN; rw [if_pos e]
      have e2 : moveN M p.1 p.2 p.2.toNat = M p.2.toNat := by unfold moveN; rw [if_neg hb']
      rw [e1, e2]
      exact ⟨by omega, by omega⟩
    · have e1 : moveN M p.1 p.2 t = M t := by unfold moveN; rw [if_neg e]
      have e2 : moveN M p.1 p.2 (M t) = M (M t) := by unfold moveN; rw [h2, if_neg e]
      rw [e1, e2]
      exact ⟨h1, h2⟩
  · exact h
theorem id_fine : fineB id = true := by rw [fineB_iff]; intro t ht; exact ⟨ht, rfl⟩
theorem made_fine (l : List (Int × Int)) : fineB (madeN l) = true := by
  have : ∀ (l : List (Int × Int)) (M : Nat → Nat), fineB M = true → fineB (l.foldl stepM M) = true := by
    intro l
    induction l with
    | nil => intro M h; exact h
    | cons p l ih => intro M h; exact ih _ (step_fine h p)
  exact this l id id_fine
theorem map_of {cs : List PV} (h : wt (.arr 16 1 (.int .u8)) cs) : ∃ M : Nat → Nat, cs = mrow M ∧ ∀ i, i < 16 → M i ≤ 255 := by
  obtain ⟨rs, rfl, h2, h3⟩ := h
  have key : ∀ r ∈ rs, ∃ n : Nat, r = [.int .u8 n] ∧ n ≤ 255 := by
    intro r hr
    obtain ⟨-, n, rfl, h0, h1⟩ := h3 r hr
    have h0' : 0 ≤ n := by simpa [IntKind.min, IntKind.signed] using h0
    have h1' : n ≤ 255 := by simpa [IntKind.max, IntKind.signed, IntKind.bits] using h1
    exact ⟨n.toNat, by rw [Int.toNat_of_nonneg h0'], by omega⟩
  match rs, h2 with
  | [r0, r1, r2, r3, r4, r5, r6, r7, r8, r9, r10, r11, r12, r13, r14, r15], _ =>
    obtain ⟨n0, rfl, k0⟩ := key r0 (by simp)
    obtain ⟨n1, rfl, k1⟩ := key r1 (by simp)
    obtain ⟨n2, rfl, k2⟩ := key r2 (by simp)
    obtain ⟨n3, rfl, k3⟩ := key r3 (by simp)
    obtain ⟨n4, rfl, k4⟩ := key r4 (by simp)
    obtain ⟨n5, rfl, k5⟩ := key r5 (by simp)
    obtain ⟨n6, rfl, k6⟩ := key r6 (by simp)
    obtain ⟨n7, rfl, k7⟩ := key r7 (by simp)
    obtain ⟨n8, rfl, k8⟩ := key r8 (by simp)
    obtain ⟨n9, rfl, k9⟩ := key r9 (by simp)
    obtain ⟨n10, rfl, k10⟩ := key r10 (by simp)
    obtain ⟨n11, rfl, k11⟩ := key r11 (by simp)
    obtain ⟨n12, rfl, k12⟩ := key r12 (by simp)
    obtain ⟨n13, rfl, k13⟩ := key r13 (by simp)
    obtain ⟨n14, rfl, k14⟩ := key r14 (by simp)
    obtain ⟨n15, rfl, k15⟩ := key r15 (by simp)
    refine ⟨listM [n0, n1, n2, n3, n4, n5, n6, n7, n8, n9, n10, n11, n12, n13, n14, n15], rfl, fun i hi => ?_⟩
    have : i = 0 ∨ i = 1 ∨ i = 2 ∨ i = 3 ∨ i = 4 ∨ i = 5 ∨ i = 6 ∨ i = 7 ∨ i = 8 ∨ i = 9 ∨ i = 10 ∨ i = 11 ∨ i = 12 ∨ i = 13 ∨ i = 14 ∨ i = 15 := by omega
    rcases this with rfl | rfl | rfl | rfl | rfl | rfl | rfl | rfl | rfl | rfl | rfl | rfl | rfl | rfl | rfl | rfl <;> assumption
theorem lab_of {cs : List PV} (h : wt (.st (.cons 1 (.int .u16) (.cons 1 (.int .u16) .nil))) cs) : ∃ s i : Nat, cs = [.int .u16 s, .int .u16 i] ∧ s < 65536 ∧ i < 65536 := by
  obtain ⟨a, b, rfl, -, ⟨p, rfl, p0, p1⟩, ⟨b', c', rfl, -, ⟨q, rfl, q0, q1⟩, rfl⟩⟩ := h
  have e0 : 0 ≤ p := by simpa [IntKind.min, IntKind.signed] using p0
  have e1 : p ≤ 65535 := by simpa [IntKind.max, IntKind.signed, IntKind.bits] using p1
  have e2 : 0 ≤ q := by simpa [IntKind.min, IntKind.signed] using q0
  have e3 : q ≤ 65535 := by simpa [IntKind.max, IntKind.signed, IntKind.bits] using q1
  exact ⟨p.toNat, q.toNat, by rw [Int.toNat_of_nonneg e0, Int.toNat_of_nonneg e2]; rfl, by omega, by omega⟩
end Go.Ab.S
