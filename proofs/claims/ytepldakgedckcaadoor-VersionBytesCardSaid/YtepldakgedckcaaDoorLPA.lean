/- Part of a proof; no condition. -/
import Derived.Test.YtepldakgedckcaaDoorLP1
set_option linter.unusedSimpArgs false
set_option linter.unusedVariables false
namespace Go.Ab.S
open Go Go.Ab Go.Proofs
set_option maxRecDepth 100000
/-! ### Policies that are handed in -/
abbrev shLb : Sh := .st (.cons 1 (.int .u16) (.cons 1 (.int .u16) .nil))
abbrev shPol : Sh := .st (.cons 1 (.int .u16) (.cons 32 (.arr 16 2 shLb) (.cons 16 (.arr 16 1 (.int .u16)) (.cons 16 (.arr 16 1 (.int .u8)) (.cons 1 (.int .u16) .nil)))))
theorem u16w_of {cs : List PV} (h : wt (.int .u16) cs) : ∃ n : Nat, cs = [.int .u16 n] ∧ n < 65536 := by
  obtain ⟨n, rfl, h0, h1⟩ := h
  have h0' : 0 ≤ n := by simpa [IntKind.min, IntKind.signed] using h0
  have h1' : n ≤ 65535 := by simpa [IntKind.max, IntKind.signed, IntKind.bits] using h1
  exact ⟨n.toNat, by rw [Int.toNat_of_nonneg h0'], by omega⟩
theorem lb_of {cs : List PV} (h : wt shLb cs) : ∃ s i : Nat, cs = [.int .u16 s, .int .u16 i] ∧ s < 65536 ∧ i < 65536 := by
  obtain ⟨a, b, rfl, -, h1, c, d, rfl, -, h2, rfl⟩ := h
  obtain ⟨s, rfl, hs⟩ := u16w_of h1
  obtain ⟨i, rfl, hi⟩ := u16w_of h2
  exact ⟨s, i, rfl, hs, hi⟩
theorem acts_of {cs : List PV} (h : wt (.arr 16 1 (.int .u16)) cs) : ∃ g : Nat → Nat, cs = actsR g ∧ ∀ i, i < 16 → g i < 65536 := by
  obtain ⟨rs, rfl, h2, h3⟩ := h
  have key : ∀ r ∈ rs, ∃ n : Nat, r = [.int .u16 n] ∧ n < 65536 := fun r hr => u16w_of (h3 r hr).2
  match rs, h2 with
  | [r0, r1, r2, r3, r4, r5, r6, r7, r8, r9, r10, r11, r12, r13, r14, r15], _ =>
    obtain ⟨n0, rfl, k0⟩ := key r0 (by simp)
    obtain ⟨n1, rfl, k1⟩ := key r1 (by simp)
    obtain ⟨n2, rfl, k2⟩ := key r2 (by simp)
    obtain ⟨n3, rfl, k3⟩ := key r3 (by simp)
    obtain ⟨n4, rfl, k4⟩ := key r4 (by simp)
    obtain ⟨n5, rfl, k5⟩ := key r5 (by simp)
    obtain ⟨n6, rfl, k6⟩ := key r6 (by simp)
    obtain ⟨n7, rfl, k7⟩ := key r7 (by simp)
    obtain ⟨n8, rfl, k8⟩ := key r8 (by simp)
    obtain ⟨n9, rfl, k9⟩ := key r9 (by simp)
    obtain ⟨n10, rfl, k10⟩ := key r10 (by simp)
    obtain ⟨n11, rfl, k11⟩ := key r11 (by simp)
    obtain ⟨n12, rfl, k12⟩ := key r12 (by simp)
    obtain ⟨n13, rfl, k13⟩ := key r13 (by simp)
    obtain ⟨n14, rfl, k14⟩ := key r14 (by simp)
    obtain ⟨n15, rfl, k15⟩ := key r15 (by simp)
    refine ⟨listM [n0, n1, n2, n3, n4, n5, n6, n7, n8, n9, n10, n11, n12, n13, n14, n15], rfl, fun i hi => ?_⟩
    rcases cases16 hi with rfl | rfl | rfl | rfl | rfl | rfl | rfl | rfl | rfl | rfl | rfl | rfl | rfl | rfl | rfl | rfl <;> assumption
theorem labs_of {cs : List PV} (h : wt (.arr 16 2 shLb) cs) : ∃ f g : Nat → Nat, cs = labsR f g ∧ (∀ i, i < 16 → f i < 65536) ∧ ∀ i, i < 16 → g i < 65536 := by
  obtain ⟨rs, rfl, h2, h3⟩ := h
  have key : ∀ r ∈ rs, ∃ s i : Nat, r = [.int .u16 s, .int .u16 i] ∧ s < 65536 ∧ i < 65536 := fun r hr => lb_of (h3 r hr).2
  match rs, h2 with
  | [r0, r1, r2, r3, r4, r5, r6, r7, r8, r9, r10, r11, r12, r13, r14, r15], _ =>
    obtain ⟨n0, m0, rfl, k0, l0⟩ := key r0 (by simp)
    obtain ⟨n1, m1, rfl, k1, l1⟩ := key r1 (by simp)
    obtain ⟨n2, m2, rfl, k2, l2⟩ := key r2 (by simp)
    obtain ⟨n3, m3, rfl, k3, l3⟩ := key r3 (by simp)
    obtain ⟨n4, m4, rfl, k4, l4⟩ := key r4 (by simp)
    obtain ⟨n5, m5, rfl, k5, l5⟩ := key r5 (by simp)
    obtain ⟨n6, m6, rfl, k6, l6⟩ := key r6 (by simp)
    obtain ⟨n7, m7, rfl, k7, l7⟩ := key r7 (by simp)
    obtain ⟨n8, m8, rfl, k8, l8⟩ := key r8 (by simp)
    obtain ⟨n9, m9, rfl, k9, l9⟩ := key r9 (by simp)
    obtain ⟨n10, m10, rfl, k10, l10⟩ := key r10 (by simp)
    obtain ⟨n11, m11, rfl, k11, l11⟩ := key r11 (by simp)
    obtain ⟨n12, m12, rfl, k12, l12⟩ := key r12 (by simp)
    obtain ⟨n13, m13, rfl, k13, l13⟩ := key r13 (by simp)
    obtain ⟨n14, m14, rfl, k14, l14⟩ := key r14 (by simp)
    obtain ⟨n15, m15, rfl, k15, l15⟩ := key r15 (by simp)
    refine ⟨listM [n0, n1, n2, n3, n4, n5, n6, n7, n8, n9, n10, n11, n12, n13, n14, n15], listM [m0, m1, m2, m3, m4, m5, m6, m7, m8, m9, m10, m11, m12, m13, m14, m15], rfl, fun i hi => ?_, fun i hi => ?_⟩
    · rcases cases16 hi with rfl | rfl | rfl | rfl | rfl | rfl | rfl | rfl | rfl | rfl | rfl | rfl | rfl | rfl | rfl | rfl <;> assumption
    · rcases cases16 hi with rfl | rfl | rfl | rfl | rfl | rfl | rfl | rfl | rfl | rfl | rfl | rfl | rfl | rfl | rfl | rfl <;> assumption
theorem pol_of {cs : List PV} (h : wt shPol cs) : ∃ p : Pol, cs = p.row ∧ p.Ok := by
  obtain ⟨a, b, rfl, -, h1, c, d, rfl, -, h2, e, f, rfl, -, h3, g, k, rfl, -, h4, m, n, rfl, -, h5, rfl⟩ := h
  obtain ⟨live, rfl, q1⟩ := u16w_of h1
  obtain ⟨ls, li, rfl, q2, q3⟩ := labs_of h2
  obtain ⟨acts, rfl, q4⟩ := acts_of h3
  obtain ⟨own, rfl, q5⟩ := map_of h4
  obtain ⟨active, rfl, q6⟩ := u16w_of h5
  exact ⟨⟨live, ls, li, acts, own, active⟩, rfl, q1, q2, q3, q4, q5, q6⟩
end Go.Ab.S
