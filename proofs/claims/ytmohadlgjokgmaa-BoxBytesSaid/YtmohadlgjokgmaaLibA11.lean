/- Part of a proof; no condition. -/
import Derived.Test.YtmohadlgjokgmaaLibA10
set_option linter.unusedSimpArgs false
set_option linter.unusedVariables false
namespace Go.Ab.S
open Go Go.Ab Go.Proofs
attribute [local irreducible] SemS
set_option maxRecDepth 100000
def listM (l : List Nat) : Nat → Nat := fun i => l.getD i 0
theorem step_fine {M : Nat → Nat} (h : fineB M = true) (p : Int × Int) : fineB (stepM M p) = true := by
  unfold stepM
  split
  · rename_i hm'
    simp only [mayB, Bool.and_eq_true, Bool.not_eq_true', decide_eq_false_iff_not] at hm'
    obtain ⟨⟨ha, hb⟩, hne⟩ := hm'
    obtain ⟨a0, a1, a2⟩ := stays_iff.1 ha
    obtain ⟨b0, b1, b2⟩ := stays_iff.1 hb
    rw [fineB_iff] at h ⊢
    intro t ht
    obtain ⟨h1, h2⟩ := h t ht
    have hb' : ¬ ((M p.2.toNat : Int) = p.1) := by omega
    by_cases e : (M t : Int) = p.1
    · have e1 : moveN M p.1 p.2 t = p.2.toNat := by unfold moveN; rw [if_pos e]
      have e2 : moveN M p.1 p.2 p.2.toNat = M p.2.toNat := by unfold moveN; rw [if_neg hb']
      rw [e1, e2]
      exact ⟨by omega, by omega⟩
    · have e1 : moveN M p.1 p.2 t = M t := by unfold moveN; rw [if_neg e]
      have e2 : moveN M p.1 p.2 (M t) = M (M t) := by unfold moveN; rw [h2, if_neg e]
      rw [e1, e2]
      exact ⟨h1, h2⟩
  · exact h
theorem id_fine : fineB id = true := by rw [fineB_iff]; intro t ht; exact ⟨ht, rfl⟩
theorem made_fine (l : List (Int × Int)) : fineB (madeN l) = true := by
  have : ∀ (l : List (Int × Int)) (M : Nat → Nat), fineB M = true → fineB (l.foldl stepM M) = true := by
    intro l
    induction l with
    | nil => intro M h; exact h
    | cons p l ih => intro M h; exact ih _ (step_fine h p)
  exact this l id id_fine
theorem prows_of : ∀ {es : List (List PV)}, (∀ r ∈ es, r.length = 2 ∧ wt (.arr 2 1 (.int .i64)) r) → ∃ l, es = prows l
  | [], _ => ⟨[], rfl⟩
  | r :: es, h => by
    obtain ⟨l, rfl⟩ := prows_of fun q hq => h q (List.mem_cons_of_mem _ hq)
    obtain ⟨-, rs, hr, h2, h3⟩ := h r (List.mem_cons_self ..)
    match rs, h2 with
    | [x, y], _ =>
      obtain ⟨-, a, rfl, -⟩ := h3 x (by simp)
      obtain ⟨-, b, rfl, -⟩ := h3 y (by simp)
      exact ⟨(a, b) :: l, by rw [hr]; rfl⟩
theorem map_of {cs : List PV} (h : wt (.arr 16 1 (.int .u8)) cs) : ∃ M : Nat → Nat, cs = mrow M ∧ ∀ i, i < 16 → M i ≤ 255 := by
  obtain ⟨rs, rfl, h2, h3⟩ := h
  have key : ∀ r ∈ rs, ∃ n : Nat, r = [.int .u8 n] ∧ n ≤ 255 := by
    intro r hr
    obtain ⟨-, n, rfl, h0, h1⟩ := h3 r hr
    have h0' : 0 ≤ n := by simpa [IntKind.min, IntKind.signed] using h0
    have h1' : n ≤ 255 := by simpa [IntKind.max, IntKind.signed, IntKind.bits] using h1
    exact ⟨n.toNat, by rw [Int.toNat_of_nonneg h0'], by omega⟩
  match rs, h2 with
  | [r0, r1, r2, r3, r4, r5, r6, r7, r8, r9, r10, r11, r12, r13, r14, r15], _ =>
    obtain ⟨n0, rfl, k0⟩ := key r0 (by simp)
    obtain ⟨n1, rfl, k1⟩ := key r1 (by simp)
    obtain ⟨n2, rfl, k2⟩ := key r2 (by simp)
    obtain ⟨n3, rfl, k3⟩ := key r3 (by simp)
    obtain ⟨n4, rfl, k4⟩ := key r4 (by simp)
    obtain ⟨n5, rfl, k5⟩ := key r5 (by simp)
    obtain ⟨n6, rfl, k6⟩ := key r6 (by simp)
    obtain ⟨n7, rfl, k7⟩ := key r7 (by simp)
    obtain ⟨n8, rfl, k8⟩ := key r8 (by simp)
    obtain ⟨n9, rfl, k9⟩ := key r9 (by simp)
    obtain ⟨n10, rfl, k10⟩ := key r10 (by simp)
    obtain ⟨n11, rfl, k11⟩ := key r11 (by simp)
    obtain ⟨n12, rfl, k12⟩ := key r12 (by simp)
    obtain ⟨n13, rfl, k13⟩ := key r13 (by simp)
    obtain ⟨n14, rfl, k14⟩ := key r14 (by simp)
    obtain ⟨n15, rfl, k15⟩ := key r15 (by simp)
    refine ⟨listM [n0, n1, n2, n3, n4, n5, n6, n7, n8, n9, n10, n11, n12, n13, n14, n15], rfl, fun i hi => ?_⟩
    have : i = 0 ∨ i = 1 ∨ i = 2 ∨ i = 3 ∨ i = 4 ∨ i = 5 ∨ i = 6 ∨ i = 7 ∨ i = 8 ∨ i = 9 ∨ i = 10 ∨ i = 11 ∨ i = 12 ∨ i = 13 ∨ i = 14 ∨ i = 15 := by omega
    rcases this with rfl | rfl | rfl | rfl | rfl | rfl | rfl | rfl | rfl | rfl | rfl | rfl | rfl | rfl | rfl | rfl <;> assumption
theorem lab_of {cs : List PV} (h : wt (.st (.cons 1 (.int .u16) (.cons 1 (.int .u16) .nil))) cs) : ∃ s i : Nat, cs = [.int .u16 s, .int .u16 i] ∧ s < 65536 ∧ i < 65536 := by
  obtain ⟨a, b, rfl, -, ⟨p, rfl, p0, p1⟩, ⟨b', c', rfl, -, ⟨q, rfl, q0, q1⟩, rfl⟩⟩ := h
  have e0 : 0 ≤ p := by simpa [IntKind.min, IntKind.signed] using p0
  have e1 : p ≤ 65535 := by simpa [IntKind.max, IntKind.signed, IntKind.bits] using p1
  have e2 : 0 ≤ q := by simpa [IntKind.min, IntKind.signed] using q0
  have e3 : q ≤ 65535 := by simpa [IntKind.max, IntKind.signed, IntKind.bits] using q1
  exact ⟨p.toNat, q.toNat, by rw [Int.toNat_of_nonneg e0, Int.toNat_of_nonneg e2]; rfl, by omega, by omega⟩
end Go.Ab.S
