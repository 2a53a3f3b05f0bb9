/- WireWrites for every input. No condition. -/
import Derived.Test.YteipepbijfdciaaWireW4
set_option linter.unusedSimpArgs false
set_option linter.unusedVariables false
namespace Go.Ab.S
open Go Go.Ab Go.Proofs
theorem prts_of : ∀ {es : List (List PV)}, (∀ r ∈ es, r.length = 5 ∧ wt (.st (.cons 1 .bool (.cons 1 (.int .i64) (.cons 1 (.int .i64) (.cons 1 (.int .i64) (.cons 1 .str .nil)))))) r) → ∃ l : List Part, es = prts l ∧ ∀ p ∈ l, (-9223372036854775808 ≤ p.n ∧ p.n < 2 ^ 63) ∧ (-9223372036854775808 ≤ p.size ∧ p.size < 2 ^ 63) ∧ (-9223372036854775808 ≤ p.most ∧ p.most < 2 ^ 63)
  | [], _ => ⟨[], rfl, by simp⟩
  | r :: es, h => by
    obtain ⟨l, rfl, hl⟩ := prts_of fun q hq => h q (List.mem_cons_of_mem _ hq)
    obtain ⟨-, a, _, rfl, -, ⟨t, rfl⟩, b, _, rfl, -, ⟨n, rfl, n0, n1⟩, c, _, rfl, -, ⟨z, rfl, z0, z1⟩, d, _, rfl, -, ⟨m, rfl, m0, m1⟩, e, _, rfl, -, ⟨s, rfl, -⟩, rfl⟩ := h r List.mem_cons_self
    have lo : ∀ {x : Int}, IntKind.i64.min ≤ x → -9223372036854775808 ≤ x := fun h => h
    have hi : ∀ {x : Int}, x ≤ IntKind.i64.max → x < 2 ^ 63 := fun h => by
      rename_i x
      have h : x ≤ (9223372036854775807 : Int) := h
      omega
    refine ⟨⟨t, n, z, m, s⟩ :: l, rfl, fun p hp => ?_⟩
    rcases List.mem_cons.1 hp with rfl | hp
    · exact ⟨⟨lo n0, hi n1⟩, ⟨lo z0, hi z1⟩, lo m0, hi m1⟩
    · exact hl p hp
theorem law_writes (pvss : List (List PV)) (hw : wts [(.sl 5 48 (.st (.cons 1 .bool (.cons 1 (.int .i64) (.cons 1 (.int .i64) (.cons 1 (.int .i64) (.cons 1 .str .nil)))))))] pvss) :
    EvP PR G f_L05_WireWrites (argAVs [(.sl 5 48 (.st (.cons 1 .bool (.cons 1 (.int .i64) (.cons 1 (.int .i64) (.cons 1 (.int .i64) (.cons 1 .str .nil)))))))] pvss) (.c (.p (.bool true))) := by
  obtain ⟨c, _, rfl, hc, hw⟩ := wts_cons hw
  cases wts_nil hw
  obtain ⟨es, rfl, -, hml, hes⟩ := hc
  obtain ⟨l, rfl, hl⟩ := prts_of hes
  refine writes_ok l ?_ fun p hp => (hl p hp).1.2
  rw [prts_len] at hml
  exact Nat.lt_of_le_of_lt hml (by decide)
end Go.Ab.S
