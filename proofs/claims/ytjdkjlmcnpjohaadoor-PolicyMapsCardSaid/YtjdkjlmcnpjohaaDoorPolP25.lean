/- Part of a proof; no condition. -/
import Derived.Test.YtjdkjlmcnpjohaaDoorPolP24
set_option linter.unusedSimpArgs false
set_option linter.unusedVariables false
namespace Go.Ab.S
open Go Go.Ab Go.Proofs
theorem law_policyMaps (pvss : List (List PV)) (hw : wts [shPol, .sl 2 16 (.arr 2 1 (.int .i64))] pvss) : EvP PR G f_L12_PolicyMaps (argAVs [shPol, .sl 2 16 (.arr 2 1 (.int .i64))] pvss) (.c (.p (.bool true))) := by
  obtain ⟨a, _, rfl, ha, hw⟩ := wts_cons hw
  obtain ⟨b, _, rfl, hb, hw⟩ := wts_cons hw
  cases wts_nil hw
  obtain ⟨p, rfl, hp⟩ := pol_of ha
  obtain ⟨es, rfl, -, hl, hes⟩ := hb
  obtain ⟨l, rfl⟩ := prows_of hes
  have hl : (prows l).length ≤ maxLen := hl
  refine maps12_ok p hp l ?_
  have : (prows l).length = l.length := by simp [prows]
  rw [this] at hl
  exact Nat.lt_of_le_of_lt hl (by decide)
end Go.Ab.S
