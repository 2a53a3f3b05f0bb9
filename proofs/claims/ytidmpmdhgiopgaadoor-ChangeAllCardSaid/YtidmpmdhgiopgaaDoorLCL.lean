/- Both readers of an update alike. No condition. -/
import Derived.Test.YtidmpmdhgiopgaaDoorLCJ
set_option linter.unusedSimpArgs false
set_option linter.unusedVariables false
namespace Go.Ab.S
open Go Go.Ab Go.Proofs
set_option maxRecDepth 100000
theorem chgs_of : ∀ {es : List (List PV)}, (∀ r ∈ es, r.length = 5 ∧ wt shChg r) → ∃ l : List Chg, es = chgs l ∧ ∀ c ∈ l, c.s < 65536 ∧ c.i < 65536
  | [], _ => ⟨[], rfl, by simp⟩
  | r :: es, h => by
    obtain ⟨l, rfl, hl⟩ := chgs_of fun q hq => h q (List.mem_cons_of_mem _ hq)
    obtain ⟨m, rfl, hm⟩ := chg_of (h r List.mem_cons_self).2
    refine ⟨m :: l, rfl, fun q hq => ?_⟩
    rcases List.mem_cons.1 hq with rfl | hq
    · exact hm
    · exact hl q hq
end Go.Ab.S
