/- Any one change, by the document. No condition. -/
import Derived.Test.YtidmpmdhgiopgaaDoorLC7
set_option linter.unusedSimpArgs false
set_option linter.unusedVariables false
namespace Go.Ab.S
open Go Go.Ab Go.Proofs
attribute [local irreducible] SemS
set_option maxRecDepth 100000
theorem oneQ_fin {p : Pol} {c : Chg} (hf : c.fine = true) {q : Pol} (h : doQ p c = (q, 0)) : oneQ p c = (q, 0) := by
  unfold oneQ
  rw [if_pos hf, h, if_pos rfl]
end Go.Ab.S
