/- The document's rows of messages: putting in, and two rows as one; what is given back is a new slice. No condition. The calls at the end of each statement of layer 23. No condition. -/
import Derived.Test.YtidmpmdhgiopgaaDoorLK7
set_option linter.unusedSimpArgs false
set_option linter.unusedVariables false
namespace Go.Ab.S
open Go Go.Ab Go.Proofs
attribute [local irreducible] SemS
set_option maxRecDepth 100000
/-- The same, its result read alone. -/
theorem EvR.read {g : FuncId} {args : List AV} {l : List Msg} (h : EvR PR G g args ⟨[], []⟩ (.c (.os (.loc 0) l.length)) ⟨[], [.arr 7 false (msgs l)]⟩) (ha : args.all pureV1 = true) : EvP PR G g args (slv (msgs l)) := by
  refine ⟨ha, rfl, ?_⟩
  have hf : freezeA ⟨[], [.arr 7 false (msgs l)]⟩ (.c (.os (.loc 0) l.length)) = some (true, slv (msgs l), ⟨[], [.arr 7 true (msgs l)]⟩) := by
    simp only [freezeA, freezeC, Hp.get, List.getElem?_cons_zero, msgs_len, decide_true]
    rfl
  exact (h.frz hf).mono fun r h q => q.1
end Go.Ab.S

namespace Go.Ab.S
open Go Go.Ab Go.Proofs
attribute [local irreducible] SemS
set_option maxRecDepth 100000
def am1 : Msg := ⟨0, 0, 0, 0, 1, 0, [120]⟩
def am2 : Msg := ⟨0, 0, 0, 0, 2, 0, [121]⟩
def ay : Bx := ⟨2, [am1, { am2 with no := 1 }], [], []⟩
def aa : Bx := ⟨2, [], [am1, { am2 with no := 1 }], []⟩
def al : Bx := ⟨2, [{ am2 with no := 1 }], [], [am1]⟩
def ab : Bx := ⟨2, [], [], [am1]⟩
def ac : Bx := ⟨2, [am1], [], []⟩
end Go.Ab.S
