/- The calls at the end of each statement of layer 23. No condition. -/
import Derived.Test.YtmohadlgjokgmaaLK8
set_option linter.unusedSimpArgs false
set_option linter.unusedVariables false
namespace Go.Ab.S
open Go Go.Ab Go.Proofs
attribute [local irreducible] SemS
set_option maxRecDepth 100000
def am1 : Msg := ⟨0, 0, 0, 0, 1, 0, [120]⟩
def am2 : Msg := ⟨0, 0, 0, 0, 2, 0, [121]⟩
def ay : Bx := ⟨2, [am1, { am2 with no := 1 }], [], []⟩
def aa : Bx := ⟨2, [], [am1, { am2 with no := 1 }], []⟩
def al : Bx := ⟨2, [{ am2 with no := 1 }], [], [am1]⟩
def ab : Bx := ⟨2, [], [], [am1]⟩
def ac : Bx := ⟨2, [am1], [], []⟩
end Go.Ab.S
