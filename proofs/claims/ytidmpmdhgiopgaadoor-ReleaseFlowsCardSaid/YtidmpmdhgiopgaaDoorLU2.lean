/- What is undone may be. No condition. -/
import Derived.Test.YtidmpmdhgiopgaaDoorLUA
set_option linter.unusedSimpArgs false
set_option linter.unusedVariables false
namespace Go.Ab.S
open Go Go.Ab Go.Proofs
attribute [local irreducible] SemS
set_option maxRecDepth 100000
/-! ### The calls at the end of each statement of layer 33 -/
def vo : Ob := ⟨4, 0, 2, 0, 4, 0, 0, false, 0, 0, 0, [], false, ⟨1, [⟨0, 0, 4, 0, 0, 0, []⟩], [], []⟩⟩
def vp : Ob := ⟨0, 0, 1, 0, 1, 0, 1, true, 0, 0, 0, [], false, Bx.emp⟩
def vp2 : Ob := { vp with ws := 4 }
def vq : Ob := ⟨0, 0, 1, 0, 1, 0, 0, false, 0, 0, 0, [], false, Bx.emp⟩
def vr : Ob := ⟨0, 0, 1, 0, 4, 0, 0, false, 0, 0, 0, [], false, Bx.emp⟩
/-! ### What is undone may be -/
theorem lab_self (a b : Nat) : (decide ((a : Int) = a) && (decide ((b : Int) = b) && true)) = true := by simp
end Go.Ab.S
