/- Part of a proof; no condition. -/
import Derived.Test.YtmohadlgjokgmaaLibW7
set_option linter.unusedSimpArgs false
set_option linter.unusedVariables false
namespace Go.Ab.S
open Go Go.Ab Go.Proofs
attribute [local irreducible] SemS
set_option maxRecDepth 100000
/-- The document's reader: what was read, what is left, the first error. -/
def rrB (e : Int) (pre bs : List UInt8) : List Blk := [.row [.sl (bytesOf (pre ++ bs)), .int .i64 pre.length, .int .i64 e]]
theorem rr_shift (e : Int) (pre : List UInt8) (c : UInt8) (r : List UInt8) : rrB e (pre ++ [c]) r = [.row [.sl (bytesOf (pre ++ c :: r)), .int .i64 ((pre.length + 1 : Nat) : Int), .int .i64 e]] := by
  unfold rrB
  rw [List.append_assoc, List.length_append]; rfl
end Go.Ab.S
