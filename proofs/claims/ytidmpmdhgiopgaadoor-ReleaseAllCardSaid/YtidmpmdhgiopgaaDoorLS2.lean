/- Lanes stamped; StampOnes. No condition. -/
import Derived.Test.YtidmpmdhgiopgaaDoorLS1
import Derived.Test.YtidmpmdhgiopgaaDoorLU2
set_option linter.unusedSimpArgs false
set_option linter.unusedVariables false
namespace Go.Ab.S
open Go Go.Ab Go.Proofs
attribute [local irreducible] SemS
set_option maxRecDepth 100000
def zeroR : List PV := [.int .u16 0, .int .u16 0, .int .i64 0, .int .i64 0, .int .u16 0, .int .u16 0, .int .i64 0, .bool false, .int .u16 0, .int .u16 0, .int .i64 0, .str [], .bool false, .int .i64 0, .sl [], .sl [], .sl []]
/-- Objects done, and room for the others. -/
def roomL (F : Ob → Ob) (l : List Ob) (i : Nat) : List (List PV) := obs ((l.take i).map F) ++ List.replicate (l.length - i) zeroR
/-! ### The calls at the end of each statement of layer 31 -/
def so1 : Ob := ⟨4, 0, 2, 0, 4, 0, 0, false, 0, 0, 0, [], false, ⟨1, [⟨0, 0, 4, 0, 0, 0, []⟩], [], []⟩⟩
def sx1 : Ob := ⟨4, 0, 2, 0, 32, 0, 1, true, 4, 0, 0, [], false, ⟨1, [], [⟨0, 0, 4, 0, 0, 0, []⟩], []⟩⟩
def sc0 : Ob := ⟨4, 0, 2, 0, 0, 0, 0, true, 4, 0, 0, [], false, ⟨1, [⟨0, 0, 4, 0, 0, 0, []⟩], [], []⟩⟩
def sc1 : Ob := ⟨4, 0, 2, 0, 0, 0, 0, false, 0, 0, 0, [], false, ⟨1, [⟨0, 1, 32, 0, 0, 0, []⟩], [], []⟩⟩
def sa1 : Ob := ⟨4, 0, 2, 0, 4, 0, 0, false, 0, 0, 0, [], false, ⟨1, [⟨0, 1, 32, 0, 0, 0, []⟩], [], []⟩⟩
/-! ### StampOnes -/
end Go.Ab.S
