/- What all texts of this seat begin with. No condition. -/
import Derived.Test.YteoaefbcihoapaaLits1
set_option linter.unusedSimpArgs false
set_option linter.unusedVariables false
namespace Go.Ab.S
open Go Go.Ab Go.Proofs
def G : Gl := fun _ => none
theorem hm : PR.follows .mixedOrders = true := by kernel_rfl
def iv (n : Int) : AV := .c (.p (.int .i64 n))
def bv (b : Bool) : AV := .c (.p (.bool b))
def uv (n : Int) : AV := .c (.p (.int .u16 n))
def slv (l : List (List PV)) : AV := .c (.p (.sl l))
def R0 : Run := { G, own := fun _ => false, kn := fun _ _ => none, tab, L := 100 }
theorem R0_ok : R0.Ok PR := ⟨hm, tab_ok, by intro g args v h; cases h⟩
end Go.Ab.S
