/- What all texts of this seat begin with. No condition. -/
import Derived.Test.YtepldakgedckcaaDoorLits1
set_option linter.unusedSimpArgs false
set_option linter.unusedVariables false
namespace Go.Ab.S
open Go Go.Ab Go.Proofs
def tabV : List PV := [.int .u8 0, .int .u8 1, .int .u8 28, .int .u8 2, .int .u8 29, .int .u8 14, .int .u8 24, .int .u8 3, .int .u8 30, .int .u8 22, .int .u8 20, .int .u8 15, .int .u8 25, .int .u8 17, .int .u8 4, .int .u8 8, .int .u8 31, .int .u8 27, .int .u8 13, .int .u8 23, .int .u8 21, .int .u8 19, .int .u8 16, .int .u8 7, .int .u8 26, .int .u8 12, .int .u8 18, .int .u8 6, .int .u8 11, .int .u8 5, .int .u8 10, .int .u8 9]
def G : Gl := fun n => match n with | 0 => some tabV | _ => none
theorem hm : PR.follows .mixedOrders = true := by kernel_rfl
def iv (n : Int) : AV := .c (.p (.int .i64 n))
def bv (b : Bool) : AV := .c (.p (.bool b))
def uv (n : Int) : AV := .c (.p (.int .u16 n))
def slv (l : List (List PV)) : AV := .c (.p (.sl l))
def R0 : Run := { G, own := fun _ => false, kn := fun _ _ => none, tab, L := 100 }
theorem R0_ok : R0.Ok PR := ⟨hm, tab_ok, by intro g args v h; cases h⟩
end Go.Ab.S
