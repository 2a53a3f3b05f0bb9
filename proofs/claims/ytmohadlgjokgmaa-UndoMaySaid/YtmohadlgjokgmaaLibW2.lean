/- Part of a proof; no condition. -/
import Derived.Test.YtmohadlgjokgmaaLibW1
set_option linter.unusedSimpArgs false
set_option linter.unusedVariables false
namespace Go.Ab.S
open Go Go.Ab Go.Proofs
attribute [local irreducible] SemS
set_option maxRecDepth 100000
theorem div64 {n : Nat} (h : n < 2 ^ 63) : IntKind.i64.wrap ((n : Int).tdiv 256) = ((n / 256 : Nat) : Int) := by
  rw [show (n : Int).tdiv 256 = ((n / 256 : Nat) : Int) from rfl, wrap64 (by omega)]
theorem mod8 (n : Nat) : IntKind.u8.wrap ((n : Int).tmod 256) = ((UInt8.ofNat n).toNat : Int) := by
  rw [show (n : Int).tmod 256 = ((n % 256 : Nat) : Int) from rfl]
  simp [IntKind.wrap, IntKind.signed, IntKind.bits]
/-- The reference writer's block. -/
def rwB (e : Int) (bs : List UInt8) : List Blk := [.mrow [.os (.par 1) bs.length, .p (.int .i64 e)], .arr 1 false (bytesOf bs)]
theorem rw_eq (e : Int) (bs t : List UInt8) {m : Nat} {R : List (List PV)} (hm : m = bs.length + t.length) (hR : R = bytesOf bs ++ bytesOf t) : (⟨[.mrow [.os (.par 1) m, .p (.int .i64 e)], .arr 1 false R], []⟩ : Hp) = ⟨rwB e (bs ++ t), []⟩ := by
  subst hm hR
  rw [rwB, List.length_append, bytesOf_app]
end Go.Ab.S
