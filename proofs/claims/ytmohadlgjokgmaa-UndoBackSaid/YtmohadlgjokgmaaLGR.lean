/- slices.Grow of a nil slice of messages. No condition. -/
import Derived.Test.YtmohadlgjokgmaaB0
import Derived.Test.YtmohadlgjokgmaaFwH
set_option linter.unusedSimpArgs false
set_option linter.unusedVariables false
namespace Go.Ab.S
open Go Go.Ab Go.Proofs
def growL_ren : Go.Shelf.Ren := ⟨fun | 4 => 146 | n => n, fun | 22 => 28 | 25 => 44 | 3 => 3 | 4 => 4 | 9 => 9 | 20 => 20 | 0 => 0 | n => n, fun | n => n⟩
theorem growL : Go.Proofs.Lays8.n4 Try.prog growL_ren := {
  mixed := by kernel_rfl
  f4 := ⟨Try.f146.name, by decide, Try.func146.trans (congrArg some (by kernel_rfl))⟩
  t0 := Try.underlying0
  a0 := Try.isAgg0
  z0 := Try.sizeOf0
  v0 := Try.zeroValue0
  t3 := Try.underlying3
  a3 := Try.isAgg3
  z3 := Try.sizeOf3
  v3 := Try.zeroValue3
  t4 := Try.underlying4
  a4 := Try.isAgg4
  z4 := Try.sizeOf4
  v4 := Try.zeroValue4
  t9 := Try.underlying9
  a9 := Try.isAgg9
  z9 := Try.sizeOf9
  v9 := Try.zeroValue9
  t20 := Try.underlying20
  a20 := Try.isAgg20
  z20 := Try.sizeOf20
  v20 := Try.zeroValue20
  t22 := Try.underlying28
  a22 := Try.isAgg28
  z22 := Try.sizeOf28
  v22 := Try.zeroValue28 }
theorem Grow_ok (n : Nat) (hn : n ≤ 1000) : EvR PR G f_slices_Grow_api_Message [.c .nils, .c (.p (.int .i64 n))] ⟨[], []⟩ (.c (.os (.loc 0) 0)) ⟨[], [.arr 7 false []]⟩ := grow_ok (sz := 7) (bytes := 56) growL rfl (by kernel_rfl) (by kernel_rfl) (by decide) n hn (by decide)
end Go.Ab.S
