/- slices.Grow of a nil slice of messages. No condition. -/
import Derived.Test.YtidmpmdhgiopgaaDoorB0
import Derived.Test.YtidmpmdhgiopgaaDoorFwH
set_option linter.unusedSimpArgs false
set_option linter.unusedVariables false
namespace Go.Ab.S
open Go Go.Ab Go.Proofs
def growL_ren : Go.Shelf.Ren := ⟨fun | 4 => 166 | n => n, fun | 22 => 28 | 25 => 50 | 3 => 3 | 4 => 4 | 9 => 9 | 20 => 20 | 0 => 0 | n => n, fun | n => n⟩
theorem growL : Go.Proofs.Lays8.n4 Tryd.prog growL_ren := {
  mixed := by kernel_rfl
  f4 := ⟨Tryd.f166.name, by decide, Tryd.func166.trans (congrArg some (by kernel_rfl))⟩
  t0 := Tryd.underlying0
  a0 := Tryd.isAgg0
  z0 := Tryd.sizeOf0
  v0 := Tryd.zeroValue0
  t3 := Tryd.underlying3
  a3 := Tryd.isAgg3
  z3 := Tryd.sizeOf3
  v3 := Tryd.zeroValue3
  t4 := Tryd.underlying4
  a4 := Tryd.isAgg4
  z4 := Tryd.sizeOf4
  v4 := Tryd.zeroValue4
  t9 := Tryd.underlying9
  a9 := Tryd.isAgg9
  z9 := Tryd.sizeOf9
  v9 := Tryd.zeroValue9
  t20 := Tryd.underlying20
  a20 := Tryd.isAgg20
  z20 := Tryd.sizeOf20
  v20 := Tryd.zeroValue20
  t22 := Tryd.underlying28
  a22 := Tryd.isAgg28
  z22 := Tryd.sizeOf28
  v22 := Tryd.zeroValue28 }
theorem Grow_ok (n : Nat) (hn : n ≤ 1000) : EvR PR G f_slices_Grow_api_Message [.c .nils, .c (.p (.int .i64 n))] ⟨[], []⟩ (.c (.os (.loc 0) 0)) ⟨[], [.arr 7 false []]⟩ := grow_ok (sz := 7) (bytes := 56) growL rfl (by kernel_rfl) (by kernel_rfl) (by decide) n hn (by decide)
end Go.Ab.S
