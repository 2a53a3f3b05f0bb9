/- ChangeOnes. No condition. -/
import Derived.Test.YtidmpmdhgiopgaaDoorLCI
set_option linter.unusedSimpArgs false
set_option linter.unusedVariables false
namespace Go.Ab.S
open Go Go.Ab Go.Proofs
attribute [local irreducible] SemS
set_option maxRecDepth 100000
abbrev shChg : Sh := .st (.cons 1 (.int .i64) (.cons 1 (.int .i64) (.cons 1 (.int .i64) (.cons 2 (.st (.cons 1 (.int .u16) (.cons 1 (.int .u16) .nil))) .nil))))
def polK : List LK := List.replicate 49 (.int .u16) ++ List.replicate 16 (.int .u8) ++ [.int .u16]
theorem pol_typ (p : Pol) : typK polK p.row = true := rfl
theorem row66 (p : Pol) : p.row.length = 66 := rfl
theorem td66 {R : List PV} (h : R.length = 66) : List.take 66 (List.drop 0 R) = R := by
  rw [List.drop_zero, List.take_of_length_le (by omega)]
theorem put66 {z R : List PV} (h : R.length = 66) (hz : z.length = 66) : putAt z 0 R = R := by
  unfold putAt
  rw [List.take_zero, List.nil_append, List.drop_eq_nil_of_le (by omega), List.append_nil]
end Go.Ab.S
