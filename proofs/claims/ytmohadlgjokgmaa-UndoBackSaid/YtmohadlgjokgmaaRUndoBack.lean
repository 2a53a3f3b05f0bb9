/- Part of a proof; no condition. -/
import Derived.Test.YtmohadlgjokgmaaLU6
import Derived.Test.YtmohadlgjokgmaaRows
import Derived.HandedShaped
import Derived.SevenTiedAt
import Derived.Stop.Joined
set_option linter.unusedSimpArgs false
set_option linter.unusedVariables false
namespace Go.Proofs.Ytmohadlgjokgmaa
open Go Go.Ab Go.ChangeShapes Go.WideShapes Go.ChangeAt Go.RowKit

theorem undoBack_own : ownKnob Try.prog.godebug = none := by kernel_rfl
theorem undoBack_laidOut : laidOutB Try.prog = true := by kernel_rfl

theorem undoBack_glob {W : World} : ∀ g cs, S.G g = some cs → At (allF W) W g 0 cs := by
  intro g' cs' hG
  cases hG

set_option maxRecDepth 100000 in
theorem undoBack_lifted (os : Os) (started : os.Started) (H : Type) (enc : TypeId × Value → H) :
    ReturnsInHanded {} Try.checked os 4 .any (Rows.undoBackSpec.pre6 enc Try.prog Try.f4 Rows.undoBackRow.domain false) (Rows.undoBackSpec.post enc Try.prog Try.f4 false true false false) := by
  refine returnsInHanded_of_change_shaped (C := Try.checked) undoBack_own started (by kernel_rfl) Try.func4
    (ChangeSpec.witness6 (enc := enc) (C := Try.checked) false ⟨#[], #[.slice none 0 0, .agg #[.int .u16 0, .int .u16 0, .int .i64 0, .int .i64 0, .int .u16 0, .int .u16 0, .int .i64 0, .bool false, .int .u16 0, .int .u16 0, .int .i64 0, .string ⟨#[]⟩, .bool false, .int .i64 0, .slice none 0 0, .slice none 0 0, .slice none 0 0], .bool false, .string ⟨#[]⟩], []⟩ 8 (by kernel_rfl) (by kernel_rfl) (by kernel_rfl) (by kernel_rfl)) ?_
  intro W base args ds gs before hval hW _ hwt _ _
  refine law_calls (P := Try.prog) (G := S.G) (g := 4) (fn := Try.f4) (shs := [(.sl 2 16 (.arr 2 1 (.int .i64))), (.st (.cons 4 (.st (.cons 2 (.st (.cons 1 (.int .u16) (.cons 1 (.int .u16) .nil))) (.cons 1 (.int .i64) (.cons 1 (.int .i64) .nil)))) (.cons 2 (.st (.cons 1 (.int .u16) (.cons 1 (.int .u16) .nil))) (.cons 1 (.int .i64) (.cons 1 .bool (.cons 2 (.st (.cons 1 (.int .u16) (.cons 1 (.int .u16) .nil))) (.cons 1 (.int .i64) (.cons 1 .str (.cons 1 .bool (.cons 4 (.st (.cons 1 (.int .i64) (.cons 1 (.sl 7 56 (.st (.cons 1 (.int .i64) (.cons 1 (.int .i64) (.cons 2 (.st (.cons 1 (.int .u16) (.cons 1 (.int .u16) .nil))) (.cons 1 (.int .i64) (.cons 1 (.int .u16) (.cons 1 .str .nil)))))))) (.cons 1 (.sl 7 56 (.st (.cons 1 (.int .i64) (.cons 1 (.int .i64) (.cons 2 (.st (.cons 1 (.int .u16) (.cons 1 (.int .u16) .nil))) (.cons 1 (.int .i64) (.cons 1 (.int .u16) (.cons 1 .str .nil)))))))) (.cons 1 (.sl 7 56 (.st (.cons 1 (.int .i64) (.cons 1 (.int .i64) (.cons 2 (.st (.cons 1 (.int .u16) (.cons 1 (.int .u16) .nil))) (.cons 1 (.int .i64) (.cons 1 (.int .u16) (.cons 1 .str .nil)))))))) .nil))))) .nil)))))))))), .bool, .str]) 20 (by kernel_rfl) undoBack_laidOut (by kernel_rfl) (tb := 4) (by kernel_rfl) (by kernel_rfl) (by rfl) ?_ hval hW hwt undoBack_glob ?_
  · intro ds hds
    match ds, hds with
    | [d0, d1, d2, d3], _ => rfl
  · intro pvss hw _
    exact S.law_undoBack pvss hw

theorem undoBack_holds : Rows.UndoBackSaid :=
  OpenClaim.holds_of_wide 4 Try.f4 rfl rfl rfl rfl rfl rfl rfl ⟨rfl, rfl, rfl, rfl, rfl⟩ rfl rfl rfl rfl rfl (by kernel_rfl) Try.func4 (by kernel_rfl)
    (of_decide_eq_true (by kernel_rfl)) (by unfold Func.isWrapper; first | (rw [if_pos (by decide +kernel)]; kernel_rfl) | (rw [if_neg (by decide +kernel)]; exact ⟨rfl, rfl⟩))
    (fun os started H enc _ => undoBack_lifted os started H enc)
end Go.Proofs.Ytmohadlgjokgmaa
