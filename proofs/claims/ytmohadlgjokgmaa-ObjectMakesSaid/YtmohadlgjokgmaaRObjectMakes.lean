/- Part of a proof; no condition. -/
import Derived.Test.YtmohadlgjokgmaaBxO5
import Derived.Test.YtmohadlgjokgmaaRows
import Derived.HandedShaped
import Derived.SevenTiedAt
import Derived.Stop.Joined
set_option linter.unusedSimpArgs false
set_option linter.unusedVariables false
namespace Go.Proofs.Ytmohadlgjokgmaa
open Go Go.Ab Go.ChangeShapes Go.WideShapes Go.ChangeAt Go.RowKit

theorem objectMakes_own : ownKnob Try.prog.godebug = none := by kernel_rfl
theorem objectMakes_laidOut : laidOutB Try.prog = true := by kernel_rfl

theorem objectMakes_glob {W : World} : ∀ g cs, S.G g = some cs → At (allF W) W g 0 cs := by
  intro g' cs' hG
  cases hG

set_option maxRecDepth 100000 in
theorem objectMakes_lifted (os : Os) (started : os.Started) (H : Type) (enc : TypeId × Value → H) :
    ReturnsInHanded {} Try.checked os 11 .any (Rows.objectMakesSpec.pre6 enc Try.prog Try.f11 Rows.objectMakesRow.domain false) (Rows.objectMakesSpec.post enc Try.prog Try.f11 false true false false) := by
  refine returnsInHanded_of_change_shaped (C := Try.checked) objectMakes_own started (by kernel_rfl) Try.func11
    (ChangeSpec.witness6 (enc := enc) (C := Try.checked) false ⟨#[], #[.agg #[.int .u16 0, .int .u16 0, .int .i64 0, .int .i64 0, .int .u8 0, .int .u8 0, .int .u16 0, .int .u16 0, .string ⟨#[]⟩]], []⟩ 8 (by kernel_rfl) (by kernel_rfl) (by kernel_rfl) (by kernel_rfl)) ?_
  intro W base args ds gs before hval hW _ hwt _ _
  refine law_calls (P := Try.prog) (G := S.G) (g := 11) (fn := Try.f11) (shs := [(.st (.cons 4 (.st (.cons 2 (.st (.cons 1 (.int .u16) (.cons 1 (.int .u16) .nil))) (.cons 1 (.int .i64) (.cons 1 (.int .i64) .nil)))) (.cons 1 (.int .u8) (.cons 1 (.int .u8) (.cons 2 (.st (.cons 1 (.int .u16) (.cons 1 (.int .u16) .nil))) (.cons 1 .str .nil))))))]) 20 (by kernel_rfl) objectMakes_laidOut (by kernel_rfl) (tb := 4) (by kernel_rfl) (by kernel_rfl) (by rfl) ?_ hval hW hwt objectMakes_glob ?_
  · intro ds hds
    match ds, hds with
    | [d0], _ => rfl
  · intro pvss hw _
    exact S.law_objectMakes pvss hw

theorem objectMakes_holds : Rows.ObjectMakesSaid :=
  OpenClaim.holds_of_wide 11 Try.f11 rfl rfl rfl rfl rfl rfl rfl ⟨rfl, rfl, rfl, rfl, rfl⟩ rfl rfl rfl rfl rfl (by kernel_rfl) Try.func11 (by kernel_rfl)
    (of_decide_eq_true (by kernel_rfl)) (by unfold Func.isWrapper; first | (rw [if_pos (by decide +kernel)]; kernel_rfl) | (rw [if_neg (by decide +kernel)]; exact ⟨rfl, rfl⟩))
    (fun os started H enc _ => objectMakes_lifted os started H enc)
end Go.Proofs.Ytmohadlgjokgmaa
