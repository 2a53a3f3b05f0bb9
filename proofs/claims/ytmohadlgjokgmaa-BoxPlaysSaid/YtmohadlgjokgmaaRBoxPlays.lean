/- Part of a proof; no condition. -/
import Derived.Test.YtmohadlgjokgmaaBxK15
import Derived.Test.YtmohadlgjokgmaaRows
import Derived.HandedShaped
import Derived.SevenTiedAt
import Derived.Stop.Joined
set_option linter.unusedSimpArgs false
set_option linter.unusedVariables false
namespace Go.Proofs.Ytmohadlgjokgmaa
open Go Go.Ab Go.ChangeShapes Go.WideShapes Go.ChangeAt Go.RowKit

theorem boxPlays_own : ownKnob Try.prog.godebug = none := by kernel_rfl
theorem boxPlays_laidOut : laidOutB Try.prog = true := by kernel_rfl

theorem boxPlays_glob {W : World} : ∀ g cs, S.G g = some cs → At (allF W) W g 0 cs := by
  intro g' cs' hG
  cases hG

set_option maxRecDepth 100000 in
theorem boxPlays_lifted (os : Os) (started : os.Started) (H : Type) (enc : TypeId × Value → H) :
    ReturnsInHanded {} Try.checked os 7 .any (Rows.boxPlaysSpec.pre6 enc Try.prog Try.f7 Rows.boxPlaysRow.domain false) (Rows.boxPlaysSpec.post enc Try.prog Try.f7 false true false false) := by
  refine returnsInHanded_of_change_shaped (C := Try.checked) boxPlays_own started (by kernel_rfl) Try.func7
    (ChangeSpec.witness6 (enc := enc) (C := Try.checked) false ⟨#[], #[.slice none 0 0], []⟩ 8 (by kernel_rfl) (by kernel_rfl) (by kernel_rfl) (by kernel_rfl)) ?_
  intro W base args ds gs before hval hW _ hwt _ _
  refine law_calls (P := Try.prog) (G := S.G) (g := 7) (fn := Try.f7) (shs := [(.sl 9 72 (.st (.cons 1 (.int .u8) (.cons 1 (.int .i64) (.cons 7 (.st (.cons 1 (.int .i64) (.cons 1 (.int .i64) (.cons 2 (.st (.cons 1 (.int .u16) (.cons 1 (.int .u16) .nil))) (.cons 1 (.int .i64) (.cons 1 (.int .u16) (.cons 1 .str .nil))))))) .nil)))))]) 20 (by kernel_rfl) boxPlays_laidOut (by kernel_rfl) (tb := 4) (by kernel_rfl) (by kernel_rfl) (by rfl) ?_ hval hW hwt boxPlays_glob ?_
  · intro ds hds
    match ds, hds with
    | [d0], _ => rfl
  · intro pvss hw _
    exact S.law_boxPlays pvss hw

theorem boxPlays_holds : Rows.BoxPlaysSaid :=
  OpenClaim.holds_of_wide 7 Try.f7 rfl rfl rfl rfl rfl rfl rfl ⟨rfl, rfl, rfl, rfl, rfl⟩ rfl rfl rfl rfl rfl (by kernel_rfl) Try.func7 (by kernel_rfl)
    (of_decide_eq_true (by kernel_rfl)) (by unfold Func.isWrapper; first | (rw [if_pos (by decide +kernel)]; kernel_rfl) | (rw [if_neg (by decide +kernel)]; exact ⟨rfl, rfl⟩))
    (fun os started H enc _ => boxPlays_lifted os started H enc)
end Go.Proofs.Ytmohadlgjokgmaa
