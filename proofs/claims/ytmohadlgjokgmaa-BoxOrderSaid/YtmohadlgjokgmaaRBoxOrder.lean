/- Part of a proof; no condition. -/
import Derived.Test.YtmohadlgjokgmaaBxK10
import Derived.Test.YtmohadlgjokgmaaRows
import Derived.HandedShaped
import Derived.SevenTiedAt
import Derived.Stop.Joined
set_option linter.unusedSimpArgs false
set_option linter.unusedVariables false
namespace Go.Proofs.Ytmohadlgjokgmaa
open Go Go.Ab Go.ChangeShapes Go.WideShapes Go.ChangeAt Go.RowKit

theorem boxOrder_own : ownKnob Try.prog.godebug = none := by kernel_rfl
theorem boxOrder_laidOut : laidOutB Try.prog = true := by kernel_rfl

theorem boxOrder_glob {W : World} : ∀ g cs, S.G g = some cs → At (allF W) W g 0 cs := by
  intro g' cs' hG
  cases hG

set_option maxRecDepth 100000 in
theorem boxOrder_lifted (os : Os) (started : os.Started) (H : Type) (enc : TypeId × Value → H) :
    ReturnsInHanded {} Try.checked os 5 .any (Rows.boxOrderSpec.pre6 enc Try.prog Try.f5 Rows.boxOrderRow.domain false) (Rows.boxOrderSpec.post enc Try.prog Try.f5 false true false false) := by
  refine returnsInHanded_of_change_shaped (C := Try.checked) boxOrder_own started (by kernel_rfl) Try.func5
    (ChangeSpec.witness6 (enc := enc) (C := Try.checked) false ⟨#[], #[.slice none 0 0], []⟩ 8 (by kernel_rfl) (by kernel_rfl) (by kernel_rfl) (by kernel_rfl)) ?_
  intro W base args ds gs before hval hW _ hwt _ _
  refine law_calls (P := Try.prog) (G := S.G) (g := 5) (fn := Try.f5) (shs := [(.sl 1 16 .str)]) 20 (by kernel_rfl) boxOrder_laidOut (by kernel_rfl) (tb := 4) (by kernel_rfl) (by kernel_rfl) (by rfl) ?_ hval hW hwt boxOrder_glob ?_
  · intro ds hds
    match ds, hds with
    | [d0], _ => rfl
  · intro pvss hw _
    exact S.law_boxOrder pvss hw

theorem boxOrder_holds : Rows.BoxOrderSaid :=
  OpenClaim.holds_of_wide 5 Try.f5 rfl rfl rfl rfl rfl rfl rfl ⟨rfl, rfl, rfl, rfl, rfl⟩ rfl rfl rfl rfl rfl (by kernel_rfl) Try.func5 (by kernel_rfl)
    (of_decide_eq_true (by kernel_rfl)) (by unfold Func.isWrapper; first | (rw [if_pos (by decide +kernel)]; kernel_rfl) | (rw [if_neg (by decide +kernel)]; exact ⟨rfl, rfl⟩))
    (fun os started H enc _ => boxOrder_lifted os started H enc)
end Go.Proofs.Ytmohadlgjokgmaa
