/- Part of a proof; no condition. -/
import Derived.Test.YtmohadlgjokgmaaBxK11
import Derived.Test.YtmohadlgjokgmaaRows
import Derived.HandedShaped
import Derived.SevenTiedAt
import Derived.Stop.Joined
set_option linter.unusedSimpArgs false
set_option linter.unusedVariables false
namespace Go.Proofs.Ytmohadlgjokgmaa
open Go Go.Ab Go.ChangeShapes Go.WideShapes Go.ChangeAt Go.RowKit

theorem boxRestores_own : ownKnob Try.prog.godebug = none := by kernel_rfl
theorem boxRestores_laidOut : laidOutB Try.prog = true := by kernel_rfl

theorem boxRestores_glob {W : World} : ∀ g cs, S.G g = some cs → At (allF W) W g 0 cs := by
  intro g' cs' hG
  cases hG

set_option maxRecDepth 100000 in
theorem boxRestores_lifted (os : Os) (started : os.Started) (H : Type) (enc : TypeId × Value → H) :
    ReturnsInHanded {} Try.checked os 6 .any (Rows.boxRestoresSpec.pre6 enc Try.prog Try.f6 Rows.boxRestoresRow.domain false) (Rows.boxRestoresSpec.post enc Try.prog Try.f6 false true false false) := by
  refine returnsInHanded_of_change_shaped (C := Try.checked) boxRestores_own started (by kernel_rfl) Try.func6
    (ChangeSpec.witness6 (enc := enc) (C := Try.checked) false ⟨#[], #[.slice none 0 0, .string ⟨#[]⟩, .int .i64 0, .bool false], []⟩ 8 (by kernel_rfl) (by kernel_rfl) (by kernel_rfl) (by kernel_rfl)) ?_
  intro W base args ds gs before hval hW _ hwt _ _
  refine law_calls (P := Try.prog) (G := S.G) (g := 6) (fn := Try.f6) (shs := [(.sl 1 16 .str), .str, (.int .i64), .bool]) 20 (by kernel_rfl) boxRestores_laidOut (by kernel_rfl) (tb := 4) (by kernel_rfl) (by kernel_rfl) (by rfl) ?_ hval hW hwt boxRestores_glob ?_
  · intro ds hds
    match ds, hds with
    | [d0, d1, d2, d3], _ => rfl
  · intro pvss hw _
    exact S.law_boxRestores pvss hw

theorem boxRestores_holds : Rows.BoxRestoresSaid :=
  OpenClaim.holds_of_wide 6 Try.f6 rfl rfl rfl rfl rfl rfl rfl ⟨rfl, rfl, rfl, rfl, rfl⟩ rfl rfl rfl rfl rfl (by kernel_rfl) Try.func6 (by kernel_rfl)
    (of_decide_eq_true (by kernel_rfl)) (by unfold Func.isWrapper; first | (rw [if_pos (by decide +kernel)]; kernel_rfl) | (rw [if_neg (by decide +kernel)]; exact ⟨rfl, rfl⟩))
    (fun os started H enc _ => boxRestores_lifted os started H enc)
end Go.Proofs.Ytmohadlgjokgmaa
