/- Part of a proof; no condition. -/
import Derived.Test.YteoaefbcihoapaaLZ2
import Derived.Test.YteoaefbcihoapaaRows
import Derived.HandedShaped
import Derived.SevenTiedAt
import Derived.Stop.Joined
set_option linter.unusedSimpArgs false
set_option linter.unusedVariables false
namespace Go.Proofs.Yteoaefbcihoapaa
open Go Go.Ab Go.ChangeShapes Go.WideShapes Go.ChangeAt Go.RowKit

theorem versionNobody_own : ownKnob Try.prog.godebug = none := by kernel_rfl
theorem versionNobody_laidOut : laidOutB Try.prog = true := by kernel_rfl

theorem versionNobody_glob {W : World} : ∀ g cs, S.G g = some cs → At (allF W) W g 0 cs := by
  intro g' cs' hG
  cases hG

set_option maxRecDepth 100000 in
theorem versionNobody_lifted (os : Os) (started : os.Started) (H : Type) (enc : TypeId × Value → H) :
    ReturnsInHanded {} Try.checked os 3 .any (Rows.versionNobodySpec.pre6 enc Try.prog Try.f3 Rows.versionNobodyRow.domain false) (Rows.versionNobodySpec.post enc Try.prog Try.f3 false true false false) := by
  refine returnsInHanded_of_change_shaped (C := Try.checked) versionNobody_own started (by kernel_rfl) Try.func3
    (ChangeSpec.witness6 (enc := enc) (C := Try.checked) false ⟨#[], #[.int .i64 0], []⟩ 8 (by kernel_rfl) (by kernel_rfl) (by kernel_rfl) (by kernel_rfl)) ?_
  intro W base args ds gs before hval hW _ hwt _ _
  refine law_calls (P := Try.prog) (G := S.G) (g := 3) (fn := Try.f3) (shs := [(.int .i64)]) 20 (by kernel_rfl) versionNobody_laidOut (by kernel_rfl) (tb := 4) (by kernel_rfl) (by kernel_rfl) (by rfl) ?_ hval hW hwt versionNobody_glob ?_
  · intro ds hds
    match ds, hds with
    | [d0], _ => rfl
  · intro pvss hw _
    exact S.law_versionNobody pvss hw

theorem versionNobody_holds : Rows.VersionNobodySaid :=
  OpenClaim.holds_of_wide 3 Try.f3 rfl rfl rfl rfl rfl rfl rfl ⟨rfl, rfl, rfl, rfl, rfl⟩ rfl rfl rfl rfl rfl (by kernel_rfl) Try.func3 (by kernel_rfl)
    (of_decide_eq_true (by kernel_rfl)) (by unfold Func.isWrapper; first | (rw [if_pos (by decide +kernel)]; kernel_rfl) | (rw [if_neg (by decide +kernel)]; exact ⟨rfl, rfl⟩))
    (fun os started H enc _ => versionNobody_lifted os started H enc)
end Go.Proofs.Yteoaefbcihoapaa
