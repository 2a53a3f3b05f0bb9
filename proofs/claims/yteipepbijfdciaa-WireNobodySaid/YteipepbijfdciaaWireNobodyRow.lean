/- Part of a proof; no condition. -/
import Derived.Test.YteipepbijfdciaaWireW12
import Derived.Test.YteipepbijfdciaaRows
import Derived.HandedShaped
import Derived.SevenTiedAt
import Derived.Stop.Joined
set_option linter.unusedSimpArgs false
set_option linter.unusedVariables false
namespace Go.Proofs.Yteipepbijfdciaa
open Go Go.Ab Go.ChangeShapes Go.WideShapes Go.ChangeAt Go.RowKit

theorem wireNobody_own : ownKnob Try.prog.godebug = none := by kernel_rfl
theorem wireNobody_laidOut : laidOutB Try.prog = true := by kernel_rfl

theorem wireNobody_glob {W : World} : ∀ g cs, S.G g = some cs → At (allF W) W g 0 cs := by
  intro g' cs' hG
  cases hG

set_option maxRecDepth 100000 in
theorem wireNobody_lifted (os : Os) (started : os.Started) (H : Type) (enc : TypeId × Value → H) :
    ReturnsInHanded {} Try.checked os 10 .any (Rows.wireNobodySpec.pre6 enc Try.prog Try.f10 Rows.wireNobodyRow.domain false) (Rows.wireNobodySpec.post enc Try.prog Try.f10 false true false false) := by
  refine returnsInHanded_of_change_shaped (C := Try.checked) wireNobody_own started (by kernel_rfl) Try.func10
    (ChangeSpec.witness6 (enc := enc) (C := Try.checked) false ⟨#[], #[.int .i64 0, .int .i64 0, .string ⟨#[]⟩], []⟩ 8 (by kernel_rfl) (by kernel_rfl) (by kernel_rfl) (by kernel_rfl)) ?_
  intro W base args ds gs before hval hW _ hwt _ _
  refine law_calls (P := Try.prog) (G := S.G) (g := 10) (fn := Try.f10) (shs := [(.int .i64), (.int .i64), .str]) 20 (by kernel_rfl) wireNobody_laidOut (by kernel_rfl) (tb := 4) (by kernel_rfl) (by kernel_rfl) (by rfl) ?_ hval hW hwt wireNobody_glob ?_
  · intro ds hds
    match ds, hds with
    | [d0, d1, d2], _ => rfl
  · intro pvss hw _
    exact S.law_nobody pvss hw

theorem wireNobody_holds : Rows.WireNobodySaid :=
  OpenClaim.holds_of_wide 10 Try.f10 rfl rfl rfl rfl rfl rfl rfl ⟨rfl, rfl, rfl, rfl, rfl⟩ rfl rfl rfl rfl rfl (by kernel_rfl) Try.func10 (by kernel_rfl)
    (of_decide_eq_true (by kernel_rfl)) (by unfold Func.isWrapper; first | (rw [if_pos (by decide +kernel)]; kernel_rfl) | (rw [if_neg (by decide +kernel)]; exact ⟨rfl, rfl⟩))
    (fun os started H enc _ => wireNobody_lifted os started H enc)
end Go.Proofs.Yteipepbijfdciaa
