/- Part of a proof; no condition. -/
import Derived.Test.YtepldakgedckcaaDoorLY6
import Derived.Test.YtepldakgedckcaaDoorRows
import Derived.Test.YtepldakgedckcaaDoorCards
import Derived.LaidMore
import Derived.Lay
import Derived.SevenTiedAt
import Derived.Stop.Joined
set_option linter.unusedSimpArgs false
set_option linter.unusedVariables false
namespace Go.Proofs.YtepldakgedckcaaDoor
open Go Go.Ab Go.ChangeShapes Go.WideShapes Go.ChangeAt Go.RowKit

theorem versionBytes_own : ownKnob Tryd.prog.godebug = none := by kernel_rfl
theorem versionBytes_laidOut : laidOutB Tryd.prog = true := by kernel_rfl

theorem versionBytes_glob {W : World} (h : laidMetH Tryd.prog Rows.versionBytesRow.laid W) : ∀ g cs, S.G g = some cs → At (allF W) W g 0 cs := by
  rw [MakeChecks.laidMetH_plain _ _ _ (by kernel_rfl)] at h
  obtain ⟨ps, ⟨g0, t0, cs0, fuel0, p0, q0, hg0, ht0, hv0, hd0, -, -⟩, -⟩ := h
  obtain rfl := Option.some.inj ((show Tryd.prog.globalNamed "math/bits.deBruijn32tab" = some 0 by kernel_rfl).symm.trans hg0)
  intro g' cs' hG
  unfold S.G at hG
  split at hG
  · cases hG
    exact laid_at2 20 hg0 ht0 hv0 hd0 (by kernel_rfl)
  · cases hG

set_option maxRecDepth 100000 in
theorem versionBytes_lifted (os : Os) (started : os.Started) (H : Type) (enc : TypeId × Value → H) :
    ReturnsInHanded {} Tryd.checked os 3 .any (fun w args => (Rows.versionBytesSpec.pre enc Tryd.prog Tryd.f3 Rows.versionBytesRow.domain false w args ∧ laidMetH Tryd.prog Rows.versionBytesRow.laid w) ∧ sizedMet enc Tryd.prog Tryd.f3 (OpenSpec.ofChange Rows.versionBytesSpec) false w args)
      (Rows.versionBytesSpec.post enc Tryd.prog Tryd.f3 false true false false) := by
  refine returnsInHanded_of_change_and (C := Tryd.checked) (X := fun w _ => laidMetH Tryd.prog Rows.versionBytesRow.laid w) (fun _ _ _ hh h => h.of_heap hh) versionBytes_own started (by kernel_rfl) Tryd.func3
    (ChangeSpec.witness_shaped (enc := enc) (C := Tryd.checked) (os := os) (X := fun w _ => laidMetH Tryd.prog Rows.versionBytesRow.laid w) false (World.laidAll Tryd.prog os Rows.versionBytesRow.laid) #[.int .u8 0, .slice none 0 0, .slice none 0 0] 8 (World.laidAll_os _ _ _)
      (World.shaped_of_ZipB (by kernel_rfl) (by kernel_rfl)) (by kernel_rfl) (by kernel_rfl) (by kernel_rfl)
      (by rw [MakeChecks.laidMetH_plain _ _ _ (by kernel_rfl)]; exact laidMet_laidAll _ (by kernel_rfl) (by kernel_rfl))) ?_
  intro W base args ds gs before hval hW _ hwt hL _
  refine law_calls (P := Tryd.prog) (G := S.G) (g := 3) (fn := Tryd.f3) (shs := [(.int .u8), (.sl 66 116 (.st (.cons 1 (.int .u16) (.cons 32 (.arr 16 2 (.st (.cons 1 (.int .u16) (.cons 1 (.int .u16) .nil)))) (.cons 16 (.arr 16 1 (.int .u16)) (.cons 16 (.arr 16 1 (.int .u8)) (.cons 1 (.int .u16) .nil))))))), (.sl 1 1 (.int .u8))]) 20 (by kernel_rfl) versionBytes_laidOut (by kernel_rfl) (tb := 4) (by kernel_rfl) (by kernel_rfl) (by rfl) ?_ hval hW hwt (versionBytes_glob hL) ?_
  · intro ds hds
    match ds, hds with
    | [d0, d1, d2], _ => rfl
  · intro pvss hw _
    exact S.law_versionBytes pvss hw

theorem versionBytes_holds : Rows.VersionBytesSaid :=
  OpenClaim.holds_of_wide 3 Tryd.f3 rfl rfl rfl rfl rfl rfl rfl ⟨rfl, rfl, rfl, rfl, rfl⟩ rfl rfl rfl rfl rfl (by kernel_rfl) Tryd.func3 (by kernel_rfl)
    (of_decide_eq_true (by kernel_rfl)) (by unfold Func.isWrapper; first | (rw [if_pos (by decide +kernel)]; kernel_rfl) | (rw [if_neg (by decide +kernel)]; exact ⟨rfl, rfl⟩))
    (fun os started H enc _ => versionBytes_lifted os started H enc)
end Go.Proofs.YtepldakgedckcaaDoor
