/- Part of a proof; no condition. -/
import Derived.Test.YtbiaoocflpkmeaaDoorLaneLengthLaw
import Derived.Test.YtbiaoocflpkmeaaDoorRows
import Derived.Test.YtbiaoocflpkmeaaDoorCards
import Derived.LaidMore
import Derived.Lay
import Derived.SevenTiedAt
import Derived.Stop.Joined
set_option linter.unusedSimpArgs false
set_option linter.unusedVariables false
namespace Go.Proofs.YtbiaoocflpkmeaaDoor
open Go Go.Ab Go.ChangeShapes Go.WideShapes Go.ChangeAt Go.RowKit

theorem own : ownKnob Tryd.prog.godebug = none := by kernel_rfl
theorem laidOut : laidOutB Tryd.prog = true := by kernel_rfl

theorem glob {W : World} (h : laidMetH Tryd.prog Rows.laneLengthRow.laid W) : ∀ g cs, S.G g = some cs → At (allF W) W g 0 cs := by
  rw [MakeChecks.laidMetH_plain _ _ _ (by kernel_rfl)] at h
  obtain ⟨ps, ⟨g, t, cs, fuel, p, q, hg, ht, hv, hd, -, -⟩, -, -⟩ := h
  obtain rfl := Option.some.inj ((show Tryd.prog.globalNamed "forepeak/lane.ends" = some 0 by kernel_rfl).symm.trans hg)
  intro g' cs' hG
  unfold S.G at hG
  split at hG
  · cases hG
    exact laid_at2 20 hg ht hv hd (by kernel_rfl)
  · cases hG

set_option maxRecDepth 100000 in
theorem length_lifted (os : Os) (started : os.Started) (H : Type) (enc : TypeId × Value → H) :
    ReturnsInHanded {} Tryd.checked os 5 .any (fun w args => (Rows.laneLengthSpec.pre enc Tryd.prog Tryd.f5 Rows.laneLengthRow.domain false w args ∧ laidMetH Tryd.prog Rows.laneLengthRow.laid w) ∧ sizedMet enc Tryd.prog Tryd.f5 (OpenSpec.ofChange Rows.laneLengthSpec) false w args)
      (Rows.laneLengthSpec.post enc Tryd.prog Tryd.f5 false true false false) := by
  refine returnsInHanded_of_change_and (C := Tryd.checked) (X := fun w _ => laidMetH Tryd.prog Rows.laneLengthRow.laid w) (fun _ _ _ hh h => h.of_heap hh) own started (by kernel_rfl) Tryd.func5
    (ChangeSpec.witness_shaped (enc := enc) (C := Tryd.checked) (os := os) (X := fun w _ => laidMetH Tryd.prog Rows.laneLengthRow.laid w) false (World.laidAll Tryd.prog os Rows.laneLengthRow.laid) #[.int .u8 0] 8 (World.laidAll_os _ _ _)
      (World.shaped_of_ZipB (by kernel_rfl) (by kernel_rfl)) (by kernel_rfl) (by kernel_rfl) (by kernel_rfl)
      (by rw [MakeChecks.laidMetH_plain _ _ _ (by kernel_rfl)]; exact laidMet_laidAll _ (by kernel_rfl) (by kernel_rfl))) ?_
  intro W base args ds gs before hval hW _ hwt hL _
  refine law_calls (P := Tryd.prog) (G := S.G) (g := 5) (fn := Tryd.f5) (shs := [.int .u8]) 20 (by kernel_rfl) laidOut (by kernel_rfl) (tb := 4) (by kernel_rfl) (by kernel_rfl) (by rfl) ?_ hval hW hwt (glob hL) ?_
  · intro ds hds
    match ds, hds with
    | [d], _ => rfl
  · intro pvss hw _
    match pvss, hw with
    | [p], ⟨hp, _⟩ =>
      obtain ⟨n, rfl, h0, h1⟩ := hp
      exact S.e5 n (by simpa [IntKind.min, IntKind.signed] using h0) (by simpa [IntKind.max, IntKind.signed, IntKind.bits] using h1)

theorem length_holds : Rows.LaneLengthSaid :=
  OpenClaim.holds_of_wide 5 Tryd.f5 rfl rfl rfl rfl rfl rfl rfl ⟨rfl, rfl, rfl, rfl, rfl⟩ rfl rfl rfl rfl rfl (by kernel_rfl) Tryd.func5 (by kernel_rfl)
    (of_decide_eq_true (by kernel_rfl)) (by unfold Func.isWrapper; first | (rw [if_pos (by decide +kernel)]; kernel_rfl) | (rw [if_neg (by decide +kernel)]; exact ⟨rfl, rfl⟩))
    (fun os started H enc _ => length_lifted os started H enc)
end Go.Proofs.YtbiaoocflpkmeaaDoor
