/- Part of a proof; no condition. -/
import Derived.Test.YtbiaoocflpkmeaaDoorLaneTellsRow
import Derived.Test.YtbiaoocflpkmeaaDoorTie
set_option linter.unusedSimpArgs false
set_option linter.unusedVariables false
namespace Go.Proofs.YtbiaoocflpkmeaaDoor
open Go

theorem laneTells_card : Rows.LaneTellsCardSaid :=
  Claim7.holds_tied_plain_at .later [] [.data] true (true, "4d89355498d04cbeee5eb67ba07d2d3b054bceff2eff451ba989af9c3c0e166b") false laneTells_holds (fun _ h => by cases h) (by kernel_rfl) (fun _ h => by cases h) laneTells_row_tie rfl ⟨rfl, rfl⟩ (by kernel_rfl) rfl
    (fun f fn hf hfn => by
      obtain rfl : f = 3 := Option.some.inj ((show Tryd.prog.funcNamed "forepeak/forepeaklaw28.LaneTells" = some 3 by kernel_rfl).symm.trans hf) |>.symm
      obtain rfl : fn = Tryd.f3 := (Option.some.inj (Tryd.func3.symm.trans hfn)).symm
      exact ⟨by kernel_rfl, fun j t ht => by
        rw [Tryd.params3] at ht
        have hm : t ∈ [23, 5, 24, 3] := by simpa using Array.mem_of_getElem? ht
        have hall : ([23, 5, 24, 3].all fun u => !Tryd.prog.wantsStandIn u) = true := by kernel_rfl
        exact (show Tryd.prog.wantsStandIn t = false by simpa using List.all_eq_true.1 hall t hm)⟩)
    (by kernel_rfl)
end Go.Proofs.YtbiaoocflpkmeaaDoor
