/- Part of a proof; no condition. -/
import Derived.Test.YtidmpmdhgiopgaaDoorRChangeOnes
import Derived.Test.YtidmpmdhgiopgaaDoorTie
set_option linter.unusedSimpArgs false
set_option linter.unusedVariables false
namespace Go.Proofs.YtidmpmdhgiopgaaDoor
open Go

theorem changeOnes_card : Rows.ChangeOnesCardSaid :=
  Claim7.holds_tied_plain_at .later [] [.data] true (true, "3532d26839e7d76c0659fbbc82b725862a12fcc40ab0d2937d0e4dc63505f25b") false changeOnes_holds (fun _ h => by cases h) (by kernel_rfl) (fun _ h => by cases h) changeOnes_row_tie rfl ⟨rfl, rfl⟩ (by kernel_rfl) rfl
    (fun f fn hf hfn => by
      obtain rfl : f = 8 := Option.some.inj ((show Tryd.prog.funcNamed "forepeak/forepeaklaw13.ChangeOnes" = some 8 by kernel_rfl).symm.trans hf) |>.symm
      obtain rfl : fn = Tryd.f8 := (Option.some.inj (Tryd.func8.symm.trans hfn)).symm
      exact ⟨by kernel_rfl, fun j t ht => by
        rw [Tryd.params8] at ht
        have hm : t ∈ [48, 65] := by simpa using Array.mem_of_getElem? ht
        have hall : ([48, 65].all fun u => !Tryd.prog.wantsStandIn u) = true := by kernel_rfl
        exact (show Tryd.prog.wantsStandIn t = false by simpa using List.all_eq_true.1 hall t hm)⟩)
    (by kernel_rfl)
end Go.Proofs.YtidmpmdhgiopgaaDoor
