/- Part of a proof; no condition. -/
import Derived.Test.YtidmpmdhgiopgaaDoorRChangeBack
import Derived.Test.YtidmpmdhgiopgaaDoorTie
set_option linter.unusedSimpArgs false
set_option linter.unusedVariables false
namespace Go.Proofs.YtidmpmdhgiopgaaDoor
open Go

theorem changeBack_card : Rows.ChangeBackCardSaid :=
  Claim7.holds_tied_plain_at .later [] [.data] true (true, "3532d26839e7d76c0659fbbc82b725862a12fcc40ab0d2937d0e4dc63505f25b") false changeBack_holds (fun _ h => by cases h) (by kernel_rfl) (fun _ h => by cases h) changeBack_row_tie rfl ⟨rfl, rfl⟩ (by kernel_rfl) rfl
    (fun f fn hf hfn => by
      obtain rfl : f = 10 := Option.some.inj ((show Tryd.prog.funcNamed "forepeak/forepeaklaw13.ChangeBack" = some 10 by kernel_rfl).symm.trans hf) |>.symm
      obtain rfl : fn = Tryd.f10 := (Option.some.inj (Tryd.func10.symm.trans hfn)).symm
      exact ⟨by kernel_rfl, fun j t ht => by
        rw [Tryd.params10] at ht
        have hm : t ∈ [48, 3, 3, 25] := by simpa using Array.mem_of_getElem? ht
        have hall : ([48, 3, 3, 25].all fun u => !Tryd.prog.wantsStandIn u) = true := by kernel_rfl
        exact (show Tryd.prog.wantsStandIn t = false by simpa using List.all_eq_true.1 hall t hm)⟩)
    (by kernel_rfl)
end Go.Proofs.YtidmpmdhgiopgaaDoor
