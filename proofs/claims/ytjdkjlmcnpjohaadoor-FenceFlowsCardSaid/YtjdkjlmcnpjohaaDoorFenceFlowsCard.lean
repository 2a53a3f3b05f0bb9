/- Part of a proof; no condition. -/
import Derived.Test.YtjdkjlmcnpjohaaDoorRFenceFlows
import Derived.Test.YtjdkjlmcnpjohaaDoorTie
set_option linter.unusedSimpArgs false
set_option linter.unusedVariables false
namespace Go.Proofs.YtjdkjlmcnpjohaaDoor
open Go

theorem fenceFlows_card : Rows.FenceFlowsCardSaid :=
  Claim7.holds_tied_plain_at .later [] [.data] true (true, "4e371b973b4f315001b6451ff0bae97aeb2d48f3c2cb7a8c8549c49562fa636d") false fenceFlows_holds (fun _ h => by cases h) (by kernel_rfl) (fun _ h => by cases h) fenceFlows_row_tie rfl ⟨rfl, rfl⟩ (by kernel_rfl) rfl
    (fun f fn hf hfn => by
      obtain rfl : f = 5 := Option.some.inj ((show Tryd.prog.funcNamed "forepeak/forepeaklaw29.FenceFlows" = some 5 by kernel_rfl).symm.trans hf) |>.symm
      obtain rfl : fn = Tryd.f5 := (Option.some.inj (Tryd.func5.symm.trans hfn)).symm
      exact ⟨by kernel_rfl, fun j t ht => by
        rw [Tryd.params5] at ht
        have hm : t ∈ [24, 29, 29] := by simpa using Array.mem_of_getElem? ht
        have hall : ([24, 29, 29].all fun u => !Tryd.prog.wantsStandIn u) = true := by kernel_rfl
        exact (show Tryd.prog.wantsStandIn t = false by simpa using List.all_eq_true.1 hall t hm)⟩)
    (by kernel_rfl)
end Go.Proofs.YtjdkjlmcnpjohaaDoor
