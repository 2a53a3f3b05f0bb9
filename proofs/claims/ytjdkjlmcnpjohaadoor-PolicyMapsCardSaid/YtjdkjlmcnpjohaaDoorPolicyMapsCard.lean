/- Part of a proof; no condition. -/
import Derived.Test.YtjdkjlmcnpjohaaDoorRPolicyMaps
import Derived.Test.YtjdkjlmcnpjohaaDoorTie
set_option linter.unusedSimpArgs false
set_option linter.unusedVariables false
namespace Go.Proofs.YtjdkjlmcnpjohaaDoor
open Go

theorem policyMaps_card : Rows.PolicyMapsCardSaid :=
  Claim7.holds_tied_plain_at .later [] [.data] true (true, "4e371b973b4f315001b6451ff0bae97aeb2d48f3c2cb7a8c8549c49562fa636d") false policyMaps_holds (fun _ h => by cases h) (by kernel_rfl) (fun _ h => by cases h) policyMaps_row_tie rfl ⟨rfl, rfl⟩ (by kernel_rfl) rfl
    (fun f fn hf hfn => by
      obtain rfl : f = 12 := Option.some.inj ((show Tryd.prog.funcNamed "forepeak/forepeaklaw12.PolicyMaps" = some 12 by kernel_rfl).symm.trans hf) |>.symm
      obtain rfl : fn = Tryd.f12 := (Option.some.inj (Tryd.func12.symm.trans hfn)).symm
      exact ⟨by kernel_rfl, fun j t ht => by
        rw [Tryd.params12] at ht
        have hm : t ∈ [50, 22] := by simpa using Array.mem_of_getElem? ht
        have hall : ([50, 22].all fun u => !Tryd.prog.wantsStandIn u) = true := by kernel_rfl
        exact (show Tryd.prog.wantsStandIn t = false by simpa using List.all_eq_true.1 hall t hm)⟩)
    (by kernel_rfl)
end Go.Proofs.YtjdkjlmcnpjohaaDoor
