/- Part of a proof; no condition. -/
import Derived.Test.YtjdkjlmcnpjohaaDoorRPolicyBytes
import Derived.Test.YtjdkjlmcnpjohaaDoorTie
set_option linter.unusedSimpArgs false
set_option linter.unusedVariables false
namespace Go.Proofs.YtjdkjlmcnpjohaaDoor
open Go

theorem policyBytes_card : Rows.PolicyBytesCardSaid :=
  Claim7.holds_tied_plain_at .later [] [.data] true (true, "4e371b973b4f315001b6451ff0bae97aeb2d48f3c2cb7a8c8549c49562fa636d") false policyBytes_holds (fun _ h => by cases h) (by kernel_rfl) (fun _ h => by cases h) policyBytes_row_tie rfl ⟨rfl, rfl⟩ (by kernel_rfl) rfl
    (fun f fn hf hfn => by
      obtain rfl : f = 11 := Option.some.inj ((show Tryd.prog.funcNamed "forepeak/forepeaklaw12.PolicyBytes" = some 11 by kernel_rfl).symm.trans hf) |>.symm
      obtain rfl : fn = Tryd.f11 := (Option.some.inj (Tryd.func11.symm.trans hfn)).symm
      exact ⟨by kernel_rfl, fun j t ht => by
        rw [Tryd.params11] at ht
        have hm : t ∈ [50, 75] := by simpa using Array.mem_of_getElem? ht
        have hall : ([50, 75].all fun u => !Tryd.prog.wantsStandIn u) = true := by kernel_rfl
        exact (show Tryd.prog.wantsStandIn t = false by simpa using List.all_eq_true.1 hall t hm)⟩)
    (by kernel_rfl)
end Go.Proofs.YtjdkjlmcnpjohaaDoor
