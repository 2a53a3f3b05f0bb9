/- Part of a proof; no condition. -/
import Derived.Test.YtjdkjlmcnpjohaaDoorRPolicyTells
import Derived.Test.YtjdkjlmcnpjohaaDoorTie
set_option linter.unusedSimpArgs false
set_option linter.unusedVariables false
namespace Go.Proofs.YtjdkjlmcnpjohaaDoor
open Go

theorem policyTells_card : Rows.PolicyTellsCardSaid :=
  Claim7.holds_tied_plain_at .later [] [.data] true (true, "4e371b973b4f315001b6451ff0bae97aeb2d48f3c2cb7a8c8549c49562fa636d") false policyTells_holds (fun _ h => by cases h) (by kernel_rfl) (fun _ h => by cases h) policyTells_row_tie rfl ⟨rfl, rfl⟩ (by kernel_rfl) rfl
    (fun f fn hf hfn => by
      obtain rfl : f = 8 := Option.some.inj ((show Tryd.prog.funcNamed "forepeak/forepeaklaw12.PolicyTells" = some 8 by kernel_rfl).symm.trans hf) |>.symm
      obtain rfl : fn = Tryd.f8 := (Option.some.inj (Tryd.func8.symm.trans hfn)).symm
      exact ⟨by kernel_rfl, fun j t ht => by
        rw [Tryd.params8] at ht
        have hm : t ∈ [100] := by simpa using Array.mem_of_getElem? ht
        have hall : ([100].all fun u => !Tryd.prog.wantsStandIn u) = true := by kernel_rfl
        exact (show Tryd.prog.wantsStandIn t = false by simpa using List.all_eq_true.1 hall t hm)⟩)
    (by kernel_rfl)
end Go.Proofs.YtjdkjlmcnpjohaaDoor
