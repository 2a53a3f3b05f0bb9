/- Part of a proof; no condition. -/
import Derived.Test.YtepldakgedckcaaDoorRVersionBytes
import Derived.Test.YtepldakgedckcaaDoorTie
set_option linter.unusedSimpArgs false
set_option linter.unusedVariables false
namespace Go.Proofs.YtepldakgedckcaaDoor
open Go

theorem versionBytes_card : Rows.VersionBytesCardSaid :=
  Claim7.holds_tied_plain_at .later [] [.data] true (true, "c2ea4971b386dce8bc2b8b41cb4d30187c6ebeeb3b7e29e23a2e7864467c526d") false versionBytes_holds (fun _ h => by cases h) (by kernel_rfl) (fun _ h => by cases h) versionBytes_row_tie rfl ⟨rfl, rfl⟩ (by kernel_rfl) rfl
    (fun f fn hf hfn => by
      obtain rfl : f = 3 := Option.some.inj ((show Tryd.prog.funcNamed "forepeak/forepeaklaw14.VersionBytes" = some 3 by kernel_rfl).symm.trans hf) |>.symm
      obtain rfl : fn = Tryd.f3 := (Option.some.inj (Tryd.func3.symm.trans hfn)).symm
      exact ⟨by kernel_rfl, fun j t ht => by
        rw [Tryd.params3] at ht
        have hm : t ∈ [5, 22, 23] := by simpa using Array.mem_of_getElem? ht
        have hall : ([5, 22, 23].all fun u => !Tryd.prog.wantsStandIn u) = true := by kernel_rfl
        exact (show Tryd.prog.wantsStandIn t = false by simpa using List.all_eq_true.1 hall t hm)⟩)
    (by kernel_rfl)
end Go.Proofs.YtepldakgedckcaaDoor
