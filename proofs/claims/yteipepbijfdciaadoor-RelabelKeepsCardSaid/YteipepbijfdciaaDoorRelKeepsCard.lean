/- Part of a proof; no condition. -/
import Derived.Test.YteipepbijfdciaaDoorRelKeepsRow
import Derived.Test.YteipepbijfdciaaDoorTie
set_option linter.unusedSimpArgs false
set_option linter.unusedVariables false
namespace Go.Proofs.YteipepbijfdciaaDoor
open Go

theorem relabelKeeps_card : Rows.RelabelKeepsCardSaid :=
  Claim7.holds_tied_plain_at .later [] [.data] true (true, "81580e575c1d03343c2df42736975a3f74a33642be6eec0d5eae97fa417e907a") false relabelKeeps_holds (fun _ h => by cases h) (by kernel_rfl) (fun _ h => by cases h) relabelKeeps_row_tie rfl ⟨rfl, rfl⟩ (by kernel_rfl) rfl
    (fun f fn hf hfn => by
      obtain rfl : f = 5 := Option.some.inj ((show Tryd.prog.funcNamed "forepeak/forepeaklaw04.RelabelKeeps" = some 5 by kernel_rfl).symm.trans hf) |>.symm
      obtain rfl : fn = Tryd.f5 := (Option.some.inj (Tryd.func5.symm.trans hfn)).symm
      exact ⟨by kernel_rfl, fun j t ht => by
        rw [Tryd.params5] at ht
        have hm : t ∈ [22, 38, 38] := by simpa using Array.mem_of_getElem? ht
        have hall : ([22, 38, 38].all fun u => !Tryd.prog.wantsStandIn u) = true := by kernel_rfl
        exact (show Tryd.prog.wantsStandIn t = false by simpa using List.all_eq_true.1 hall t hm)⟩)
    (by kernel_rfl)
end Go.Proofs.YteipepbijfdciaaDoor
