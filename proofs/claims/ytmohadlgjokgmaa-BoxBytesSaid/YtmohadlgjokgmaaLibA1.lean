/- Part of a proof; no condition. -/
import Derived.Test.YtmohadlgjokgmaaB0
import Derived.Test.YtmohadlgjokgmaaLibA0
import Derived.RangeFuncBound
import Derived.RangeFuncCalls
import Derived.RangeFuncLeaves
import Derived.Shelf.Abstract
import Derived.Shelf.RegionOpen
import Derived.WalkKit
import Derived.OwnWalkIn
import Derived.TacticsInMore
import Derived.LoopNIn
import Derived.LoopIn
set_option linter.unusedSimpArgs false
set_option linter.unusedVariables false
namespace Go.Ab.S
open Go Go.Ab Go.Proofs Go.RowKit Go.Shelf
attribute [local go_sem] Oper.semAt_some
attribute [local irreducible] SemS
set_option maxRecDepth 100000
/-- A function of values, called in a world of which the tables are known. -/
theorem EvP.calls {P : Program} {G : Gl} {g : FuncId} {args : List AV} {v : AV} (h : EvP P G g args v) {F : Cl} {W : World} (hG : ∀ g cs, G g = some cs → At F W g 0 cs) (hF : ∀ b o, F b o → b < W.heap.size) {xs : List Value} {x : Value} (hx : F2 (AR (fun _ => none) ⟨[], []⟩ F W) args xs)
    (hv : ∀ {F' W' y}, AR (fun _ => none) ⟨[], []⟩ F' W' v y → y = x) : Calls P g xs.toArray W fun e W' => e = .returned x ∧ W.grownBy W' none := by
  obtain ⟨-, hp, h⟩ := h
  have hS : SRel G (fun _ => none) ⟨[], []⟩ F W := ⟨fun i j r h => (by cases h), fun i r h => (by cases h), fun i r h => (by cases h), fun id b h => (by cases id <;> simp [Hp.get] at h), hG, hF⟩
  refine (h.2 _ F W xs hS hx).mono ?_
  rintro e W' ⟨r, H', φ', F', y, rfl, rfl, E, S, A⟩
  refine ⟨by rw [hv (pureV_rel hp A _ _)], E.os, E.tape, E.output, E.size, fun k hk _ => E.keep k hk fun _ h => by cases h⟩

theorem keepsF {F : Cl} {w W : World} (h : ∀ b o, F b o → W.cell? ⟨b, o, none⟩ = w.cell? ⟨b, o, none⟩) : Keeps F F w W := ⟨fun _ _ h => h, h⟩

end Go.Ab.S
