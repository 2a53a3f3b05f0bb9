/-
  DERIVED. GIVEN WITH THE SEED: THE CARDS: each row of YtbiaoocflpkmeaaDoorRows.lean that lists a variable, with what it lists TIED to the program's text (the seventh form; the later family's looks); each row that meets fmt, with fmt's text TOLD by the authors' own Lean function (tested against real Go, not proved from fmt's source: count such statements apart). THE CARD IS WHAT COUNTS. Prove the row's statement (the work); the ties are given (YtbiaoocflpkmeaaDoorTie.lean); close each card by the builder's one call (the guide's Derived/Test/ToyasCard.lean, 'card_holds'). Laid BY PROGRAM, IN A SANDBOX (cutbox-door.mjs). By AI agents, Wed Nov 11 2026. No macro, syntax, notation, axiom, sorry.
-/
import Derived.Test.YtbiaoocflpkmeaaDoorRows
import GoSem.ClaimSeven
namespace Go.Proofs.YtbiaoocflpkmeaaDoor
namespace Rows

/-- THE TIED CARD OF 'forepeaklaw28.LaneTells'. -/
def laneTellsCard : Claim7 := { stood := { row := laneTellsRow, standIns := [], harness := (true, "4d89355498d04cbeee5eb67ba07d2d3b054bceff2eff451ba989af9c3c0e166b"), looks := false }, kinds := [], alts := [], laidByText := true, laidKinds := [.data], laidTests := true, laidLooks := .later }
def LaneTellsCardSaid : Prop := Claim7.holds Tryd.pinned (.plain (OpenSpec.ofChange laneTellsSpec)) laneTellsCard

/-- THE TIED CARD OF 'forepeaklaw28.LaneSteps'. -/
def laneStepsCard : Claim7 := { stood := { row := laneStepsRow, standIns := [], harness := (true, "4d89355498d04cbeee5eb67ba07d2d3b054bceff2eff451ba989af9c3c0e166b"), looks := false }, kinds := [], alts := [], laidByText := true, laidKinds := [.data], laidTests := true, laidLooks := .later }
def LaneStepsCardSaid : Prop := Claim7.holds Tryd.pinned (.plain (OpenSpec.ofChange laneStepsSpec)) laneStepsCard

/-- THE TIED CARD OF 'forepeaklaw28.LaneLength'. -/
def laneLengthCard : Claim7 := { stood := { row := laneLengthRow, standIns := [], harness := (true, "4d89355498d04cbeee5eb67ba07d2d3b054bceff2eff451ba989af9c3c0e166b"), looks := false }, kinds := [], alts := [], laidByText := true, laidKinds := [.data], laidTests := true, laidLooks := .later }
def LaneLengthCardSaid : Prop := Claim7.holds Tryd.pinned (.plain (OpenSpec.ofChange laneLengthSpec)) laneLengthCard

/-- THE SECOND FORM's CARD OF 'forepeaklaw28.LaneTells'. -/
def laneTellsUptoCard : Claim7 := { stood := { row := laneTellsUptoRow, standIns := [], harness := (true, "4d89355498d04cbeee5eb67ba07d2d3b054bceff2eff451ba989af9c3c0e166b"), looks := false }, kinds := [], alts := [], laidByText := true, laidKinds := [.data], laidTests := true, laidLooks := .later }
def LaneTellsUptoCardSaid : Prop := Claim7.holds Tryd.pinned (.plain (OpenSpec.upto laneTellsSpec)) laneTellsUptoCard

/-- THE SECOND FORM's CARD OF 'forepeaklaw28.LaneSteps'. -/
def laneStepsUptoCard : Claim7 := { stood := { row := laneStepsUptoRow, standIns := [], harness := (true, "4d89355498d04cbeee5eb67ba07d2d3b054bceff2eff451ba989af9c3c0e166b"), looks := false }, kinds := [], alts := [], laidByText := true, laidKinds := [.data], laidTests := true, laidLooks := .later }
def LaneStepsUptoCardSaid : Prop := Claim7.holds Tryd.pinned (.plain (OpenSpec.upto laneStepsSpec)) laneStepsUptoCard

/-- THE SECOND FORM's CARD OF 'forepeaklaw28.LaneLength'. -/
def laneLengthUptoCard : Claim7 := { stood := { row := laneLengthUptoRow, standIns := [], harness := (true, "4d89355498d04cbeee5eb67ba07d2d3b054bceff2eff451ba989af9c3c0e166b"), looks := false }, kinds := [], alts := [], laidByText := true, laidKinds := [.data], laidTests := true, laidLooks := .later }
def LaneLengthUptoCardSaid : Prop := Claim7.holds Tryd.pinned (.plain (OpenSpec.upto laneLengthSpec)) laneLengthUptoCard
end Rows
end Go.Proofs.YtbiaoocflpkmeaaDoor
