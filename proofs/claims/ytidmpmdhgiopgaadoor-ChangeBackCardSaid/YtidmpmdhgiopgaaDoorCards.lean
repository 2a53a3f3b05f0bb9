/-
  DERIVED. GIVEN WITH THE SEED: THE CARDS: each row of YtidmpmdhgiopgaaDoorRows.lean that lists a variable, with what it lists TIED to the program's text (the seventh form; the later family's looks); each row that meets fmt, with fmt's text TOLD by the authors' own Lean function (tested against real Go, not proved from fmt's source: count such statements apart). THE CARD IS WHAT COUNTS. Prove the row's statement (the work); the ties are given (YtidmpmdhgiopgaaDoorTie.lean); close each card by the builder's one call (the guide's Derived/Test/ToyasCard.lean, 'card_holds'). Laid BY PROGRAM, IN A SANDBOX (cutbox-door.mjs). By AI agents, Wed Nov 11 2026. No macro, syntax, notation, axiom, sorry.
-/
import Derived.Test.YtidmpmdhgiopgaaDoorRows
import GoSem.ClaimSeven
namespace Go.Proofs.YtidmpmdhgiopgaaDoor
namespace Rows

/-- THE TIED CARD OF 'forepeaklaw31.StampOnes'. -/
def stampOnesCard : Claim7 := { stood := { row := stampOnesRow, standIns := [], harness := (true, "3532d26839e7d76c0659fbbc82b725862a12fcc40ab0d2937d0e4dc63505f25b"), looks := false }, kinds := [], alts := [], laidByText := true, laidKinds := [.data], laidTests := true, laidLooks := .later }
def StampOnesCardSaid : Prop := Claim7.holds Tryd.pinned (.plain (OpenSpec.ofChange stampOnesSpec)) stampOnesCard

/-- THE TIED CARD OF 'forepeaklaw31.StampLanes'. -/
def stampLanesCard : Claim7 := { stood := { row := stampLanesRow, standIns := [], harness := (true, "3532d26839e7d76c0659fbbc82b725862a12fcc40ab0d2937d0e4dc63505f25b"), looks := false }, kinds := [], alts := [], laidByText := true, laidKinds := [.data], laidTests := true, laidLooks := .later }
def StampLanesCardSaid : Prop := Claim7.holds Tryd.pinned (.plain (OpenSpec.ofChange stampLanesSpec)) stampLanesCard

/-- THE TIED CARD OF 'forepeaklaw32.ReleaseKeeps'. -/
def releaseKeepsCard : Claim7 := { stood := { row := releaseKeepsRow, standIns := [], harness := (true, "3532d26839e7d76c0659fbbc82b725862a12fcc40ab0d2937d0e4dc63505f25b"), looks := false }, kinds := [], alts := [], laidByText := true, laidKinds := [.data], laidTests := true, laidLooks := .later }
def ReleaseKeepsCardSaid : Prop := Claim7.holds Tryd.pinned (.plain (OpenSpec.ofChange releaseKeepsSpec)) releaseKeepsCard

/-- THE TIED CARD OF 'forepeaklaw32.ReleaseLets'. -/
def releaseLetsCard : Claim7 := { stood := { row := releaseLetsRow, standIns := [], harness := (true, "3532d26839e7d76c0659fbbc82b725862a12fcc40ab0d2937d0e4dc63505f25b"), looks := false }, kinds := [], alts := [], laidByText := true, laidKinds := [.data], laidTests := true, laidLooks := .later }
def ReleaseLetsCardSaid : Prop := Claim7.holds Tryd.pinned (.plain (OpenSpec.ofChange releaseLetsSpec)) releaseLetsCard

/-- THE TIED CARD OF 'forepeaklaw32.ReleaseFlows'. -/
def releaseFlowsCard : Claim7 := { stood := { row := releaseFlowsRow, standIns := [], harness := (true, "3532d26839e7d76c0659fbbc82b725862a12fcc40ab0d2937d0e4dc63505f25b"), looks := false }, kinds := [], alts := [], laidByText := true, laidKinds := [.data], laidTests := true, laidLooks := .later }
def ReleaseFlowsCardSaid : Prop := Claim7.holds Tryd.pinned (.plain (OpenSpec.ofChange releaseFlowsSpec)) releaseFlowsCard

/-- THE TIED CARD OF 'forepeaklaw13.ChangeOnes'. -/
def changeOnesCard : Claim7 := { stood := { row := changeOnesRow, standIns := [], harness := (true, "3532d26839e7d76c0659fbbc82b725862a12fcc40ab0d2937d0e4dc63505f25b"), looks := false }, kinds := [], alts := [], laidByText := true, laidKinds := [.data], laidTests := true, laidLooks := .later }
def ChangeOnesCardSaid : Prop := Claim7.holds Tryd.pinned (.plain (OpenSpec.ofChange changeOnesSpec)) changeOnesCard

/-- THE TIED CARD OF 'forepeaklaw13.ChangeHides'. -/
def changeHidesCard : Claim7 := { stood := { row := changeHidesRow, standIns := [], harness := (true, "3532d26839e7d76c0659fbbc82b725862a12fcc40ab0d2937d0e4dc63505f25b"), looks := false }, kinds := [], alts := [], laidByText := true, laidKinds := [.data], laidTests := true, laidLooks := .later }
def ChangeHidesCardSaid : Prop := Claim7.holds Tryd.pinned (.plain (OpenSpec.ofChange changeHidesSpec)) changeHidesCard

/-- THE TIED CARD OF 'forepeaklaw13.ChangeBack'. -/
def changeBackCard : Claim7 := { stood := { row := changeBackRow, standIns := [], harness := (true, "3532d26839e7d76c0659fbbc82b725862a12fcc40ab0d2937d0e4dc63505f25b"), looks := false }, kinds := [], alts := [], laidByText := true, laidKinds := [.data], laidTests := true, laidLooks := .later }
def ChangeBackCardSaid : Prop := Claim7.holds Tryd.pinned (.plain (OpenSpec.ofChange changeBackSpec)) changeBackCard

/-- THE TIED CARD OF 'forepeaklaw13.ChangeBytes'. -/
def changeBytesCard : Claim7 := { stood := { row := changeBytesRow, standIns := [], harness := (true, "3532d26839e7d76c0659fbbc82b725862a12fcc40ab0d2937d0e4dc63505f25b"), looks := false }, kinds := [], alts := [], laidByText := true, laidKinds := [.data], laidTests := true, laidLooks := .later }
def ChangeBytesCardSaid : Prop := Claim7.holds Tryd.pinned (.plain (OpenSpec.ofChange changeBytesSpec)) changeBytesCard

/-- THE TIED CARD OF 'forepeaklaw13.ChangeAll'. -/
def changeAllCard : Claim7 := { stood := { row := changeAllRow, standIns := [], harness := (true, "3532d26839e7d76c0659fbbc82b725862a12fcc40ab0d2937d0e4dc63505f25b"), looks := false }, kinds := [], alts := [], laidByText := true, laidKinds := [.data], laidTests := true, laidLooks := .later }
def ChangeAllCardSaid : Prop := Claim7.holds Tryd.pinned (.plain (OpenSpec.ofChange changeAllSpec)) changeAllCard

/-- THE TIED CARD OF 'forepeaklaw32.ReleaseAll'. -/
def releaseAllCard : Claim7 := { stood := { row := releaseAllRow, standIns := [], harness := (true, "3532d26839e7d76c0659fbbc82b725862a12fcc40ab0d2937d0e4dc63505f25b"), looks := false }, kinds := [], alts := [], laidByText := true, laidKinds := [.data], laidTests := true, laidLooks := .later }
def ReleaseAllCardSaid : Prop := Claim7.holds Tryd.pinned (.plain (OpenSpec.ofChange releaseAllSpec)) releaseAllCard

/-- THE TIED CARD OF 'forepeaklaw31.StampMay'. -/
def stampMayCard : Claim7 := { stood := { row := stampMayRow, standIns := [], harness := (true, "3532d26839e7d76c0659fbbc82b725862a12fcc40ab0d2937d0e4dc63505f25b"), looks := false }, kinds := [], alts := [], laidByText := true, laidKinds := [.data], laidTests := true, laidLooks := .later }
def StampMayCardSaid : Prop := Claim7.holds Tryd.pinned (.plain (OpenSpec.ofChange stampMaySpec)) stampMayCard

/-- THE SECOND FORM's CARD OF 'forepeaklaw31.StampOnes'. -/
def stampOnesUptoCard : Claim7 := { stood := { row := stampOnesUptoRow, standIns := [], harness := (true, "3532d26839e7d76c0659fbbc82b725862a12fcc40ab0d2937d0e4dc63505f25b"), looks := false }, kinds := [], alts := [], laidByText := true, laidKinds := [.data], laidTests := true, laidLooks := .later }
def StampOnesUptoCardSaid : Prop := Claim7.holds Tryd.pinned (.plain (OpenSpec.upto stampOnesSpec)) stampOnesUptoCard

/-- THE SECOND FORM's CARD OF 'forepeaklaw31.StampLanes'. -/
def stampLanesUptoCard : Claim7 := { stood := { row := stampLanesUptoRow, standIns := [], harness := (true, "3532d26839e7d76c0659fbbc82b725862a12fcc40ab0d2937d0e4dc63505f25b"), looks := false }, kinds := [], alts := [], laidByText := true, laidKinds := [.data], laidTests := true, laidLooks := .later }
def StampLanesUptoCardSaid : Prop := Claim7.holds Tryd.pinned (.plain (OpenSpec.upto stampLanesSpec)) stampLanesUptoCard

/-- THE SECOND FORM's CARD OF 'forepeaklaw32.ReleaseKeeps'. -/
def releaseKeepsUptoCard : Claim7 := { stood := { row := releaseKeepsUptoRow, standIns := [], harness := (true, "3532d26839e7d76c0659fbbc82b725862a12fcc40ab0d2937d0e4dc63505f25b"), looks := false }, kinds := [], alts := [], laidByText := true, laidKinds := [.data], laidTests := true, laidLooks := .later }
def ReleaseKeepsUptoCardSaid : Prop := Claim7.holds Tryd.pinned (.plain (OpenSpec.upto releaseKeepsSpec)) releaseKeepsUptoCard

/-- THE SECOND FORM's CARD OF 'forepeaklaw32.ReleaseLets'. -/
def releaseLetsUptoCard : Claim7 := { stood := { row := releaseLetsUptoRow, standIns := [], harness := (true, "3532d26839e7d76c0659fbbc82b725862a12fcc40ab0d2937d0e4dc63505f25b"), looks := false }, kinds := [], alts := [], laidByText := true, laidKinds := [.data], laidTests := true, laidLooks := .later }
def ReleaseLetsUptoCardSaid : Prop := Claim7.holds Tryd.pinned (.plain (OpenSpec.upto releaseLetsSpec)) releaseLetsUptoCard

/-- THE SECOND FORM's CARD OF 'forepeaklaw32.ReleaseFlows'. -/
def releaseFlowsUptoCard : Claim7 := { stood := { row := releaseFlowsUptoRow, standIns := [], harness := (true, "3532d26839e7d76c0659fbbc82b725862a12fcc40ab0d2937d0e4dc63505f25b"), looks := false }, kinds := [], alts := [], laidByText := true, laidKinds := [.data], laidTests := true, laidLooks := .later }
def ReleaseFlowsUptoCardSaid : Prop := Claim7.holds Tryd.pinned (.plain (OpenSpec.upto releaseFlowsSpec)) releaseFlowsUptoCard

/-- THE SECOND FORM's CARD OF 'forepeaklaw13.ChangeOnes'. -/
def changeOnesUptoCard : Claim7 := { stood := { row := changeOnesUptoRow, standIns := [], harness := (true, "3532d26839e7d76c0659fbbc82b725862a12fcc40ab0d2937d0e4dc63505f25b"), looks := false }, kinds := [], alts := [], laidByText := true, laidKinds := [.data], laidTests := true, laidLooks := .later }
def ChangeOnesUptoCardSaid : Prop := Claim7.holds Tryd.pinned (.plain (OpenSpec.upto changeOnesSpec)) changeOnesUptoCard

/-- THE SECOND FORM's CARD OF 'forepeaklaw13.ChangeHides'. -/
def changeHidesUptoCard : Claim7 := { stood := { row := changeHidesUptoRow, standIns := [], harness := (true, "3532d26839e7d76c0659fbbc82b725862a12fcc40ab0d2937d0e4dc63505f25b"), looks := false }, kinds := [], alts := [], laidByText := true, laidKinds := [.data], laidTests := true, laidLooks := .later }
def ChangeHidesUptoCardSaid : Prop := Claim7.holds Tryd.pinned (.plain (OpenSpec.upto changeHidesSpec)) changeHidesUptoCard

/-- THE SECOND FORM's CARD OF 'forepeaklaw13.ChangeBack'. -/
def changeBackUptoCard : Claim7 := { stood := { row := changeBackUptoRow, standIns := [], harness := (true, "3532d26839e7d76c0659fbbc82b725862a12fcc40ab0d2937d0e4dc63505f25b"), looks := false }, kinds := [], alts := [], laidByText := true, laidKinds := [.data], laidTests := true, laidLooks := .later }
def ChangeBackUptoCardSaid : Prop := Claim7.holds Tryd.pinned (.plain (OpenSpec.upto changeBackSpec)) changeBackUptoCard

/-- THE SECOND FORM's CARD OF 'forepeaklaw13.ChangeBytes'. -/
def changeBytesUptoCard : Claim7 := { stood := { row := changeBytesUptoRow, standIns := [], harness := (true, "3532d26839e7d76c0659fbbc82b725862a12fcc40ab0d2937d0e4dc63505f25b"), looks := false }, kinds := [], alts := [], laidByText := true, laidKinds := [.data], laidTests := true, laidLooks := .later }
def ChangeBytesUptoCardSaid : Prop := Claim7.holds Tryd.pinned (.plain (OpenSpec.upto changeBytesSpec)) changeBytesUptoCard

/-- THE SECOND FORM's CARD OF 'forepeaklaw13.ChangeAll'. -/
def changeAllUptoCard : Claim7 := { stood := { row := changeAllUptoRow, standIns := [], harness := (true, "3532d26839e7d76c0659fbbc82b725862a12fcc40ab0d2937d0e4dc63505f25b"), looks := false }, kinds := [], alts := [], laidByText := true, laidKinds := [.data], laidTests := true, laidLooks := .later }
def ChangeAllUptoCardSaid : Prop := Claim7.holds Tryd.pinned (.plain (OpenSpec.upto changeAllSpec)) changeAllUptoCard

/-- THE SECOND FORM's CARD OF 'forepeaklaw32.ReleaseAll'. -/
def releaseAllUptoCard : Claim7 := { stood := { row := releaseAllUptoRow, standIns := [], harness := (true, "3532d26839e7d76c0659fbbc82b725862a12fcc40ab0d2937d0e4dc63505f25b"), looks := false }, kinds := [], alts := [], laidByText := true, laidKinds := [.data], laidTests := true, laidLooks := .later }
def ReleaseAllUptoCardSaid : Prop := Claim7.holds Tryd.pinned (.plain (OpenSpec.upto releaseAllSpec)) releaseAllUptoCard

/-- THE SECOND FORM's CARD OF 'forepeaklaw31.StampMay'. -/
def stampMayUptoCard : Claim7 := { stood := { row := stampMayUptoRow, standIns := [], harness := (true, "3532d26839e7d76c0659fbbc82b725862a12fcc40ab0d2937d0e4dc63505f25b"), looks := false }, kinds := [], alts := [], laidByText := true, laidKinds := [.data], laidTests := true, laidLooks := .later }
def StampMayUptoCardSaid : Prop := Claim7.holds Tryd.pinned (.plain (OpenSpec.upto stampMaySpec)) stampMayUptoCard
end Rows
end Go.Proofs.YtidmpmdhgiopgaaDoor
