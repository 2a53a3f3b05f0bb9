/-
  DERIVED. GIVEN WITH THE SEED: THE CARDS: each row of YtjdkjlmcnpjohaaDoorRows.lean that lists a variable, with what it lists TIED to the program's text (the seventh form; the later family's looks); each row that meets fmt, with fmt's text TOLD by the authors' own Lean function (tested against real Go, not proved from fmt's source: count such statements apart). THE CARD IS WHAT COUNTS. Prove the row's statement (the work); the ties are given (YtjdkjlmcnpjohaaDoorTie.lean); close each card by the builder's one call (the guide's Derived/Test/ToyasCard.lean, 'card_holds'). Laid BY PROGRAM, IN A SANDBOX (cutbox-door.mjs). By AI agents, Wed Nov 11 2026. No macro, syntax, notation, axiom, sorry.
-/
import Derived.Test.YtjdkjlmcnpjohaaDoorRows
import GoSem.ClaimSeven
namespace Go.Proofs.YtjdkjlmcnpjohaaDoor
namespace Rows

/-- THE TIED CARD OF 'forepeaklaw29.FenceTells'. -/
def fenceTellsCard : Claim7 := { stood := { row := fenceTellsRow, standIns := [], harness := (true, "4e371b973b4f315001b6451ff0bae97aeb2d48f3c2cb7a8c8549c49562fa636d"), looks := false }, kinds := [], alts := [], laidByText := true, laidKinds := [.data], laidTests := true, laidLooks := .later }
def FenceTellsCardSaid : Prop := Claim7.holds Tryd.pinned (.plain (OpenSpec.ofChange fenceTellsSpec)) fenceTellsCard

/-- THE TIED CARD OF 'forepeaklaw29.FenceFew'. -/
def fenceFewCard : Claim7 := { stood := { row := fenceFewRow, standIns := [], harness := (true, "4e371b973b4f315001b6451ff0bae97aeb2d48f3c2cb7a8c8549c49562fa636d"), looks := false }, kinds := [], alts := [], laidByText := true, laidKinds := [.data], laidTests := true, laidLooks := .later }
def FenceFewCardSaid : Prop := Claim7.holds Tryd.pinned (.plain (OpenSpec.ofChange fenceFewSpec)) fenceFewCard

/-- THE TIED CARD OF 'forepeaklaw29.FenceFlows'. -/
def fenceFlowsCard : Claim7 := { stood := { row := fenceFlowsRow, standIns := [], harness := (true, "4e371b973b4f315001b6451ff0bae97aeb2d48f3c2cb7a8c8549c49562fa636d"), looks := false }, kinds := [], alts := [], laidByText := true, laidKinds := [.data], laidTests := true, laidLooks := .later }
def FenceFlowsCardSaid : Prop := Claim7.holds Tryd.pinned (.plain (OpenSpec.ofChange fenceFlowsSpec)) fenceFlowsCard

/-- THE TIED CARD OF 'forepeaklaw22.MessageTells'. -/
def messageTellsCard : Claim7 := { stood := { row := messageTellsRow, standIns := [], harness := (true, "4e371b973b4f315001b6451ff0bae97aeb2d48f3c2cb7a8c8549c49562fa636d"), looks := false }, kinds := [], alts := [], laidByText := true, laidKinds := [.data], laidTests := true, laidLooks := .later }
def MessageTellsCardSaid : Prop := Claim7.holds Tryd.pinned (.plain (OpenSpec.ofChange messageTellsSpec)) messageTellsCard

/-- THE TIED CARD OF 'forepeaklaw22.MessageBytes'. -/
def messageBytesCard : Claim7 := { stood := { row := messageBytesRow, standIns := [], harness := (true, "4e371b973b4f315001b6451ff0bae97aeb2d48f3c2cb7a8c8549c49562fa636d"), looks := false }, kinds := [], alts := [], laidByText := true, laidKinds := [.data], laidTests := true, laidLooks := .later }
def MessageBytesCardSaid : Prop := Claim7.holds Tryd.pinned (.plain (OpenSpec.ofChange messageBytesSpec)) messageBytesCard

/-- THE TIED CARD OF 'forepeaklaw12.PolicyTells'. -/
def policyTellsCard : Claim7 := { stood := { row := policyTellsRow, standIns := [], harness := (true, "4e371b973b4f315001b6451ff0bae97aeb2d48f3c2cb7a8c8549c49562fa636d"), looks := false }, kinds := [], alts := [], laidByText := true, laidKinds := [.data], laidTests := true, laidLooks := .later }
def PolicyTellsCardSaid : Prop := Claim7.holds Tryd.pinned (.plain (OpenSpec.ofChange policyTellsSpec)) policyTellsCard

/-- THE TIED CARD OF 'forepeaklaw12.PolicyHides'. -/
def policyHidesCard : Claim7 := { stood := { row := policyHidesRow, standIns := [], harness := (true, "4e371b973b4f315001b6451ff0bae97aeb2d48f3c2cb7a8c8549c49562fa636d"), looks := false }, kinds := [], alts := [], laidByText := true, laidKinds := [.data], laidTests := true, laidLooks := .later }
def PolicyHidesCardSaid : Prop := Claim7.holds Tryd.pinned (.plain (OpenSpec.ofChange policyHidesSpec)) policyHidesCard

/-- THE TIED CARD OF 'forepeaklaw12.PolicyMore'. -/
def policyMoreCard : Claim7 := { stood := { row := policyMoreRow, standIns := [], harness := (true, "4e371b973b4f315001b6451ff0bae97aeb2d48f3c2cb7a8c8549c49562fa636d"), looks := false }, kinds := [], alts := [], laidByText := true, laidKinds := [.data], laidTests := true, laidLooks := .later }
def PolicyMoreCardSaid : Prop := Claim7.holds Tryd.pinned (.plain (OpenSpec.ofChange policyMoreSpec)) policyMoreCard

/-- THE TIED CARD OF 'forepeaklaw12.PolicyBytes'. -/
def policyBytesCard : Claim7 := { stood := { row := policyBytesRow, standIns := [], harness := (true, "4e371b973b4f315001b6451ff0bae97aeb2d48f3c2cb7a8c8549c49562fa636d"), looks := false }, kinds := [], alts := [], laidByText := true, laidKinds := [.data], laidTests := true, laidLooks := .later }
def PolicyBytesCardSaid : Prop := Claim7.holds Tryd.pinned (.plain (OpenSpec.ofChange policyBytesSpec)) policyBytesCard

/-- THE TIED CARD OF 'forepeaklaw12.PolicyMaps'. -/
def policyMapsCard : Claim7 := { stood := { row := policyMapsRow, standIns := [], harness := (true, "4e371b973b4f315001b6451ff0bae97aeb2d48f3c2cb7a8c8549c49562fa636d"), looks := false }, kinds := [], alts := [], laidByText := true, laidKinds := [.data], laidTests := true, laidLooks := .later }
def PolicyMapsCardSaid : Prop := Claim7.holds Tryd.pinned (.plain (OpenSpec.ofChange policyMapsSpec)) policyMapsCard

/-- THE SECOND FORM's CARD OF 'forepeaklaw29.FenceTells'. -/
def fenceTellsUptoCard : Claim7 := { stood := { row := fenceTellsUptoRow, standIns := [], harness := (true, "4e371b973b4f315001b6451ff0bae97aeb2d48f3c2cb7a8c8549c49562fa636d"), looks := false }, kinds := [], alts := [], laidByText := true, laidKinds := [.data], laidTests := true, laidLooks := .later }
def FenceTellsUptoCardSaid : Prop := Claim7.holds Tryd.pinned (.plain (OpenSpec.upto fenceTellsSpec)) fenceTellsUptoCard

/-- THE SECOND FORM's CARD OF 'forepeaklaw29.FenceFew'. -/
def fenceFewUptoCard : Claim7 := { stood := { row := fenceFewUptoRow, standIns := [], harness := (true, "4e371b973b4f315001b6451ff0bae97aeb2d48f3c2cb7a8c8549c49562fa636d"), looks := false }, kinds := [], alts := [], laidByText := true, laidKinds := [.data], laidTests := true, laidLooks := .later }
def FenceFewUptoCardSaid : Prop := Claim7.holds Tryd.pinned (.plain (OpenSpec.upto fenceFewSpec)) fenceFewUptoCard

/-- THE SECOND FORM's CARD OF 'forepeaklaw29.FenceFlows'. -/
def fenceFlowsUptoCard : Claim7 := { stood := { row := fenceFlowsUptoRow, standIns := [], harness := (true, "4e371b973b4f315001b6451ff0bae97aeb2d48f3c2cb7a8c8549c49562fa636d"), looks := false }, kinds := [], alts := [], laidByText := true, laidKinds := [.data], laidTests := true, laidLooks := .later }
def FenceFlowsUptoCardSaid : Prop := Claim7.holds Tryd.pinned (.plain (OpenSpec.upto fenceFlowsSpec)) fenceFlowsUptoCard

/-- THE SECOND FORM's CARD OF 'forepeaklaw22.MessageTells'. -/
def messageTellsUptoCard : Claim7 := { stood := { row := messageTellsUptoRow, standIns := [], harness := (true, "4e371b973b4f315001b6451ff0bae97aeb2d48f3c2cb7a8c8549c49562fa636d"), looks := false }, kinds := [], alts := [], laidByText := true, laidKinds := [.data], laidTests := true, laidLooks := .later }
def MessageTellsUptoCardSaid : Prop := Claim7.holds Tryd.pinned (.plain (OpenSpec.upto messageTellsSpec)) messageTellsUptoCard

/-- THE SECOND FORM's CARD OF 'forepeaklaw22.MessageBytes'. -/
def messageBytesUptoCard : Claim7 := { stood := { row := messageBytesUptoRow, standIns := [], harness := (true, "4e371b973b4f315001b6451ff0bae97aeb2d48f3c2cb7a8c8549c49562fa636d"), looks := false }, kinds := [], alts := [], laidByText := true, laidKinds := [.data], laidTests := true, laidLooks := .later }
def MessageBytesUptoCardSaid : Prop := Claim7.holds Tryd.pinned (.plain (OpenSpec.upto messageBytesSpec)) messageBytesUptoCard

/-- THE SECOND FORM's CARD OF 'forepeaklaw12.PolicyTells'. -/
def policyTellsUptoCard : Claim7 := { stood := { row := policyTellsUptoRow, standIns := [], harness := (true, "4e371b973b4f315001b6451ff0bae97aeb2d48f3c2cb7a8c8549c49562fa636d"), looks := false }, kinds := [], alts := [], laidByText := true, laidKinds := [.data], laidTests := true, laidLooks := .later }
def PolicyTellsUptoCardSaid : Prop := Claim7.holds Tryd.pinned (.plain (OpenSpec.upto policyTellsSpec)) policyTellsUptoCard

/-- THE SECOND FORM's CARD OF 'forepeaklaw12.PolicyHides'. -/
def policyHidesUptoCard : Claim7 := { stood := { row := policyHidesUptoRow, standIns := [], harness := (true, "4e371b973b4f315001b6451ff0bae97aeb2d48f3c2cb7a8c8549c49562fa636d"), looks := false }, kinds := [], alts := [], laidByText := true, laidKinds := [.data], laidTests := true, laidLooks := .later }
def PolicyHidesUptoCardSaid : Prop := Claim7.holds Tryd.pinned (.plain (OpenSpec.upto policyHidesSpec)) policyHidesUptoCard

/-- THE SECOND FORM's CARD OF 'forepeaklaw12.PolicyMore'. -/
def policyMoreUptoCard : Claim7 := { stood := { row := policyMoreUptoRow, standIns := [], harness := (true, "4e371b973b4f315001b6451ff0bae97aeb2d48f3c2cb7a8c8549c49562fa636d"), looks := false }, kinds := [], alts := [], laidByText := true, laidKinds := [.data], laidTests := true, laidLooks := .later }
def PolicyMoreUptoCardSaid : Prop := Claim7.holds Tryd.pinned (.plain (OpenSpec.upto policyMoreSpec)) policyMoreUptoCard

/-- THE SECOND FORM's CARD OF 'forepeaklaw12.PolicyBytes'. -/
def policyBytesUptoCard : Claim7 := { stood := { row := policyBytesUptoRow, standIns := [], harness := (true, "4e371b973b4f315001b6451ff0bae97aeb2d48f3c2cb7a8c8549c49562fa636d"), looks := false }, kinds := [], alts := [], laidByText := true, laidKinds := [.data], laidTests := true, laidLooks := .later }
def PolicyBytesUptoCardSaid : Prop := Claim7.holds Tryd.pinned (.plain (OpenSpec.upto policyBytesSpec)) policyBytesUptoCard

/-- THE SECOND FORM's CARD OF 'forepeaklaw12.PolicyMaps'. -/
def policyMapsUptoCard : Claim7 := { stood := { row := policyMapsUptoRow, standIns := [], harness := (true, "4e371b973b4f315001b6451ff0bae97aeb2d48f3c2cb7a8c8549c49562fa636d"), looks := false }, kinds := [], alts := [], laidByText := true, laidKinds := [.data], laidTests := true, laidLooks := .later }
def PolicyMapsUptoCardSaid : Prop := Claim7.holds Tryd.pinned (.plain (OpenSpec.upto policyMapsSpec)) policyMapsUptoCard
end Rows
end Go.Proofs.YtjdkjlmcnpjohaaDoor
