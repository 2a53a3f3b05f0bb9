/-
  DERIVED. GIVEN WITH THE SEED: THE CARDS: each row of YteipepbijfdciaaDoorRows.lean that lists a variable, with what it lists TIED to the program's text (the seventh form; the later family's looks); each row that meets fmt, with fmt's text TOLD by the authors' own Lean function (tested against real Go, not proved from fmt's source: count such statements apart). THE CARD IS WHAT COUNTS. Prove the row's statement (the work); the ties are given (YteipepbijfdciaaDoorTie.lean); close each card by the builder's one call (the guide's Derived/Test/ToyasCard.lean, 'card_holds'). Laid BY PROGRAM, IN A SANDBOX (cutbox-door.mjs). By AI agents, Wed Nov 11 2026. No macro, syntax, notation, axiom, sorry.
-/
import Derived.Test.YteipepbijfdciaaDoorRows
import GoSem.ClaimSeven
namespace Go.Proofs.YteipepbijfdciaaDoor
namespace Rows

/-- THE TIED CARD OF 'forepeaklaw04.RelabelMoves'. -/
def relabelMovesCard : Claim7 := { stood := { row := relabelMovesRow, standIns := [], harness := (true, "81580e575c1d03343c2df42736975a3f74a33642be6eec0d5eae97fa417e907a"), looks := false }, kinds := [], alts := [], laidByText := true, laidKinds := [.data], laidTests := true, laidLooks := .later }
def RelabelMovesCardSaid : Prop := Claim7.holds Tryd.pinned (.plain (OpenSpec.ofChange relabelMovesSpec)) relabelMovesCard

/-- THE TIED CARD OF 'forepeaklaw04.RelabelTells'. -/
def relabelTellsCard : Claim7 := { stood := { row := relabelTellsRow, standIns := [], harness := (true, "81580e575c1d03343c2df42736975a3f74a33642be6eec0d5eae97fa417e907a"), looks := false }, kinds := [], alts := [], laidByText := true, laidKinds := [.data], laidTests := true, laidLooks := .later }
def RelabelTellsCardSaid : Prop := Claim7.holds Tryd.pinned (.plain (OpenSpec.ofChange relabelTellsSpec)) relabelTellsCard

/-- THE TIED CARD OF 'forepeaklaw04.RelabelKeeps'. -/
def relabelKeepsCard : Claim7 := { stood := { row := relabelKeepsRow, standIns := [], harness := (true, "81580e575c1d03343c2df42736975a3f74a33642be6eec0d5eae97fa417e907a"), looks := false }, kinds := [], alts := [], laidByText := true, laidKinds := [.data], laidTests := true, laidLooks := .later }
def RelabelKeepsCardSaid : Prop := Claim7.holds Tryd.pinned (.plain (OpenSpec.ofChange relabelKeepsSpec)) relabelKeepsCard

/-- THE TIED CARD OF 'forepeaklaw14.VersionBytes'. -/
def versionBytesCard : Claim7 := { stood := { row := versionBytesRow, standIns := [], harness := (true, "81580e575c1d03343c2df42736975a3f74a33642be6eec0d5eae97fa417e907a"), looks := false }, kinds := [], alts := [], laidByText := true, laidKinds := [.data], laidTests := true, laidLooks := .later }
def VersionBytesCardSaid : Prop := Claim7.holds Tryd.pinned (.plain (OpenSpec.ofChange versionBytesSpec)) versionBytesCard

/-- THE SECOND FORM's CARD OF 'forepeaklaw04.RelabelMoves'. -/
def relabelMovesUptoCard : Claim7 := { stood := { row := relabelMovesUptoRow, standIns := [], harness := (true, "81580e575c1d03343c2df42736975a3f74a33642be6eec0d5eae97fa417e907a"), looks := false }, kinds := [], alts := [], laidByText := true, laidKinds := [.data], laidTests := true, laidLooks := .later }
def RelabelMovesUptoCardSaid : Prop := Claim7.holds Tryd.pinned (.plain (OpenSpec.upto relabelMovesSpec)) relabelMovesUptoCard

/-- THE SECOND FORM's CARD OF 'forepeaklaw04.RelabelTells'. -/
def relabelTellsUptoCard : Claim7 := { stood := { row := relabelTellsUptoRow, standIns := [], harness := (true, "81580e575c1d03343c2df42736975a3f74a33642be6eec0d5eae97fa417e907a"), looks := false }, kinds := [], alts := [], laidByText := true, laidKinds := [.data], laidTests := true, laidLooks := .later }
def RelabelTellsUptoCardSaid : Prop := Claim7.holds Tryd.pinned (.plain (OpenSpec.upto relabelTellsSpec)) relabelTellsUptoCard

/-- THE SECOND FORM's CARD OF 'forepeaklaw04.RelabelKeeps'. -/
def relabelKeepsUptoCard : Claim7 := { stood := { row := relabelKeepsUptoRow, standIns := [], harness := (true, "81580e575c1d03343c2df42736975a3f74a33642be6eec0d5eae97fa417e907a"), looks := false }, kinds := [], alts := [], laidByText := true, laidKinds := [.data], laidTests := true, laidLooks := .later }
def RelabelKeepsUptoCardSaid : Prop := Claim7.holds Tryd.pinned (.plain (OpenSpec.upto relabelKeepsSpec)) relabelKeepsUptoCard

/-- THE SECOND FORM's CARD OF 'forepeaklaw14.VersionBytes'. -/
def versionBytesUptoCard : Claim7 := { stood := { row := versionBytesUptoRow, standIns := [], harness := (true, "81580e575c1d03343c2df42736975a3f74a33642be6eec0d5eae97fa417e907a"), looks := false }, kinds := [], alts := [], laidByText := true, laidKinds := [.data], laidTests := true, laidLooks := .later }
def VersionBytesUptoCardSaid : Prop := Claim7.holds Tryd.pinned (.plain (OpenSpec.upto versionBytesSpec)) versionBytesUptoCard
end Rows
end Go.Proofs.YteipepbijfdciaaDoor
