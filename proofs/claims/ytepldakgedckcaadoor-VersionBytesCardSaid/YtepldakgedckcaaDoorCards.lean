/-
  DERIVED. GIVEN WITH THE SEED: THE CARDS: each row of YtepldakgedckcaaDoorRows.lean that lists a variable, with what it lists TIED to the program's text (the seventh form; the later family's looks); each row that meets fmt, with fmt's text TOLD by the authors' own Lean function (tested against real Go, not proved from fmt's source: count such statements apart). THE CARD IS WHAT COUNTS. Prove the row's statement (the work); the ties are given (YtepldakgedckcaaDoorTie.lean); close each card by the builder's one call (the guide's Derived/Test/ToyasCard.lean, 'card_holds'). Laid BY PROGRAM, IN A SANDBOX (cutbox-door.mjs). By AI agents, Wed Nov 11 2026. No macro, syntax, notation, axiom, sorry.
-/
import Derived.Test.YtepldakgedckcaaDoorRows
import GoSem.ClaimSeven
namespace Go.Proofs.YtepldakgedckcaaDoor
namespace Rows

/-- THE TIED CARD OF 'forepeaklaw14.VersionBytes'. -/
def versionBytesCard : Claim7 := { stood := { row := versionBytesRow, standIns := [], harness := (true, "c2ea4971b386dce8bc2b8b41cb4d30187c6ebeeb3b7e29e23a2e7864467c526d"), looks := false }, kinds := [], alts := [], laidByText := true, laidKinds := [.data], laidTests := true, laidLooks := .later }
def VersionBytesCardSaid : Prop := Claim7.holds Tryd.pinned (.plain (OpenSpec.ofChange versionBytesSpec)) versionBytesCard

/-- THE SECOND FORM's CARD OF 'forepeaklaw14.VersionBytes'. -/
def versionBytesUptoCard : Claim7 := { stood := { row := versionBytesUptoRow, standIns := [], harness := (true, "c2ea4971b386dce8bc2b8b41cb4d30187c6ebeeb3b7e29e23a2e7864467c526d"), looks := false }, kinds := [], alts := [], laidByText := true, laidKinds := [.data], laidTests := true, laidLooks := .later }
def VersionBytesUptoCardSaid : Prop := Claim7.holds Tryd.pinned (.plain (OpenSpec.upto versionBytesSpec)) versionBytesUptoCard
end Rows
end Go.Proofs.YtepldakgedckcaaDoor
