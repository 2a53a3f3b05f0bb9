/-
  No cell of these rows narrows 'for every input' (looked for: loops, veiled, ifaces, maps, wideKeys, modest, calm, conditions, laid).
  DERIVED. THE GIVEN ROWS OF THIS SEAT. 8 by the template 'for every input the law returns true; each argument reads behind the call as it read before'; 0 by the template 'total and deterministic' (their statements: YteipepbijfdciaaTotals.lean).
  GIVEN WITH THE SEED: the statements are not yours to turn. If you find one false, say at which input.
  Laid BY PROGRAM, IN A SANDBOX (cutbox-rows.mjs): the forced cells as the released guide's own fill.sh prints them over the translation 9b7f0080e32f3c28… (all of the seat's roots in one cut). By AI agents, Wed Nov 11 2026. No macro, syntax, notation, axiom, sorry.
-/
import Derived.Test.YteipepbijfdciaaChecked
import GoSem.Claim
import GoSem.ClaimJoined
import GoSem.ClaimMapViews
import Derived.JoinedTies
import Derived.KernelRfl
namespace Go.Proofs.Yteipepbijfdciaa
/- THE CELL 'sum', in the pinned program and in every row, IS THE sha256 OF THE DUMP (.gsa) THAT YteipepbijfdciaaProg.lean LOADS. Nothing in Lean hashes anything: it is a label: what it is worth is what the hold of that sum in a sandbox is worth. -/
noncomputable def Try.pinned : Pinned := { name := "yteipepbijfdciaa", sum := "9b7f0080e32f3c2801fdbf61eff371404c4ff2c07e6ebe802e931a62c0219f78", checked := Try.checked }
namespace Rows
def none {H : Type} : Left H := { results := [], args := [] }

/-- 'forepeaklaw14.VersionPlays': WHATEVER THE INPUT: true; the input reads as it did. -/
def versionPlaysSpec : ChangeSpec := { name := "versionPlays", fn := fun _ => fun
  | [d1, d2] => { results := [.lit (.bool true)], args := [d1, d2] }
  | _ => none }
def versionPlaysRow : OpenClaim := { program := "yteipepbijfdciaa", sum := "9b7f0080e32f3c2801fdbf61eff371404c4ff2c07e6ebe802e931a62c0219f78", func := "forepeak/forepeaklaw14.VersionPlays", spec := "versionPlays", apart := false }
def VersionPlaysSaid : Prop := versionPlaysRow.holds Try.pinned (OpenSpec.ofChange versionPlaysSpec)

/-- ITS FALSE NEIGHBOUR: 'it returns false'. Refute it at one input. -/
def versionPlaysWrong : ChangeSpec := { name := "versionPlays", fn := fun _ => fun
  | [d1, d2] => { results := [.lit (.bool false)], args := [d1, d2] }
  | _ => none }
def VersionPlaysWrongFalsely : Prop := versionPlaysRow.holds Try.pinned (OpenSpec.ofChange versionPlaysWrong)

/-- 'forepeaklaw14.VersionOf': WHATEVER THE INPUT: true; the input reads as it did. -/
def versionOfSpec : ChangeSpec := { name := "versionOf", fn := fun _ => fun
  | [d1, d2, d3] => { results := [.lit (.bool true)], args := [d1, d2, d3] }
  | _ => none }
def versionOfRow : OpenClaim := { program := "yteipepbijfdciaa", sum := "9b7f0080e32f3c2801fdbf61eff371404c4ff2c07e6ebe802e931a62c0219f78", func := "forepeak/forepeaklaw14.VersionOf", spec := "versionOf", apart := false }
def VersionOfSaid : Prop := versionOfRow.holds Try.pinned (OpenSpec.ofChange versionOfSpec)

/-- ITS FALSE NEIGHBOUR: 'it returns false'. Refute it at one input. -/
def versionOfWrong : ChangeSpec := { name := "versionOf", fn := fun _ => fun
  | [d1, d2, d3] => { results := [.lit (.bool false)], args := [d1, d2, d3] }
  | _ => none }
def VersionOfWrongFalsely : Prop := versionOfRow.holds Try.pinned (OpenSpec.ofChange versionOfWrong)

/-- 'forepeaklaw14.VersionKeeps': WHATEVER THE INPUT: true; the input reads as it did. -/
def versionKeepsSpec : ChangeSpec := { name := "versionKeeps", fn := fun _ => fun
  | [d] => { results := [.lit (.bool true)], args := [d] }
  | _ => none }
def versionKeepsRow : OpenClaim := { program := "yteipepbijfdciaa", sum := "9b7f0080e32f3c2801fdbf61eff371404c4ff2c07e6ebe802e931a62c0219f78", func := "forepeak/forepeaklaw14.VersionKeeps", spec := "versionKeeps", apart := false }
def VersionKeepsSaid : Prop := versionKeepsRow.holds Try.pinned (OpenSpec.ofChange versionKeepsSpec)

/-- ITS FALSE NEIGHBOUR: 'it returns false'. Refute it at one input. -/
def versionKeepsWrong : ChangeSpec := { name := "versionKeeps", fn := fun _ => fun
  | [d] => { results := [.lit (.bool false)], args := [d] }
  | _ => none }
def VersionKeepsWrongFalsely : Prop := versionKeepsRow.holds Try.pinned (OpenSpec.ofChange versionKeepsWrong)

/-- 'forepeaklaw14.VersionNobody': WHATEVER THE INPUT: true; the input reads as it did. -/
def versionNobodySpec : ChangeSpec := { name := "versionNobody", fn := fun _ => fun
  | [d] => { results := [.lit (.bool true)], args := [d] }
  | _ => none }
def versionNobodyRow : OpenClaim := { program := "yteipepbijfdciaa", sum := "9b7f0080e32f3c2801fdbf61eff371404c4ff2c07e6ebe802e931a62c0219f78", func := "forepeak/forepeaklaw14.VersionNobody", spec := "versionNobody", apart := false }
def VersionNobodySaid : Prop := versionNobodyRow.holds Try.pinned (OpenSpec.ofChange versionNobodySpec)

/-- ITS FALSE NEIGHBOUR: 'it returns false'. Refute it at one input. -/
def versionNobodyWrong : ChangeSpec := { name := "versionNobody", fn := fun _ => fun
  | [d] => { results := [.lit (.bool false)], args := [d] }
  | _ => none }
def VersionNobodyWrongFalsely : Prop := versionNobodyRow.holds Try.pinned (OpenSpec.ofChange versionNobodyWrong)

/-- 'forepeaklaw05.WireWrites': WHATEVER THE INPUT: true; the input reads as it did. -/
def wireWritesSpec : ChangeSpec := { name := "wireWrites", fn := fun _ => fun
  | [d] => { results := [.lit (.bool true)], args := [d] }
  | _ => none }
def wireWritesRow : OpenClaim := { program := "yteipepbijfdciaa", sum := "9b7f0080e32f3c2801fdbf61eff371404c4ff2c07e6ebe802e931a62c0219f78", func := "forepeak/forepeaklaw05.WireWrites", spec := "wireWrites", apart := false }
def WireWritesSaid : Prop := wireWritesRow.holds Try.pinned (OpenSpec.ofChange wireWritesSpec)

/-- ITS FALSE NEIGHBOUR: 'it returns false'. Refute it at one input. -/
def wireWritesWrong : ChangeSpec := { name := "wireWrites", fn := fun _ => fun
  | [d] => { results := [.lit (.bool false)], args := [d] }
  | _ => none }
def WireWritesWrongFalsely : Prop := wireWritesRow.holds Try.pinned (OpenSpec.ofChange wireWritesWrong)

/-- 'forepeaklaw05.WireReads': WHATEVER THE INPUT: true; the input reads as it did. -/
def wireReadsSpec : ChangeSpec := { name := "wireReads", fn := fun _ => fun
  | [d1, d2, d3, d4] => { results := [.lit (.bool true)], args := [d1, d2, d3, d4] }
  | _ => none }
def wireReadsRow : OpenClaim := { program := "yteipepbijfdciaa", sum := "9b7f0080e32f3c2801fdbf61eff371404c4ff2c07e6ebe802e931a62c0219f78", func := "forepeak/forepeaklaw05.WireReads", spec := "wireReads", apart := false }
def WireReadsSaid : Prop := wireReadsRow.holds Try.pinned (OpenSpec.ofChange wireReadsSpec)

/-- ITS FALSE NEIGHBOUR: 'it returns false'. Refute it at one input. -/
def wireReadsWrong : ChangeSpec := { name := "wireReads", fn := fun _ => fun
  | [d1, d2, d3, d4] => { results := [.lit (.bool false)], args := [d1, d2, d3, d4] }
  | _ => none }
def WireReadsWrongFalsely : Prop := wireReadsRow.holds Try.pinned (OpenSpec.ofChange wireReadsWrong)

/-- 'forepeaklaw05.WireBack': WHATEVER THE INPUT: true; the input reads as it did. -/
def wireBackSpec : ChangeSpec := { name := "wireBack", fn := fun _ => fun
  | [d] => { results := [.lit (.bool true)], args := [d] }
  | _ => none }
def wireBackRow : OpenClaim := { program := "yteipepbijfdciaa", sum := "9b7f0080e32f3c2801fdbf61eff371404c4ff2c07e6ebe802e931a62c0219f78", func := "forepeak/forepeaklaw05.WireBack", spec := "wireBack", apart := false }
def WireBackSaid : Prop := wireBackRow.holds Try.pinned (OpenSpec.ofChange wireBackSpec)

/-- ITS FALSE NEIGHBOUR: 'it returns false'. Refute it at one input. -/
def wireBackWrong : ChangeSpec := { name := "wireBack", fn := fun _ => fun
  | [d] => { results := [.lit (.bool false)], args := [d] }
  | _ => none }
def WireBackWrongFalsely : Prop := wireBackRow.holds Try.pinned (OpenSpec.ofChange wireBackWrong)

/-- 'forepeaklaw05.WireNobody': WHATEVER THE INPUT: true; the input reads as it did. -/
def wireNobodySpec : ChangeSpec := { name := "wireNobody", fn := fun _ => fun
  | [d1, d2, d3] => { results := [.lit (.bool true)], args := [d1, d2, d3] }
  | _ => none }
def wireNobodyRow : OpenClaim := { program := "yteipepbijfdciaa", sum := "9b7f0080e32f3c2801fdbf61eff371404c4ff2c07e6ebe802e931a62c0219f78", func := "forepeak/forepeaklaw05.WireNobody", spec := "wireNobody", apart := false }
def WireNobodySaid : Prop := wireNobodyRow.holds Try.pinned (OpenSpec.ofChange wireNobodySpec)

/-- ITS FALSE NEIGHBOUR: 'it returns false'. Refute it at one input. -/
def wireNobodyWrong : ChangeSpec := { name := "wireNobody", fn := fun _ => fun
  | [d1, d2, d3] => { results := [.lit (.bool false)], args := [d1, d2, d3] }
  | _ => none }
def WireNobodyWrongFalsely : Prop := wireNobodyRow.holds Try.pinned (OpenSpec.ofChange wireNobodyWrong)

/- THE SECOND FORM. 'bulk': how many values and letters a reading holds, each counted each time it is reached (what is shared counts as often as it is met; a slice's spare places count too). A statement '..UptoSaid' is the law's where the arguments, and the package variables that the reading takes, are together of bulk at most 1048576: NARROWER than '..Said'. Prove '..Said' where nothing that the law and all that it calls make is longer than what came in: it says more and counts as full. Else prove '..UptoSaid'. A law counts once. -/
mutual
def uptoBulk {H : Type} : DataW H → Nat
  | .lit (.string bytes) => bytes.length + 1
  | .lit _ => 1
  | .nil => 1
  | .ptr d => uptoBulk d + 1
  | .slice elems spare => uptoBulkAll elems + uptoBulkAll spare + 1
  | .agg parts => uptoBulkAll parts + 1
  | .iface _ d => uptoBulk d + 1
  | .map entries => uptoBulkEntries entries + 1
  | .held _ => 1
def uptoBulkAll {H : Type} : List (DataW H) → Nat
  | [] => 0
  | d :: r => uptoBulk d + uptoBulkAll r
def uptoBulkEntries {H : Type} : List (Lit × DataW H) → Nat
  | [] => 0
  | x :: r => uptoBulkEntry x + uptoBulkEntries r
def uptoBulkEntry {H : Type} : Lit × DataW H → Nat
  | (.string bytes, d) => bytes.length + uptoBulk d + 1
  | (_, d) => uptoBulk d + 1
 end
def uptoSmall : (H : Type) → List (DataW H) → Bool := fun _ ds => decide (uptoBulkAll ds ≤ 1048576)
def OpenSpec.upto (s : _root_.Go.ChangeSpec) : _root_.Go.OpenSpec := { _root_.Go.OpenSpec.ofChange s with cond := some uptoSmall }

/-- 'forepeaklaw14.VersionPlays', WHERE WHAT IT READS IS OF BULK AT MOST 1048576: true; the input reads as it did. -/
def versionPlaysUptoRow : OpenClaim := { program := "yteipepbijfdciaa", sum := "9b7f0080e32f3c2801fdbf61eff371404c4ff2c07e6ebe802e931a62c0219f78", func := "forepeak/forepeaklaw14.VersionPlays", spec := "versionPlays", apart := false, narrowed := true }
def VersionPlaysUptoSaid : Prop := versionPlaysUptoRow.holds Try.pinned (OpenSpec.upto versionPlaysSpec)

/-- 'forepeaklaw14.VersionOf', WHERE WHAT IT READS IS OF BULK AT MOST 1048576: true; the input reads as it did. -/
def versionOfUptoRow : OpenClaim := { program := "yteipepbijfdciaa", sum := "9b7f0080e32f3c2801fdbf61eff371404c4ff2c07e6ebe802e931a62c0219f78", func := "forepeak/forepeaklaw14.VersionOf", spec := "versionOf", apart := false, narrowed := true }
def VersionOfUptoSaid : Prop := versionOfUptoRow.holds Try.pinned (OpenSpec.upto versionOfSpec)

/-- 'forepeaklaw14.VersionKeeps', WHERE WHAT IT READS IS OF BULK AT MOST 1048576: true; the input reads as it did. -/
def versionKeepsUptoRow : OpenClaim := { program := "yteipepbijfdciaa", sum := "9b7f0080e32f3c2801fdbf61eff371404c4ff2c07e6ebe802e931a62c0219f78", func := "forepeak/forepeaklaw14.VersionKeeps", spec := "versionKeeps", apart := false, narrowed := true }
def VersionKeepsUptoSaid : Prop := versionKeepsUptoRow.holds Try.pinned (OpenSpec.upto versionKeepsSpec)

/-- 'forepeaklaw14.VersionNobody', WHERE WHAT IT READS IS OF BULK AT MOST 1048576: true; the input reads as it did. -/
def versionNobodyUptoRow : OpenClaim := { program := "yteipepbijfdciaa", sum := "9b7f0080e32f3c2801fdbf61eff371404c4ff2c07e6ebe802e931a62c0219f78", func := "forepeak/forepeaklaw14.VersionNobody", spec := "versionNobody", apart := false, narrowed := true }
def VersionNobodyUptoSaid : Prop := versionNobodyUptoRow.holds Try.pinned (OpenSpec.upto versionNobodySpec)

/-- 'forepeaklaw05.WireWrites', WHERE WHAT IT READS IS OF BULK AT MOST 1048576: true; the input reads as it did. -/
def wireWritesUptoRow : OpenClaim := { program := "yteipepbijfdciaa", sum := "9b7f0080e32f3c2801fdbf61eff371404c4ff2c07e6ebe802e931a62c0219f78", func := "forepeak/forepeaklaw05.WireWrites", spec := "wireWrites", apart := false, narrowed := true }
def WireWritesUptoSaid : Prop := wireWritesUptoRow.holds Try.pinned (OpenSpec.upto wireWritesSpec)

/-- 'forepeaklaw05.WireReads', WHERE WHAT IT READS IS OF BULK AT MOST 1048576: true; the input reads as it did. -/
def wireReadsUptoRow : OpenClaim := { program := "yteipepbijfdciaa", sum := "9b7f0080e32f3c2801fdbf61eff371404c4ff2c07e6ebe802e931a62c0219f78", func := "forepeak/forepeaklaw05.WireReads", spec := "wireReads", apart := false, narrowed := true }
def WireReadsUptoSaid : Prop := wireReadsUptoRow.holds Try.pinned (OpenSpec.upto wireReadsSpec)

/-- 'forepeaklaw05.WireBack', WHERE WHAT IT READS IS OF BULK AT MOST 1048576: true; the input reads as it did. -/
def wireBackUptoRow : OpenClaim := { program := "yteipepbijfdciaa", sum := "9b7f0080e32f3c2801fdbf61eff371404c4ff2c07e6ebe802e931a62c0219f78", func := "forepeak/forepeaklaw05.WireBack", spec := "wireBack", apart := false, narrowed := true }
def WireBackUptoSaid : Prop := wireBackUptoRow.holds Try.pinned (OpenSpec.upto wireBackSpec)

/-- 'forepeaklaw05.WireNobody', WHERE WHAT IT READS IS OF BULK AT MOST 1048576: true; the input reads as it did. -/
def wireNobodyUptoRow : OpenClaim := { program := "yteipepbijfdciaa", sum := "9b7f0080e32f3c2801fdbf61eff371404c4ff2c07e6ebe802e931a62c0219f78", func := "forepeak/forepeaklaw05.WireNobody", spec := "wireNobody", apart := false, narrowed := true }
def WireNobodyUptoSaid : Prop := wireNobodyUptoRow.holds Try.pinned (OpenSpec.upto wireNobodySpec)

end Rows
end Go.Proofs.Yteipepbijfdciaa
