/-
  NARROWER THAN 'FOR EVERY INPUT', by the rows' own cells (each row's printed sentence says how): StampOnes: laid · StampLanes: laid · ReleaseKeeps: laid · ReleaseLets: laid · ReleaseFlows: laid · ChangeOnes: laid · ChangeHides: laid · ChangeBack: laid · ChangeBytes: laid · ChangeAll: laid · ReleaseAll: laid · StampMay: laid.
  DERIVED. THE GIVEN ROWS OF THIS SEAT. 12 by the template 'for every input the law returns true; each argument reads behind the call as it read before'; 0 by the template 'total and deterministic' (their statements: YtidmpmdhgiopgaaDoorTotals.lean).
  GIVEN WITH THE SEED: the statements are not yours to turn. If you find one false, say at which input.
  Laid BY PROGRAM, IN A SANDBOX (cutbox-rows.mjs): the forced cells as the released guide's own fill.sh prints them over the translation 7b8c665708ba9bf4… (all of the seat's roots in one cut). By AI agents, Wed Nov 11 2026. No macro, syntax, notation, axiom, sorry.
-/
import Derived.Test.YtidmpmdhgiopgaaDoorChecked
import GoSem.Claim
import GoSem.ClaimJoined
import GoSem.ClaimMapViews
import Derived.JoinedTies
import Derived.KernelRfl
namespace Go.Proofs.YtidmpmdhgiopgaaDoor
/- THE CELL 'sum', in the pinned program and in every row, IS THE sha256 OF THE DUMP (.gsa) THAT YtidmpmdhgiopgaaDoorProg.lean LOADS. Nothing in Lean hashes anything: it is a label: what it is worth is what the hold of that sum in a sandbox is worth. -/
noncomputable def Tryd.pinned : Pinned := { name := "ytidmpmdhgiopgaadoor", sum := "7b8c665708ba9bf4e8cea81c4ef5be02b37ffd1eb4415841fa737f45b854723f", checked := Tryd.checked }
namespace Rows
def none {H : Type} : Left H := { results := [], args := [] }

/- WHAT THE LISTED PACKAGE-LEVEL VARIABLES READ AS WHEN THE CALL BEGINS. Each datum BY PROGRAM (the guide's laid-datum.mjs) off the statement by which the dump's own 'gosem.cut.vars' lays the variable. In a bare row this is a premise. The card (YtidmpmdhgiopgaaDoorCards.lean) ties it to the program's text. -/
def laid_math_bits_deBruijn32tab {H : Type} : DataW H := .agg [.lit (.int .u8 0), .lit (.int .u8 1), .lit (.int .u8 28), .lit (.int .u8 2), .lit (.int .u8 29), .lit (.int .u8 14), .lit (.int .u8 24), .lit (.int .u8 3), .lit (.int .u8 30), .lit (.int .u8 22), .lit (.int .u8 20), .lit (.int .u8 15), .lit (.int .u8 25), .lit (.int .u8 17), .lit (.int .u8 4), .lit (.int .u8 8), .lit (.int .u8 31), .lit (.int .u8 27), .lit (.int .u8 13), .lit (.int .u8 23), .lit (.int .u8 21), .lit (.int .u8 19), .lit (.int .u8 16), .lit (.int .u8 7), .lit (.int .u8 26), .lit (.int .u8 12), .lit (.int .u8 18), .lit (.int .u8 6), .lit (.int .u8 11), .lit (.int .u8 5), .lit (.int .u8 10), .lit (.int .u8 9)]

/-- 'forepeaklaw31.StampOnes': WHATEVER THE INPUT: true; the input reads as it did. -/
def stampOnesSpec : ChangeSpec := { name := "stampOnes", fn := fun _ => fun
  | [d1, d2, d3] => { results := [.lit (.bool true)], args := [d1, d2, d3] }
  | _ => none }
def stampOnesRow : OpenClaim := { program := "ytidmpmdhgiopgaadoor", sum := "7b8c665708ba9bf4e8cea81c4ef5be02b37ffd1eb4415841fa737f45b854723f", func := "forepeak/forepeaklaw31.StampOnes", spec := "stampOnes", unfollowed := true, recurses := true, named := ["math/bits.deBruijn32tab"], apart := false, laid := [("math/bits.deBruijn32tab", laid_math_bits_deBruijn32tab)] }
def StampOnesSaid : Prop := stampOnesRow.holds Tryd.pinned (OpenSpec.ofChange stampOnesSpec)

/-- ITS FALSE NEIGHBOUR: 'it returns false'. Refute it at one input. -/
def stampOnesWrong : ChangeSpec := { name := "stampOnes", fn := fun _ => fun
  | [d1, d2, d3] => { results := [.lit (.bool false)], args := [d1, d2, d3] }
  | _ => none }
def StampOnesWrongFalsely : Prop := stampOnesRow.holds Tryd.pinned (OpenSpec.ofChange stampOnesWrong)

/-- 'forepeaklaw31.StampLanes': WHATEVER THE INPUT: true; the input reads as it did. -/
def stampLanesSpec : ChangeSpec := { name := "stampLanes", fn := fun _ => fun
  | [d1, d2, d3] => { results := [.lit (.bool true)], args := [d1, d2, d3] }
  | _ => none }
def stampLanesRow : OpenClaim := { program := "ytidmpmdhgiopgaadoor", sum := "7b8c665708ba9bf4e8cea81c4ef5be02b37ffd1eb4415841fa737f45b854723f", func := "forepeak/forepeaklaw31.StampLanes", spec := "stampLanes", unfollowed := true, recurses := true, named := ["math/bits.deBruijn32tab"], apart := false, laid := [("math/bits.deBruijn32tab", laid_math_bits_deBruijn32tab)] }
def StampLanesSaid : Prop := stampLanesRow.holds Tryd.pinned (OpenSpec.ofChange stampLanesSpec)

/-- ITS FALSE NEIGHBOUR: 'it returns false'. Refute it at one input. -/
def stampLanesWrong : ChangeSpec := { name := "stampLanes", fn := fun _ => fun
  | [d1, d2, d3] => { results := [.lit (.bool false)], args := [d1, d2, d3] }
  | _ => none }
def StampLanesWrongFalsely : Prop := stampLanesRow.holds Tryd.pinned (OpenSpec.ofChange stampLanesWrong)

/-- 'forepeaklaw32.ReleaseKeeps': WHATEVER THE INPUT: true; the input reads as it did. -/
def releaseKeepsSpec : ChangeSpec := { name := "releaseKeeps", fn := fun _ => fun
  | [d1, d2, d3, d4] => { results := [.lit (.bool true)], args := [d1, d2, d3, d4] }
  | _ => none }
def releaseKeepsRow : OpenClaim := { program := "ytidmpmdhgiopgaadoor", sum := "7b8c665708ba9bf4e8cea81c4ef5be02b37ffd1eb4415841fa737f45b854723f", func := "forepeak/forepeaklaw32.ReleaseKeeps", spec := "releaseKeeps", unfollowed := true, recurses := true, named := ["math/bits.deBruijn32tab"], apart := false, laid := [("math/bits.deBruijn32tab", laid_math_bits_deBruijn32tab)] }
def ReleaseKeepsSaid : Prop := releaseKeepsRow.holds Tryd.pinned (OpenSpec.ofChange releaseKeepsSpec)

/-- ITS FALSE NEIGHBOUR: 'it returns false'. Refute it at one input. -/
def releaseKeepsWrong : ChangeSpec := { name := "releaseKeeps", fn := fun _ => fun
  | [d1, d2, d3, d4] => { results := [.lit (.bool false)], args := [d1, d2, d3, d4] }
  | _ => none }
def ReleaseKeepsWrongFalsely : Prop := releaseKeepsRow.holds Tryd.pinned (OpenSpec.ofChange releaseKeepsWrong)

/-- 'forepeaklaw32.ReleaseLets': WHATEVER THE INPUT: true; the input reads as it did. -/
def releaseLetsSpec : ChangeSpec := { name := "releaseLets", fn := fun _ => fun
  | [d1, d2, d3, d4] => { results := [.lit (.bool true)], args := [d1, d2, d3, d4] }
  | _ => none }
def releaseLetsRow : OpenClaim := { program := "ytidmpmdhgiopgaadoor", sum := "7b8c665708ba9bf4e8cea81c4ef5be02b37ffd1eb4415841fa737f45b854723f", func := "forepeak/forepeaklaw32.ReleaseLets", spec := "releaseLets", unfollowed := true, recurses := true, named := ["math/bits.deBruijn32tab"], apart := false, laid := [("math/bits.deBruijn32tab", laid_math_bits_deBruijn32tab)] }
def ReleaseLetsSaid : Prop := releaseLetsRow.holds Tryd.pinned (OpenSpec.ofChange releaseLetsSpec)

/-- ITS FALSE NEIGHBOUR: 'it returns false'. Refute it at one input. -/
def releaseLetsWrong : ChangeSpec := { name := "releaseLets", fn := fun _ => fun
  | [d1, d2, d3, d4] => { results := [.lit (.bool false)], args := [d1, d2, d3, d4] }
  | _ => none }
def ReleaseLetsWrongFalsely : Prop := releaseLetsRow.holds Tryd.pinned (OpenSpec.ofChange releaseLetsWrong)

/-- 'forepeaklaw32.ReleaseFlows': WHATEVER THE INPUT: true; the input reads as it did. -/
def releaseFlowsSpec : ChangeSpec := { name := "releaseFlows", fn := fun _ => fun
  | [d1, d2, d3, d4] => { results := [.lit (.bool true)], args := [d1, d2, d3, d4] }
  | _ => none }
def releaseFlowsRow : OpenClaim := { program := "ytidmpmdhgiopgaadoor", sum := "7b8c665708ba9bf4e8cea81c4ef5be02b37ffd1eb4415841fa737f45b854723f", func := "forepeak/forepeaklaw32.ReleaseFlows", spec := "releaseFlows", unfollowed := true, recurses := true, named := ["math/bits.deBruijn32tab"], apart := false, laid := [("math/bits.deBruijn32tab", laid_math_bits_deBruijn32tab)] }
def ReleaseFlowsSaid : Prop := releaseFlowsRow.holds Tryd.pinned (OpenSpec.ofChange releaseFlowsSpec)

/-- ITS FALSE NEIGHBOUR: 'it returns false'. Refute it at one input. -/
def releaseFlowsWrong : ChangeSpec := { name := "releaseFlows", fn := fun _ => fun
  | [d1, d2, d3, d4] => { results := [.lit (.bool false)], args := [d1, d2, d3, d4] }
  | _ => none }
def ReleaseFlowsWrongFalsely : Prop := releaseFlowsRow.holds Tryd.pinned (OpenSpec.ofChange releaseFlowsWrong)

/-- 'forepeaklaw13.ChangeOnes': WHATEVER THE INPUT: true; the input reads as it did. -/
def changeOnesSpec : ChangeSpec := { name := "changeOnes", fn := fun _ => fun
  | [d1, d2] => { results := [.lit (.bool true)], args := [d1, d2] }
  | _ => none }
def changeOnesRow : OpenClaim := { program := "ytidmpmdhgiopgaadoor", sum := "7b8c665708ba9bf4e8cea81c4ef5be02b37ffd1eb4415841fa737f45b854723f", func := "forepeak/forepeaklaw13.ChangeOnes", spec := "changeOnes", unfollowed := true, recurses := true, named := ["math/bits.deBruijn32tab"], apart := false, laid := [("math/bits.deBruijn32tab", laid_math_bits_deBruijn32tab)] }
def ChangeOnesSaid : Prop := changeOnesRow.holds Tryd.pinned (OpenSpec.ofChange changeOnesSpec)

/-- ITS FALSE NEIGHBOUR: 'it returns false'. Refute it at one input. -/
def changeOnesWrong : ChangeSpec := { name := "changeOnes", fn := fun _ => fun
  | [d1, d2] => { results := [.lit (.bool false)], args := [d1, d2] }
  | _ => none }
def ChangeOnesWrongFalsely : Prop := changeOnesRow.holds Tryd.pinned (OpenSpec.ofChange changeOnesWrong)

/-- 'forepeaklaw13.ChangeHides': WHATEVER THE INPUT: true; the input reads as it did. -/
def changeHidesSpec : ChangeSpec := { name := "changeHides", fn := fun _ => fun
  | [d1, d2, d3, d4] => { results := [.lit (.bool true)], args := [d1, d2, d3, d4] }
  | _ => none }
def changeHidesRow : OpenClaim := { program := "ytidmpmdhgiopgaadoor", sum := "7b8c665708ba9bf4e8cea81c4ef5be02b37ffd1eb4415841fa737f45b854723f", func := "forepeak/forepeaklaw13.ChangeHides", spec := "changeHides", unfollowed := true, recurses := true, named := ["math/bits.deBruijn32tab"], apart := false, laid := [("math/bits.deBruijn32tab", laid_math_bits_deBruijn32tab)] }
def ChangeHidesSaid : Prop := changeHidesRow.holds Tryd.pinned (OpenSpec.ofChange changeHidesSpec)

/-- ITS FALSE NEIGHBOUR: 'it returns false'. Refute it at one input. -/
def changeHidesWrong : ChangeSpec := { name := "changeHides", fn := fun _ => fun
  | [d1, d2, d3, d4] => { results := [.lit (.bool false)], args := [d1, d2, d3, d4] }
  | _ => none }
def ChangeHidesWrongFalsely : Prop := changeHidesRow.holds Tryd.pinned (OpenSpec.ofChange changeHidesWrong)

/-- 'forepeaklaw13.ChangeBack': WHATEVER THE INPUT: true; the input reads as it did. -/
def changeBackSpec : ChangeSpec := { name := "changeBack", fn := fun _ => fun
  | [d1, d2, d3, d4] => { results := [.lit (.bool true)], args := [d1, d2, d3, d4] }
  | _ => none }
def changeBackRow : OpenClaim := { program := "ytidmpmdhgiopgaadoor", sum := "7b8c665708ba9bf4e8cea81c4ef5be02b37ffd1eb4415841fa737f45b854723f", func := "forepeak/forepeaklaw13.ChangeBack", spec := "changeBack", unfollowed := true, recurses := true, named := ["math/bits.deBruijn32tab"], apart := false, laid := [("math/bits.deBruijn32tab", laid_math_bits_deBruijn32tab)] }
def ChangeBackSaid : Prop := changeBackRow.holds Tryd.pinned (OpenSpec.ofChange changeBackSpec)

/-- ITS FALSE NEIGHBOUR: 'it returns false'. Refute it at one input. -/
def changeBackWrong : ChangeSpec := { name := "changeBack", fn := fun _ => fun
  | [d1, d2, d3, d4] => { results := [.lit (.bool false)], args := [d1, d2, d3, d4] }
  | _ => none }
def ChangeBackWrongFalsely : Prop := changeBackRow.holds Tryd.pinned (OpenSpec.ofChange changeBackWrong)

/-- 'forepeaklaw13.ChangeBytes': WHATEVER THE INPUT: true; the input reads as it did. -/
def changeBytesSpec : ChangeSpec := { name := "changeBytes", fn := fun _ => fun
  | [d1, d2] => { results := [.lit (.bool true)], args := [d1, d2] }
  | _ => none }
def changeBytesRow : OpenClaim := { program := "ytidmpmdhgiopgaadoor", sum := "7b8c665708ba9bf4e8cea81c4ef5be02b37ffd1eb4415841fa737f45b854723f", func := "forepeak/forepeaklaw13.ChangeBytes", spec := "changeBytes", unfollowed := true, recurses := true, named := ["math/bits.deBruijn32tab"], apart := false, laid := [("math/bits.deBruijn32tab", laid_math_bits_deBruijn32tab)] }
def ChangeBytesSaid : Prop := changeBytesRow.holds Tryd.pinned (OpenSpec.ofChange changeBytesSpec)

/-- ITS FALSE NEIGHBOUR: 'it returns false'. Refute it at one input. -/
def changeBytesWrong : ChangeSpec := { name := "changeBytes", fn := fun _ => fun
  | [d1, d2] => { results := [.lit (.bool false)], args := [d1, d2] }
  | _ => none }
def ChangeBytesWrongFalsely : Prop := changeBytesRow.holds Tryd.pinned (OpenSpec.ofChange changeBytesWrong)

/-- 'forepeaklaw13.ChangeAll': WHATEVER THE INPUT: true; the input reads as it did. -/
def changeAllSpec : ChangeSpec := { name := "changeAll", fn := fun _ => fun
  | [d1, d2] => { results := [.lit (.bool true)], args := [d1, d2] }
  | _ => none }
def changeAllRow : OpenClaim := { program := "ytidmpmdhgiopgaadoor", sum := "7b8c665708ba9bf4e8cea81c4ef5be02b37ffd1eb4415841fa737f45b854723f", func := "forepeak/forepeaklaw13.ChangeAll", spec := "changeAll", unfollowed := true, recurses := true, named := ["math/bits.deBruijn32tab"], apart := false, laid := [("math/bits.deBruijn32tab", laid_math_bits_deBruijn32tab)] }
def ChangeAllSaid : Prop := changeAllRow.holds Tryd.pinned (OpenSpec.ofChange changeAllSpec)

/-- ITS FALSE NEIGHBOUR: 'it returns false'. Refute it at one input. -/
def changeAllWrong : ChangeSpec := { name := "changeAll", fn := fun _ => fun
  | [d1, d2] => { results := [.lit (.bool false)], args := [d1, d2] }
  | _ => none }
def ChangeAllWrongFalsely : Prop := changeAllRow.holds Tryd.pinned (OpenSpec.ofChange changeAllWrong)

/-- 'forepeaklaw32.ReleaseAll': WHATEVER THE INPUT: true; the input reads as it did. -/
def releaseAllSpec : ChangeSpec := { name := "releaseAll", fn := fun _ => fun
  | [d1, d2, d3, d4] => { results := [.lit (.bool true)], args := [d1, d2, d3, d4] }
  | _ => none }
def releaseAllRow : OpenClaim := { program := "ytidmpmdhgiopgaadoor", sum := "7b8c665708ba9bf4e8cea81c4ef5be02b37ffd1eb4415841fa737f45b854723f", func := "forepeak/forepeaklaw32.ReleaseAll", spec := "releaseAll", unfollowed := true, recurses := true, named := ["math/bits.deBruijn32tab"], apart := false, laid := [("math/bits.deBruijn32tab", laid_math_bits_deBruijn32tab)] }
def ReleaseAllSaid : Prop := releaseAllRow.holds Tryd.pinned (OpenSpec.ofChange releaseAllSpec)

/-- ITS FALSE NEIGHBOUR: 'it returns false'. Refute it at one input. -/
def releaseAllWrong : ChangeSpec := { name := "releaseAll", fn := fun _ => fun
  | [d1, d2, d3, d4] => { results := [.lit (.bool false)], args := [d1, d2, d3, d4] }
  | _ => none }
def ReleaseAllWrongFalsely : Prop := releaseAllRow.holds Tryd.pinned (OpenSpec.ofChange releaseAllWrong)

/-- 'forepeaklaw31.StampMay': WHATEVER THE INPUT: true; the input reads as it did. -/
def stampMaySpec : ChangeSpec := { name := "stampMay", fn := fun _ => fun
  | [d1, d2, d3] => { results := [.lit (.bool true)], args := [d1, d2, d3] }
  | _ => none }
def stampMayRow : OpenClaim := { program := "ytidmpmdhgiopgaadoor", sum := "7b8c665708ba9bf4e8cea81c4ef5be02b37ffd1eb4415841fa737f45b854723f", func := "forepeak/forepeaklaw31.StampMay", spec := "stampMay", unfollowed := true, recurses := true, named := ["math/bits.deBruijn32tab"], apart := false, laid := [("math/bits.deBruijn32tab", laid_math_bits_deBruijn32tab)] }
def StampMaySaid : Prop := stampMayRow.holds Tryd.pinned (OpenSpec.ofChange stampMaySpec)

/-- ITS FALSE NEIGHBOUR: 'it returns false'. Refute it at one input. -/
def stampMayWrong : ChangeSpec := { name := "stampMay", fn := fun _ => fun
  | [d1, d2, d3] => { results := [.lit (.bool false)], args := [d1, d2, d3] }
  | _ => none }
def StampMayWrongFalsely : Prop := stampMayRow.holds Tryd.pinned (OpenSpec.ofChange stampMayWrong)

/- THE SECOND FORM. 'bulk': how many values and letters a reading holds, each counted each time it is reached (what is shared counts as often as it is met; a slice's spare places count too). A statement '..UptoSaid' is the law's where the arguments, and the package variables that the reading takes, are together of bulk at most 1048576: NARROWER than '..Said'. Prove '..Said' where nothing that the law and all that it calls make is longer than what came in: it says more and counts as full. Else prove '..UptoSaid'. A law counts once. -/
mutual
def uptoBulk {H : Type} : DataW H → Nat
  | .lit (.string bytes) => bytes.length + 1
  | .lit _ => 1
  | .nil => 1
  | .ptr d => uptoBulk d + 1
  | .slice elems spare => uptoBulkAll elems + uptoBulkAll spare + 1
  | .agg parts => uptoBulkAll parts + 1
  | .iface _ d => uptoBulk d + 1
  | .map entries => uptoBulkEntries entries + 1
  | .held _ => 1
def uptoBulkAll {H : Type} : List (DataW H) → Nat
  | [] => 0
  | d :: r => uptoBulk d + uptoBulkAll r
def uptoBulkEntries {H : Type} : List (Lit × DataW H) → Nat
  | [] => 0
  | x :: r => uptoBulkEntry x + uptoBulkEntries r
def uptoBulkEntry {H : Type} : Lit × DataW H → Nat
  | (.string bytes, d) => bytes.length + uptoBulk d + 1
  | (_, d) => uptoBulk d + 1
 end
def uptoSmall : (H : Type) → List (DataW H) → Bool := fun _ ds => decide (uptoBulkAll ds ≤ 1048576)
def OpenSpec.upto (s : _root_.Go.ChangeSpec) : _root_.Go.OpenSpec := { _root_.Go.OpenSpec.ofChange s with cond := some uptoSmall }

/-- 'forepeaklaw31.StampOnes', WHERE WHAT IT READS IS OF BULK AT MOST 1048576: true; the input reads as it did. -/
def stampOnesUptoRow : OpenClaim := { program := "ytidmpmdhgiopgaadoor", sum := "7b8c665708ba9bf4e8cea81c4ef5be02b37ffd1eb4415841fa737f45b854723f", func := "forepeak/forepeaklaw31.StampOnes", spec := "stampOnes", unfollowed := true, recurses := true, named := ["math/bits.deBruijn32tab"], apart := false, laid := [("math/bits.deBruijn32tab", laid_math_bits_deBruijn32tab)], narrowed := true }
def StampOnesUptoSaid : Prop := stampOnesUptoRow.holds Tryd.pinned (OpenSpec.upto stampOnesSpec)

/-- 'forepeaklaw31.StampLanes', WHERE WHAT IT READS IS OF BULK AT MOST 1048576: true; the input reads as it did. -/
def stampLanesUptoRow : OpenClaim := { program := "ytidmpmdhgiopgaadoor", sum := "7b8c665708ba9bf4e8cea81c4ef5be02b37ffd1eb4415841fa737f45b854723f", func := "forepeak/forepeaklaw31.StampLanes", spec := "stampLanes", unfollowed := true, recurses := true, named := ["math/bits.deBruijn32tab"], apart := false, laid := [("math/bits.deBruijn32tab", laid_math_bits_deBruijn32tab)], narrowed := true }
def StampLanesUptoSaid : Prop := stampLanesUptoRow.holds Tryd.pinned (OpenSpec.upto stampLanesSpec)

/-- 'forepeaklaw32.ReleaseKeeps', WHERE WHAT IT READS IS OF BULK AT MOST 1048576: true; the input reads as it did. -/
def releaseKeepsUptoRow : OpenClaim := { program := "ytidmpmdhgiopgaadoor", sum := "7b8c665708ba9bf4e8cea81c4ef5be02b37ffd1eb4415841fa737f45b854723f", func := "forepeak/forepeaklaw32.ReleaseKeeps", spec := "releaseKeeps", unfollowed := true, recurses := true, named := ["math/bits.deBruijn32tab"], apart := false, laid := [("math/bits.deBruijn32tab", laid_math_bits_deBruijn32tab)], narrowed := true }
def ReleaseKeepsUptoSaid : Prop := releaseKeepsUptoRow.holds Tryd.pinned (OpenSpec.upto releaseKeepsSpec)

/-- 'forepeaklaw32.ReleaseLets', WHERE WHAT IT READS IS OF BULK AT MOST 1048576: true; the input reads as it did. -/
def releaseLetsUptoRow : OpenClaim := { program := "ytidmpmdhgiopgaadoor", sum := "7b8c665708ba9bf4e8cea81c4ef5be02b37ffd1eb4415841fa737f45b854723f", func := "forepeak/forepeaklaw32.ReleaseLets", spec := "releaseLets", unfollowed := true, recurses := true, named := ["math/bits.deBruijn32tab"], apart := false, laid := [("math/bits.deBruijn32tab", laid_math_bits_deBruijn32tab)], narrowed := true }
def ReleaseLetsUptoSaid : Prop := releaseLetsUptoRow.holds Tryd.pinned (OpenSpec.upto releaseLetsSpec)

/-- 'forepeaklaw32.ReleaseFlows', WHERE WHAT IT READS IS OF BULK AT MOST 1048576: true; the input reads as it did. -/
def releaseFlowsUptoRow : OpenClaim := { program := "ytidmpmdhgiopgaadoor", sum := "7b8c665708ba9bf4e8cea81c4ef5be02b37ffd1eb4415841fa737f45b854723f", func := "forepeak/forepeaklaw32.ReleaseFlows", spec := "releaseFlows", unfollowed := true, recurses := true, named := ["math/bits.deBruijn32tab"], apart := false, laid := [("math/bits.deBruijn32tab", laid_math_bits_deBruijn32tab)], narrowed := true }
def ReleaseFlowsUptoSaid : Prop := releaseFlowsUptoRow.holds Tryd.pinned (OpenSpec.upto releaseFlowsSpec)

/-- 'forepeaklaw13.ChangeOnes', WHERE WHAT IT READS IS OF BULK AT MOST 1048576: true; the input reads as it did. -/
def changeOnesUptoRow : OpenClaim := { program := "ytidmpmdhgiopgaadoor", sum := "7b8c665708ba9bf4e8cea81c4ef5be02b37ffd1eb4415841fa737f45b854723f", func := "forepeak/forepeaklaw13.ChangeOnes", spec := "changeOnes", unfollowed := true, recurses := true, named := ["math/bits.deBruijn32tab"], apart := false, laid := [("math/bits.deBruijn32tab", laid_math_bits_deBruijn32tab)], narrowed := true }
def ChangeOnesUptoSaid : Prop := changeOnesUptoRow.holds Tryd.pinned (OpenSpec.upto changeOnesSpec)

/-- 'forepeaklaw13.ChangeHides', WHERE WHAT IT READS IS OF BULK AT MOST 1048576: true; the input reads as it did. -/
def changeHidesUptoRow : OpenClaim := { program := "ytidmpmdhgiopgaadoor", sum := "7b8c665708ba9bf4e8cea81c4ef5be02b37ffd1eb4415841fa737f45b854723f", func := "forepeak/forepeaklaw13.ChangeHides", spec := "changeHides", unfollowed := true, recurses := true, named := ["math/bits.deBruijn32tab"], apart := false, laid := [("math/bits.deBruijn32tab", laid_math_bits_deBruijn32tab)], narrowed := true }
def ChangeHidesUptoSaid : Prop := changeHidesUptoRow.holds Tryd.pinned (OpenSpec.upto changeHidesSpec)

/-- 'forepeaklaw13.ChangeBack', WHERE WHAT IT READS IS OF BULK AT MOST 1048576: true; the input reads as it did. -/
def changeBackUptoRow : OpenClaim := { program := "ytidmpmdhgiopgaadoor", sum := "7b8c665708ba9bf4e8cea81c4ef5be02b37ffd1eb4415841fa737f45b854723f", func := "forepeak/forepeaklaw13.ChangeBack", spec := "changeBack", unfollowed := true, recurses := true, named := ["math/bits.deBruijn32tab"], apart := false, laid := [("math/bits.deBruijn32tab", laid_math_bits_deBruijn32tab)], narrowed := true }
def ChangeBackUptoSaid : Prop := changeBackUptoRow.holds Tryd.pinned (OpenSpec.upto changeBackSpec)

/-- 'forepeaklaw13.ChangeBytes', WHERE WHAT IT READS IS OF BULK AT MOST 1048576: true; the input reads as it did. -/
def changeBytesUptoRow : OpenClaim := { program := "ytidmpmdhgiopgaadoor", sum := "7b8c665708ba9bf4e8cea81c4ef5be02b37ffd1eb4415841fa737f45b854723f", func := "forepeak/forepeaklaw13.ChangeBytes", spec := "changeBytes", unfollowed := true, recurses := true, named := ["math/bits.deBruijn32tab"], apart := false, laid := [("math/bits.deBruijn32tab", laid_math_bits_deBruijn32tab)], narrowed := true }
def ChangeBytesUptoSaid : Prop := changeBytesUptoRow.holds Tryd.pinned (OpenSpec.upto changeBytesSpec)

/-- 'forepeaklaw13.ChangeAll', WHERE WHAT IT READS IS OF BULK AT MOST 1048576: true; the input reads as it did. -/
def changeAllUptoRow : OpenClaim := { program := "ytidmpmdhgiopgaadoor", sum := "7b8c665708ba9bf4e8cea81c4ef5be02b37ffd1eb4415841fa737f45b854723f", func := "forepeak/forepeaklaw13.ChangeAll", spec := "changeAll", unfollowed := true, recurses := true, named := ["math/bits.deBruijn32tab"], apart := false, laid := [("math/bits.deBruijn32tab", laid_math_bits_deBruijn32tab)], narrowed := true }
def ChangeAllUptoSaid : Prop := changeAllUptoRow.holds Tryd.pinned (OpenSpec.upto changeAllSpec)

/-- 'forepeaklaw32.ReleaseAll', WHERE WHAT IT READS IS OF BULK AT MOST 1048576: true; the input reads as it did. -/
def releaseAllUptoRow : OpenClaim := { program := "ytidmpmdhgiopgaadoor", sum := "7b8c665708ba9bf4e8cea81c4ef5be02b37ffd1eb4415841fa737f45b854723f", func := "forepeak/forepeaklaw32.ReleaseAll", spec := "releaseAll", unfollowed := true, recurses := true, named := ["math/bits.deBruijn32tab"], apart := false, laid := [("math/bits.deBruijn32tab", laid_math_bits_deBruijn32tab)], narrowed := true }
def ReleaseAllUptoSaid : Prop := releaseAllUptoRow.holds Tryd.pinned (OpenSpec.upto releaseAllSpec)

/-- 'forepeaklaw31.StampMay', WHERE WHAT IT READS IS OF BULK AT MOST 1048576: true; the input reads as it did. -/
def stampMayUptoRow : OpenClaim := { program := "ytidmpmdhgiopgaadoor", sum := "7b8c665708ba9bf4e8cea81c4ef5be02b37ffd1eb4415841fa737f45b854723f", func := "forepeak/forepeaklaw31.StampMay", spec := "stampMay", unfollowed := true, recurses := true, named := ["math/bits.deBruijn32tab"], apart := false, laid := [("math/bits.deBruijn32tab", laid_math_bits_deBruijn32tab)], narrowed := true }
def StampMayUptoSaid : Prop := stampMayUptoRow.holds Tryd.pinned (OpenSpec.upto stampMaySpec)

end Rows
end Go.Proofs.YtidmpmdhgiopgaaDoor
