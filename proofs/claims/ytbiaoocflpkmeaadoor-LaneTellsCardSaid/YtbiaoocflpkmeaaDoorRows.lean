/-
  NARROWER THAN 'FOR EVERY INPUT', by the rows' own cells (each row's printed sentence says how): LaneTells: laid · LaneSteps: laid · LaneLength: laid.
  DERIVED. THE GIVEN ROWS OF THIS SEAT. 3 by the template 'for every input the law returns true; each argument reads behind the call as it read before'; 0 by the template 'total and deterministic' (their statements: YtbiaoocflpkmeaaDoorTotals.lean).
  GIVEN WITH THE SEED: the statements are not yours to turn. If you find one false, say at which input.
  Laid BY PROGRAM, IN A SANDBOX (cutbox-rows.mjs): the forced cells as the released guide's own fill.sh prints them over the translation cf6c884927b06643… (all of the seat's roots in one cut). By AI agents, Wed Nov 11 2026. No macro, syntax, notation, axiom, sorry.
-/
import Derived.Test.YtbiaoocflpkmeaaDoorChecked
import GoSem.Claim
import GoSem.ClaimJoined
import GoSem.ClaimMapViews
import Derived.JoinedTies
import Derived.KernelRfl
namespace Go.Proofs.YtbiaoocflpkmeaaDoor
/- THE CELL 'sum', in the pinned program and in every row, IS THE sha256 OF THE DUMP (.gsa) THAT YtbiaoocflpkmeaaDoorProg.lean LOADS. Nothing in Lean hashes anything: it is a label: what it is worth is what the hold of that sum in a sandbox is worth. -/
noncomputable def Tryd.pinned : Pinned := { name := "ytbiaoocflpkmeaadoor", sum := "cf6c884927b066433c8fd99a68d1d0ef1e8730f77d95574a82f5d3214b90720e", checked := Tryd.checked }
namespace Rows
def none {H : Type} : Left H := { results := [], args := [] }

/- WHAT THE LISTED PACKAGE-LEVEL VARIABLES READ AS WHEN THE CALL BEGINS. Each datum BY PROGRAM (the guide's laid-datum.mjs) off the statement by which the dump's own 'gosem.cut.vars' lays the variable. In a bare row this is a premise. The card (YtbiaoocflpkmeaaDoorCards.lean) ties it to the program's text. -/
def laid_forepeak_lane_ends {H : Type} : DataW H := .agg [.agg [.lit (.int .i64 0), .lit (.int .i64 0)], .agg [.lit (.int .i64 0), .lit (.int .i64 11)], .agg [.lit (.int .i64 0), .lit (.int .i64 3)], .agg [.lit (.int .i64 0), .lit (.int .i64 0)], .agg [.lit (.int .i64 1), .lit (.int .i64 12)]]

/-- 'forepeaklaw28.LaneTells': WHATEVER THE INPUT: true; the input reads as it did. -/
def laneTellsSpec : ChangeSpec := { name := "laneTells", fn := fun _ => fun
  | [d1, d2, d3, d4] => { results := [.lit (.bool true)], args := [d1, d2, d3, d4] }
  | _ => none }
def laneTellsRow : OpenClaim := { program := "ytbiaoocflpkmeaadoor", sum := "cf6c884927b066433c8fd99a68d1d0ef1e8730f77d95574a82f5d3214b90720e", func := "forepeak/forepeaklaw28.LaneTells", spec := "laneTells", named := ["forepeak/lane.ends"], apart := false, laid := [("forepeak/lane.ends", laid_forepeak_lane_ends)] }
def LaneTellsSaid : Prop := laneTellsRow.holds Tryd.pinned (OpenSpec.ofChange laneTellsSpec)

/-- ITS FALSE NEIGHBOUR: 'it returns false'. Refute it at one input. -/
def laneTellsWrong : ChangeSpec := { name := "laneTells", fn := fun _ => fun
  | [d1, d2, d3, d4] => { results := [.lit (.bool false)], args := [d1, d2, d3, d4] }
  | _ => none }
def LaneTellsWrongFalsely : Prop := laneTellsRow.holds Tryd.pinned (OpenSpec.ofChange laneTellsWrong)

/-- 'forepeaklaw28.LaneSteps': WHATEVER THE INPUT: true; the input reads as it did. -/
def laneStepsSpec : ChangeSpec := { name := "laneSteps", fn := fun _ => fun
  | [d] => { results := [.lit (.bool true)], args := [d] }
  | _ => none }
def laneStepsRow : OpenClaim := { program := "ytbiaoocflpkmeaadoor", sum := "cf6c884927b066433c8fd99a68d1d0ef1e8730f77d95574a82f5d3214b90720e", func := "forepeak/forepeaklaw28.LaneSteps", spec := "laneSteps", named := ["forepeak/lane.ends"], apart := false, laid := [("forepeak/lane.ends", laid_forepeak_lane_ends)] }
def LaneStepsSaid : Prop := laneStepsRow.holds Tryd.pinned (OpenSpec.ofChange laneStepsSpec)

/-- ITS FALSE NEIGHBOUR: 'it returns false'. Refute it at one input. -/
def laneStepsWrong : ChangeSpec := { name := "laneSteps", fn := fun _ => fun
  | [d] => { results := [.lit (.bool false)], args := [d] }
  | _ => none }
def LaneStepsWrongFalsely : Prop := laneStepsRow.holds Tryd.pinned (OpenSpec.ofChange laneStepsWrong)

/-- 'forepeaklaw28.LaneLength': WHATEVER THE INPUT: true; the input reads as it did. -/
def laneLengthSpec : ChangeSpec := { name := "laneLength", fn := fun _ => fun
  | [d] => { results := [.lit (.bool true)], args := [d] }
  | _ => none }
def laneLengthRow : OpenClaim := { program := "ytbiaoocflpkmeaadoor", sum := "cf6c884927b066433c8fd99a68d1d0ef1e8730f77d95574a82f5d3214b90720e", func := "forepeak/forepeaklaw28.LaneLength", spec := "laneLength", named := ["forepeak/lane.ends"], apart := false, laid := [("forepeak/lane.ends", laid_forepeak_lane_ends)] }
def LaneLengthSaid : Prop := laneLengthRow.holds Tryd.pinned (OpenSpec.ofChange laneLengthSpec)

/-- ITS FALSE NEIGHBOUR: 'it returns false'. Refute it at one input. -/
def laneLengthWrong : ChangeSpec := { name := "laneLength", fn := fun _ => fun
  | [d] => { results := [.lit (.bool false)], args := [d] }
  | _ => none }
def LaneLengthWrongFalsely : Prop := laneLengthRow.holds Tryd.pinned (OpenSpec.ofChange laneLengthWrong)

/- THE SECOND FORM. 'bulk': how many values and letters a reading holds, each counted each time it is reached (what is shared counts as often as it is met; a slice's spare places count too). A statement '..UptoSaid' is the law's where the arguments, and the package variables that the reading takes, are together of bulk at most 1048576: NARROWER than '..Said'. Prove '..Said' where nothing that the law and all that it calls make is longer than what came in: it says more and counts as full. Else prove '..UptoSaid'. A law counts once. -/
mutual
def uptoBulk {H : Type} : DataW H → Nat
  | .lit (.string bytes) => bytes.length + 1
  | .lit _ => 1
  | .nil => 1
  | .ptr d => uptoBulk d + 1
  | .slice elems spare => uptoBulkAll elems + uptoBulkAll spare + 1
  | .agg parts => uptoBulkAll parts + 1
  | .iface _ d => uptoBulk d + 1
  | .map entries => uptoBulkEntries entries + 1
  | .held _ => 1
def uptoBulkAll {H : Type} : List (DataW H) → Nat
  | [] => 0
  | d :: r => uptoBulk d + uptoBulkAll r
def uptoBulkEntries {H : Type} : List (Lit × DataW H) → Nat
  | [] => 0
  | x :: r => uptoBulkEntry x + uptoBulkEntries r
def uptoBulkEntry {H : Type} : Lit × DataW H → Nat
  | (.string bytes, d) => bytes.length + uptoBulk d + 1
  | (_, d) => uptoBulk d + 1
 end
def uptoSmall : (H : Type) → List (DataW H) → Bool := fun _ ds => decide (uptoBulkAll ds ≤ 1048576)
def OpenSpec.upto (s : _root_.Go.ChangeSpec) : _root_.Go.OpenSpec := { _root_.Go.OpenSpec.ofChange s with cond := some uptoSmall }

/-- 'forepeaklaw28.LaneTells', WHERE WHAT IT READS IS OF BULK AT MOST 1048576: true; the input reads as it did. -/
def laneTellsUptoRow : OpenClaim := { program := "ytbiaoocflpkmeaadoor", sum := "cf6c884927b066433c8fd99a68d1d0ef1e8730f77d95574a82f5d3214b90720e", func := "forepeak/forepeaklaw28.LaneTells", spec := "laneTells", named := ["forepeak/lane.ends"], apart := false, laid := [("forepeak/lane.ends", laid_forepeak_lane_ends)], narrowed := true }
def LaneTellsUptoSaid : Prop := laneTellsUptoRow.holds Tryd.pinned (OpenSpec.upto laneTellsSpec)

/-- 'forepeaklaw28.LaneSteps', WHERE WHAT IT READS IS OF BULK AT MOST 1048576: true; the input reads as it did. -/
def laneStepsUptoRow : OpenClaim := { program := "ytbiaoocflpkmeaadoor", sum := "cf6c884927b066433c8fd99a68d1d0ef1e8730f77d95574a82f5d3214b90720e", func := "forepeak/forepeaklaw28.LaneSteps", spec := "laneSteps", named := ["forepeak/lane.ends"], apart := false, laid := [("forepeak/lane.ends", laid_forepeak_lane_ends)], narrowed := true }
def LaneStepsUptoSaid : Prop := laneStepsUptoRow.holds Tryd.pinned (OpenSpec.upto laneStepsSpec)

/-- 'forepeaklaw28.LaneLength', WHERE WHAT IT READS IS OF BULK AT MOST 1048576: true; the input reads as it did. -/
def laneLengthUptoRow : OpenClaim := { program := "ytbiaoocflpkmeaadoor", sum := "cf6c884927b066433c8fd99a68d1d0ef1e8730f77d95574a82f5d3214b90720e", func := "forepeak/forepeaklaw28.LaneLength", spec := "laneLength", named := ["forepeak/lane.ends"], apart := false, laid := [("forepeak/lane.ends", laid_forepeak_lane_ends)], narrowed := true }
def LaneLengthUptoSaid : Prop := laneLengthUptoRow.holds Tryd.pinned (OpenSpec.upto laneLengthSpec)

end Rows
end Go.Proofs.YtbiaoocflpkmeaaDoor
