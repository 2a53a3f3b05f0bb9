/-
  NARROWER THAN 'FOR EVERY INPUT', by the rows' own cells (each row's printed sentence says how): FenceTells: laid · FenceFew: laid · FenceFlows: laid · MessageTells: laid · MessageBytes: laid · PolicyTells: laid · PolicyHides: laid · PolicyMore: laid · PolicyBytes: laid · PolicyMaps: laid.
  DERIVED. THE GIVEN ROWS OF THIS SEAT. 10 by the template 'for every input the law returns true; each argument reads behind the call as it read before'; 0 by the template 'total and deterministic' (their statements: YtjdkjlmcnpjohaaDoorTotals.lean).
  GIVEN WITH THE SEED: the statements are not yours to turn. If you find one false, say at which input.
  Laid BY PROGRAM, IN A SANDBOX (cutbox-rows.mjs): the forced cells as the released guide's own fill.sh prints them over the translation d86fbf2f550ffb39… (all of the seat's roots in one cut). By AI agents, Wed Nov 11 2026. No macro, syntax, notation, axiom, sorry.
-/
import Derived.Test.YtjdkjlmcnpjohaaDoorChecked
import GoSem.Claim
import GoSem.ClaimJoined
import GoSem.ClaimMapViews
import Derived.JoinedTies
import Derived.KernelRfl
namespace Go.Proofs.YtjdkjlmcnpjohaaDoor
/- THE CELL 'sum', in the pinned program and in every row, IS THE sha256 OF THE DUMP (.gsa) THAT YtjdkjlmcnpjohaaDoorProg.lean LOADS. Nothing in Lean hashes anything: it is a label: what it is worth is what the hold of that sum in a sandbox is worth. -/
noncomputable def Tryd.pinned : Pinned := { name := "ytjdkjlmcnpjohaadoor", sum := "d86fbf2f550ffb3993a19e73162b921ff81737db3f17f7c44a0ae5e4b64be53d", checked := Tryd.checked }
namespace Rows
def none {H : Type} : Left H := { results := [], args := [] }

/- WHAT THE LISTED PACKAGE-LEVEL VARIABLES READ AS WHEN THE CALL BEGINS. Each datum BY PROGRAM (the guide's laid-datum.mjs) off the statement by which the dump's own 'gosem.cut.vars' lays the variable. In a bare row this is a premise. The card (YtjdkjlmcnpjohaaDoorCards.lean) ties it to the program's text. -/
def laid_math_bits_deBruijn32tab {H : Type} : DataW H := .agg [.lit (.int .u8 0), .lit (.int .u8 1), .lit (.int .u8 28), .lit (.int .u8 2), .lit (.int .u8 29), .lit (.int .u8 14), .lit (.int .u8 24), .lit (.int .u8 3), .lit (.int .u8 30), .lit (.int .u8 22), .lit (.int .u8 20), .lit (.int .u8 15), .lit (.int .u8 25), .lit (.int .u8 17), .lit (.int .u8 4), .lit (.int .u8 8), .lit (.int .u8 31), .lit (.int .u8 27), .lit (.int .u8 13), .lit (.int .u8 23), .lit (.int .u8 21), .lit (.int .u8 19), .lit (.int .u8 16), .lit (.int .u8 7), .lit (.int .u8 26), .lit (.int .u8 12), .lit (.int .u8 18), .lit (.int .u8 6), .lit (.int .u8 11), .lit (.int .u8 5), .lit (.int .u8 10), .lit (.int .u8 9)]

/-- 'forepeaklaw29.FenceTells': WHATEVER THE INPUT: true; the input reads as it did. -/
def fenceTellsSpec : ChangeSpec := { name := "fenceTells", fn := fun _ => fun
  | [d1, d2, d3] => { results := [.lit (.bool true)], args := [d1, d2, d3] }
  | _ => none }
def fenceTellsRow : OpenClaim := { program := "ytjdkjlmcnpjohaadoor", sum := "d86fbf2f550ffb3993a19e73162b921ff81737db3f17f7c44a0ae5e4b64be53d", func := "forepeak/forepeaklaw29.FenceTells", spec := "fenceTells", unfollowed := true, recurses := true, named := ["math/bits.deBruijn32tab"], apart := false, laid := [("math/bits.deBruijn32tab", laid_math_bits_deBruijn32tab)] }
def FenceTellsSaid : Prop := fenceTellsRow.holds Tryd.pinned (OpenSpec.ofChange fenceTellsSpec)

/-- ITS FALSE NEIGHBOUR: 'it returns false'. Refute it at one input. -/
def fenceTellsWrong : ChangeSpec := { name := "fenceTells", fn := fun _ => fun
  | [d1, d2, d3] => { results := [.lit (.bool false)], args := [d1, d2, d3] }
  | _ => none }
def FenceTellsWrongFalsely : Prop := fenceTellsRow.holds Tryd.pinned (OpenSpec.ofChange fenceTellsWrong)

/-- 'forepeaklaw29.FenceFew': WHATEVER THE INPUT: true; the input reads as it did. -/
def fenceFewSpec : ChangeSpec := { name := "fenceFew", fn := fun _ => fun
  | [d1, d2] => { results := [.lit (.bool true)], args := [d1, d2] }
  | _ => none }
def fenceFewRow : OpenClaim := { program := "ytjdkjlmcnpjohaadoor", sum := "d86fbf2f550ffb3993a19e73162b921ff81737db3f17f7c44a0ae5e4b64be53d", func := "forepeak/forepeaklaw29.FenceFew", spec := "fenceFew", unfollowed := true, recurses := true, named := ["math/bits.deBruijn32tab"], apart := false, laid := [("math/bits.deBruijn32tab", laid_math_bits_deBruijn32tab)] }
def FenceFewSaid : Prop := fenceFewRow.holds Tryd.pinned (OpenSpec.ofChange fenceFewSpec)

/-- ITS FALSE NEIGHBOUR: 'it returns false'. Refute it at one input. -/
def fenceFewWrong : ChangeSpec := { name := "fenceFew", fn := fun _ => fun
  | [d1, d2] => { results := [.lit (.bool false)], args := [d1, d2] }
  | _ => none }
def FenceFewWrongFalsely : Prop := fenceFewRow.holds Tryd.pinned (OpenSpec.ofChange fenceFewWrong)

/-- 'forepeaklaw29.FenceFlows': WHATEVER THE INPUT: true; the input reads as it did. -/
def fenceFlowsSpec : ChangeSpec := { name := "fenceFlows", fn := fun _ => fun
  | [d1, d2, d3] => { results := [.lit (.bool true)], args := [d1, d2, d3] }
  | _ => none }
def fenceFlowsRow : OpenClaim := { program := "ytjdkjlmcnpjohaadoor", sum := "d86fbf2f550ffb3993a19e73162b921ff81737db3f17f7c44a0ae5e4b64be53d", func := "forepeak/forepeaklaw29.FenceFlows", spec := "fenceFlows", unfollowed := true, recurses := true, named := ["math/bits.deBruijn32tab"], apart := false, laid := [("math/bits.deBruijn32tab", laid_math_bits_deBruijn32tab)] }
def FenceFlowsSaid : Prop := fenceFlowsRow.holds Tryd.pinned (OpenSpec.ofChange fenceFlowsSpec)

/-- ITS FALSE NEIGHBOUR: 'it returns false'. Refute it at one input. -/
def fenceFlowsWrong : ChangeSpec := { name := "fenceFlows", fn := fun _ => fun
  | [d1, d2, d3] => { results := [.lit (.bool false)], args := [d1, d2, d3] }
  | _ => none }
def FenceFlowsWrongFalsely : Prop := fenceFlowsRow.holds Tryd.pinned (OpenSpec.ofChange fenceFlowsWrong)

/-- 'forepeaklaw22.MessageTells': WHATEVER THE INPUT: true; the input reads as it did. -/
def messageTellsSpec : ChangeSpec := { name := "messageTells", fn := fun _ => fun
  | [d1, d2, d3] => { results := [.lit (.bool true)], args := [d1, d2, d3] }
  | _ => none }
def messageTellsRow : OpenClaim := { program := "ytjdkjlmcnpjohaadoor", sum := "d86fbf2f550ffb3993a19e73162b921ff81737db3f17f7c44a0ae5e4b64be53d", func := "forepeak/forepeaklaw22.MessageTells", spec := "messageTells", unfollowed := true, recurses := true, named := ["math/bits.deBruijn32tab"], apart := false, laid := [("math/bits.deBruijn32tab", laid_math_bits_deBruijn32tab)] }
def MessageTellsSaid : Prop := messageTellsRow.holds Tryd.pinned (OpenSpec.ofChange messageTellsSpec)

/-- ITS FALSE NEIGHBOUR: 'it returns false'. Refute it at one input. -/
def messageTellsWrong : ChangeSpec := { name := "messageTells", fn := fun _ => fun
  | [d1, d2, d3] => { results := [.lit (.bool false)], args := [d1, d2, d3] }
  | _ => none }
def MessageTellsWrongFalsely : Prop := messageTellsRow.holds Tryd.pinned (OpenSpec.ofChange messageTellsWrong)

/-- 'forepeaklaw22.MessageBytes': WHATEVER THE INPUT: true; the input reads as it did. -/
def messageBytesSpec : ChangeSpec := { name := "messageBytes", fn := fun _ => fun
  | [d1, d2] => { results := [.lit (.bool true)], args := [d1, d2] }
  | _ => none }
def messageBytesRow : OpenClaim := { program := "ytjdkjlmcnpjohaadoor", sum := "d86fbf2f550ffb3993a19e73162b921ff81737db3f17f7c44a0ae5e4b64be53d", func := "forepeak/forepeaklaw22.MessageBytes", spec := "messageBytes", unfollowed := true, recurses := true, named := ["math/bits.deBruijn32tab"], apart := false, laid := [("math/bits.deBruijn32tab", laid_math_bits_deBruijn32tab)] }
def MessageBytesSaid : Prop := messageBytesRow.holds Tryd.pinned (OpenSpec.ofChange messageBytesSpec)

/-- ITS FALSE NEIGHBOUR: 'it returns false'. Refute it at one input. -/
def messageBytesWrong : ChangeSpec := { name := "messageBytes", fn := fun _ => fun
  | [d1, d2] => { results := [.lit (.bool false)], args := [d1, d2] }
  | _ => none }
def MessageBytesWrongFalsely : Prop := messageBytesRow.holds Tryd.pinned (OpenSpec.ofChange messageBytesWrong)

/-- 'forepeaklaw12.PolicyTells': WHATEVER THE INPUT: true; the input reads as it did. -/
def policyTellsSpec : ChangeSpec := { name := "policyTells", fn := fun _ => fun
  | [d] => { results := [.lit (.bool true)], args := [d] }
  | _ => none }
def policyTellsRow : OpenClaim := { program := "ytjdkjlmcnpjohaadoor", sum := "d86fbf2f550ffb3993a19e73162b921ff81737db3f17f7c44a0ae5e4b64be53d", func := "forepeak/forepeaklaw12.PolicyTells", spec := "policyTells", unfollowed := true, recurses := true, named := ["math/bits.deBruijn32tab"], apart := false, laid := [("math/bits.deBruijn32tab", laid_math_bits_deBruijn32tab)] }
def PolicyTellsSaid : Prop := policyTellsRow.holds Tryd.pinned (OpenSpec.ofChange policyTellsSpec)

/-- ITS FALSE NEIGHBOUR: 'it returns false'. Refute it at one input. -/
def policyTellsWrong : ChangeSpec := { name := "policyTells", fn := fun _ => fun
  | [d] => { results := [.lit (.bool false)], args := [d] }
  | _ => none }
def PolicyTellsWrongFalsely : Prop := policyTellsRow.holds Tryd.pinned (OpenSpec.ofChange policyTellsWrong)

/-- 'forepeaklaw12.PolicyHides': WHATEVER THE INPUT: true; the input reads as it did. -/
def policyHidesSpec : ChangeSpec := { name := "policyHides", fn := fun _ => fun
  | [d1, d2, d3, d4] => { results := [.lit (.bool true)], args := [d1, d2, d3, d4] }
  | _ => none }
def policyHidesRow : OpenClaim := { program := "ytjdkjlmcnpjohaadoor", sum := "d86fbf2f550ffb3993a19e73162b921ff81737db3f17f7c44a0ae5e4b64be53d", func := "forepeak/forepeaklaw12.PolicyHides", spec := "policyHides", unfollowed := true, recurses := true, named := ["math/bits.deBruijn32tab"], apart := false, laid := [("math/bits.deBruijn32tab", laid_math_bits_deBruijn32tab)] }
def PolicyHidesSaid : Prop := policyHidesRow.holds Tryd.pinned (OpenSpec.ofChange policyHidesSpec)

/-- ITS FALSE NEIGHBOUR: 'it returns false'. Refute it at one input. -/
def policyHidesWrong : ChangeSpec := { name := "policyHides", fn := fun _ => fun
  | [d1, d2, d3, d4] => { results := [.lit (.bool false)], args := [d1, d2, d3, d4] }
  | _ => none }
def PolicyHidesWrongFalsely : Prop := policyHidesRow.holds Tryd.pinned (OpenSpec.ofChange policyHidesWrong)

/-- 'forepeaklaw12.PolicyMore': WHATEVER THE INPUT: true; the input reads as it did. -/
def policyMoreSpec : ChangeSpec := { name := "policyMore", fn := fun _ => fun
  | [d1, d2, d3, d4] => { results := [.lit (.bool true)], args := [d1, d2, d3, d4] }
  | _ => none }
def policyMoreRow : OpenClaim := { program := "ytjdkjlmcnpjohaadoor", sum := "d86fbf2f550ffb3993a19e73162b921ff81737db3f17f7c44a0ae5e4b64be53d", func := "forepeak/forepeaklaw12.PolicyMore", spec := "policyMore", unfollowed := true, recurses := true, named := ["math/bits.deBruijn32tab"], apart := false, laid := [("math/bits.deBruijn32tab", laid_math_bits_deBruijn32tab)] }
def PolicyMoreSaid : Prop := policyMoreRow.holds Tryd.pinned (OpenSpec.ofChange policyMoreSpec)

/-- ITS FALSE NEIGHBOUR: 'it returns false'. Refute it at one input. -/
def policyMoreWrong : ChangeSpec := { name := "policyMore", fn := fun _ => fun
  | [d1, d2, d3, d4] => { results := [.lit (.bool false)], args := [d1, d2, d3, d4] }
  | _ => none }
def PolicyMoreWrongFalsely : Prop := policyMoreRow.holds Tryd.pinned (OpenSpec.ofChange policyMoreWrong)

/-- 'forepeaklaw12.PolicyBytes': WHATEVER THE INPUT: true; the input reads as it did. -/
def policyBytesSpec : ChangeSpec := { name := "policyBytes", fn := fun _ => fun
  | [d1, d2] => { results := [.lit (.bool true)], args := [d1, d2] }
  | _ => none }
def policyBytesRow : OpenClaim := { program := "ytjdkjlmcnpjohaadoor", sum := "d86fbf2f550ffb3993a19e73162b921ff81737db3f17f7c44a0ae5e4b64be53d", func := "forepeak/forepeaklaw12.PolicyBytes", spec := "policyBytes", unfollowed := true, recurses := true, named := ["math/bits.deBruijn32tab"], apart := false, laid := [("math/bits.deBruijn32tab", laid_math_bits_deBruijn32tab)] }
def PolicyBytesSaid : Prop := policyBytesRow.holds Tryd.pinned (OpenSpec.ofChange policyBytesSpec)

/-- ITS FALSE NEIGHBOUR: 'it returns false'. Refute it at one input. -/
def policyBytesWrong : ChangeSpec := { name := "policyBytes", fn := fun _ => fun
  | [d1, d2] => { results := [.lit (.bool false)], args := [d1, d2] }
  | _ => none }
def PolicyBytesWrongFalsely : Prop := policyBytesRow.holds Tryd.pinned (OpenSpec.ofChange policyBytesWrong)

/-- 'forepeaklaw12.PolicyMaps': WHATEVER THE INPUT: true; the input reads as it did. -/
def policyMapsSpec : ChangeSpec := { name := "policyMaps", fn := fun _ => fun
  | [d1, d2] => { results := [.lit (.bool true)], args := [d1, d2] }
  | _ => none }
def policyMapsRow : OpenClaim := { program := "ytjdkjlmcnpjohaadoor", sum := "d86fbf2f550ffb3993a19e73162b921ff81737db3f17f7c44a0ae5e4b64be53d", func := "forepeak/forepeaklaw12.PolicyMaps", spec := "policyMaps", unfollowed := true, recurses := true, named := ["math/bits.deBruijn32tab"], apart := false, laid := [("math/bits.deBruijn32tab", laid_math_bits_deBruijn32tab)] }
def PolicyMapsSaid : Prop := policyMapsRow.holds Tryd.pinned (OpenSpec.ofChange policyMapsSpec)

/-- ITS FALSE NEIGHBOUR: 'it returns false'. Refute it at one input. -/
def policyMapsWrong : ChangeSpec := { name := "policyMaps", fn := fun _ => fun
  | [d1, d2] => { results := [.lit (.bool false)], args := [d1, d2] }
  | _ => none }
def PolicyMapsWrongFalsely : Prop := policyMapsRow.holds Tryd.pinned (OpenSpec.ofChange policyMapsWrong)

/- THE SECOND FORM. 'bulk': how many values and letters a reading holds, each counted each time it is reached (what is shared counts as often as it is met; a slice's spare places count too). A statement '..UptoSaid' is the law's where the arguments, and the package variables that the reading takes, are together of bulk at most 1048576: NARROWER than '..Said'. Prove '..Said' where nothing that the law and all that it calls make is longer than what came in: it says more and counts as full. Else prove '..UptoSaid'. A law counts once. -/
mutual
def uptoBulk {H : Type} : DataW H → Nat
  | .lit (.string bytes) => bytes.length + 1
  | .lit _ => 1
  | .nil => 1
  | .ptr d => uptoBulk d + 1
  | .slice elems spare => uptoBulkAll elems + uptoBulkAll spare + 1
  | .agg parts => uptoBulkAll parts + 1
  | .iface _ d => uptoBulk d + 1
  | .map entries => uptoBulkEntries entries + 1
  | .held _ => 1
def uptoBulkAll {H : Type} : List (DataW H) → Nat
  | [] => 0
  | d :: r => uptoBulk d + uptoBulkAll r
def uptoBulkEntries {H : Type} : List (Lit × DataW H) → Nat
  | [] => 0
  | x :: r => uptoBulkEntry x + uptoBulkEntries r
def uptoBulkEntry {H : Type} : Lit × DataW H → Nat
  | (.string bytes, d) => bytes.length + uptoBulk d + 1
  | (_, d) => uptoBulk d + 1
 end
def uptoSmall : (H : Type) → List (DataW H) → Bool := fun _ ds => decide (uptoBulkAll ds ≤ 1048576)
def OpenSpec.upto (s : _root_.Go.ChangeSpec) : _root_.Go.OpenSpec := { _root_.Go.OpenSpec.ofChange s with cond := some uptoSmall }

/-- 'forepeaklaw29.FenceTells', WHERE WHAT IT READS IS OF BULK AT MOST 1048576: true; the input reads as it did. -/
def fenceTellsUptoRow : OpenClaim := { program := "ytjdkjlmcnpjohaadoor", sum := "d86fbf2f550ffb3993a19e73162b921ff81737db3f17f7c44a0ae5e4b64be53d", func := "forepeak/forepeaklaw29.FenceTells", spec := "fenceTells", unfollowed := true, recurses := true, named := ["math/bits.deBruijn32tab"], apart := false, laid := [("math/bits.deBruijn32tab", laid_math_bits_deBruijn32tab)], narrowed := true }
def FenceTellsUptoSaid : Prop := fenceTellsUptoRow.holds Tryd.pinned (OpenSpec.upto fenceTellsSpec)

/-- 'forepeaklaw29.FenceFew', WHERE WHAT IT READS IS OF BULK AT MOST 1048576: true; the input reads as it did. -/
def fenceFewUptoRow : OpenClaim := { program := "ytjdkjlmcnpjohaadoor", sum := "d86fbf2f550ffb3993a19e73162b921ff81737db3f17f7c44a0ae5e4b64be53d", func := "forepeak/forepeaklaw29.FenceFew", spec := "fenceFew", unfollowed := true, recurses := true, named := ["math/bits.deBruijn32tab"], apart := false, laid := [("math/bits.deBruijn32tab", laid_math_bits_deBruijn32tab)], narrowed := true }
def FenceFewUptoSaid : Prop := fenceFewUptoRow.holds Tryd.pinned (OpenSpec.upto fenceFewSpec)

/-- 'forepeaklaw29.FenceFlows', WHERE WHAT IT READS IS OF BULK AT MOST 1048576: true; the input reads as it did. -/
def fenceFlowsUptoRow : OpenClaim := { program := "ytjdkjlmcnpjohaadoor", sum := "d86fbf2f550ffb3993a19e73162b921ff81737db3f17f7c44a0ae5e4b64be53d", func := "forepeak/forepeaklaw29.FenceFlows", spec := "fenceFlows", unfollowed := true, recurses := true, named := ["math/bits.deBruijn32tab"], apart := false, laid := [("math/bits.deBruijn32tab", laid_math_bits_deBruijn32tab)], narrowed := true }
def FenceFlowsUptoSaid : Prop := fenceFlowsUptoRow.holds Tryd.pinned (OpenSpec.upto fenceFlowsSpec)

/-- 'forepeaklaw22.MessageTells', WHERE WHAT IT READS IS OF BULK AT MOST 1048576: true; the input reads as it did. -/
def messageTellsUptoRow : OpenClaim := { program := "ytjdkjlmcnpjohaadoor", sum := "d86fbf2f550ffb3993a19e73162b921ff81737db3f17f7c44a0ae5e4b64be53d", func := "forepeak/forepeaklaw22.MessageTells", spec := "messageTells", unfollowed := true, recurses := true, named := ["math/bits.deBruijn32tab"], apart := false, laid := [("math/bits.deBruijn32tab", laid_math_bits_deBruijn32tab)], narrowed := true }
def MessageTellsUptoSaid : Prop := messageTellsUptoRow.holds Tryd.pinned (OpenSpec.upto messageTellsSpec)

/-- 'forepeaklaw22.MessageBytes', WHERE WHAT IT READS IS OF BULK AT MOST 1048576: true; the input reads as it did. -/
def messageBytesUptoRow : OpenClaim := { program := "ytjdkjlmcnpjohaadoor", sum := "d86fbf2f550ffb3993a19e73162b921ff81737db3f17f7c44a0ae5e4b64be53d", func := "forepeak/forepeaklaw22.MessageBytes", spec := "messageBytes", unfollowed := true, recurses := true, named := ["math/bits.deBruijn32tab"], apart := false, laid := [("math/bits.deBruijn32tab", laid_math_bits_deBruijn32tab)], narrowed := true }
def MessageBytesUptoSaid : Prop := messageBytesUptoRow.holds Tryd.pinned (OpenSpec.upto messageBytesSpec)

/-- 'forepeaklaw12.PolicyTells', WHERE WHAT IT READS IS OF BULK AT MOST 1048576: true; the input reads as it did. -/
def policyTellsUptoRow : OpenClaim := { program := "ytjdkjlmcnpjohaadoor", sum := "d86fbf2f550ffb3993a19e73162b921ff81737db3f17f7c44a0ae5e4b64be53d", func := "forepeak/forepeaklaw12.PolicyTells", spec := "policyTells", unfollowed := true, recurses := true, named := ["math/bits.deBruijn32tab"], apart := false, laid := [("math/bits.deBruijn32tab", laid_math_bits_deBruijn32tab)], narrowed := true }
def PolicyTellsUptoSaid : Prop := policyTellsUptoRow.holds Tryd.pinned (OpenSpec.upto policyTellsSpec)

/-- 'forepeaklaw12.PolicyHides', WHERE WHAT IT READS IS OF BULK AT MOST 1048576: true; the input reads as it did. -/
def policyHidesUptoRow : OpenClaim := { program := "ytjdkjlmcnpjohaadoor", sum := "d86fbf2f550ffb3993a19e73162b921ff81737db3f17f7c44a0ae5e4b64be53d", func := "forepeak/forepeaklaw12.PolicyHides", spec := "policyHides", unfollowed := true, recurses := true, named := ["math/bits.deBruijn32tab"], apart := false, laid := [("math/bits.deBruijn32tab", laid_math_bits_deBruijn32tab)], narrowed := true }
def PolicyHidesUptoSaid : Prop := policyHidesUptoRow.holds Tryd.pinned (OpenSpec.upto policyHidesSpec)

/-- 'forepeaklaw12.PolicyMore', WHERE WHAT IT READS IS OF BULK AT MOST 1048576: true; the input reads as it did. -/
def policyMoreUptoRow : OpenClaim := { program := "ytjdkjlmcnpjohaadoor", sum := "d86fbf2f550ffb3993a19e73162b921ff81737db3f17f7c44a0ae5e4b64be53d", func := "forepeak/forepeaklaw12.PolicyMore", spec := "policyMore", unfollowed := true, recurses := true, named := ["math/bits.deBruijn32tab"], apart := false, laid := [("math/bits.deBruijn32tab", laid_math_bits_deBruijn32tab)], narrowed := true }
def PolicyMoreUptoSaid : Prop := policyMoreUptoRow.holds Tryd.pinned (OpenSpec.upto policyMoreSpec)

/-- 'forepeaklaw12.PolicyBytes', WHERE WHAT IT READS IS OF BULK AT MOST 1048576: true; the input reads as it did. -/
def policyBytesUptoRow : OpenClaim := { program := "ytjdkjlmcnpjohaadoor", sum := "d86fbf2f550ffb3993a19e73162b921ff81737db3f17f7c44a0ae5e4b64be53d", func := "forepeak/forepeaklaw12.PolicyBytes", spec := "policyBytes", unfollowed := true, recurses := true, named := ["math/bits.deBruijn32tab"], apart := false, laid := [("math/bits.deBruijn32tab", laid_math_bits_deBruijn32tab)], narrowed := true }
def PolicyBytesUptoSaid : Prop := policyBytesUptoRow.holds Tryd.pinned (OpenSpec.upto policyBytesSpec)

/-- 'forepeaklaw12.PolicyMaps', WHERE WHAT IT READS IS OF BULK AT MOST 1048576: true; the input reads as it did. -/
def policyMapsUptoRow : OpenClaim := { program := "ytjdkjlmcnpjohaadoor", sum := "d86fbf2f550ffb3993a19e73162b921ff81737db3f17f7c44a0ae5e4b64be53d", func := "forepeak/forepeaklaw12.PolicyMaps", spec := "policyMaps", unfollowed := true, recurses := true, named := ["math/bits.deBruijn32tab"], apart := false, laid := [("math/bits.deBruijn32tab", laid_math_bits_deBruijn32tab)], narrowed := true }
def PolicyMapsUptoSaid : Prop := policyMapsUptoRow.holds Tryd.pinned (OpenSpec.upto policyMapsSpec)

end Rows
end Go.Proofs.YtjdkjlmcnpjohaaDoor
