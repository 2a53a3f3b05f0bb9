/-
  No cell of these rows narrows 'for every input' (looked for: loops, veiled, ifaces, maps, wideKeys, modest, calm, conditions, laid).
  DERIVED. THE GIVEN ROWS OF THIS SEAT. 10 by the template 'for every input the law returns true; each argument reads behind the call as it read before'; 0 by the template 'total and deterministic' (their statements: YtmohadlgjokgmaaTotals.lean).
  GIVEN WITH THE SEED: the statements are not yours to turn. If you find one false, say at which input.
  Laid BY PROGRAM, IN A SANDBOX (cutbox-rows.mjs): the forced cells as the released guide's own fill.sh prints them over the translation 16a21415e0fb3613… (all of the seat's roots in one cut). By AI agents, Wed Nov 11 2026. No macro, syntax, notation, axiom, sorry.
-/
import Derived.Test.YtmohadlgjokgmaaChecked
import GoSem.Claim
import GoSem.ClaimJoined
import GoSem.ClaimMapViews
import Derived.JoinedTies
import Derived.KernelRfl
namespace Go.Proofs.Ytmohadlgjokgmaa
/- THE CELL 'sum', in the pinned program and in every row, IS THE sha256 OF THE DUMP (.gsa) THAT YtmohadlgjokgmaaProg.lean LOADS. Nothing in Lean hashes anything: it is a label: what it is worth is what the hold of that sum in a sandbox is worth. -/
noncomputable def Try.pinned : Pinned := { name := "ytmohadlgjokgmaa", sum := "16a21415e0fb361383943d3de86bf43f1fd3a272fb1bd53d9bfd4f71b3ee5e41", checked := Try.checked }
namespace Rows
def none {H : Type} : Left H := { results := [], args := [] }

/-- 'forepeaklaw33.UndoOnes': WHATEVER THE INPUT: true; the input reads as it did. -/
def undoOnesSpec : ChangeSpec := { name := "undoOnes", fn := fun _ => fun
  | [d1, d2, d3, d4] => { results := [.lit (.bool true)], args := [d1, d2, d3, d4] }
  | _ => none }
def undoOnesRow : OpenClaim := { program := "ytmohadlgjokgmaa", sum := "16a21415e0fb361383943d3de86bf43f1fd3a272fb1bd53d9bfd4f71b3ee5e41", func := "forepeak/forepeaklaw33.UndoOnes", spec := "undoOnes", unfollowed := true, recurses := true, apart := false }
def UndoOnesSaid : Prop := undoOnesRow.holds Try.pinned (OpenSpec.ofChange undoOnesSpec)

/-- ITS FALSE NEIGHBOUR: 'it returns false'. Refute it at one input. -/
def undoOnesWrong : ChangeSpec := { name := "undoOnes", fn := fun _ => fun
  | [d1, d2, d3, d4] => { results := [.lit (.bool false)], args := [d1, d2, d3, d4] }
  | _ => none }
def UndoOnesWrongFalsely : Prop := undoOnesRow.holds Try.pinned (OpenSpec.ofChange undoOnesWrong)

/-- 'forepeaklaw33.UndoBack': WHATEVER THE INPUT: true; the input reads as it did. -/
def undoBackSpec : ChangeSpec := { name := "undoBack", fn := fun _ => fun
  | [d1, d2, d3, d4] => { results := [.lit (.bool true)], args := [d1, d2, d3, d4] }
  | _ => none }
def undoBackRow : OpenClaim := { program := "ytmohadlgjokgmaa", sum := "16a21415e0fb361383943d3de86bf43f1fd3a272fb1bd53d9bfd4f71b3ee5e41", func := "forepeak/forepeaklaw33.UndoBack", spec := "undoBack", unfollowed := true, recurses := true, apart := false }
def UndoBackSaid : Prop := undoBackRow.holds Try.pinned (OpenSpec.ofChange undoBackSpec)

/-- ITS FALSE NEIGHBOUR: 'it returns false'. Refute it at one input. -/
def undoBackWrong : ChangeSpec := { name := "undoBack", fn := fun _ => fun
  | [d1, d2, d3, d4] => { results := [.lit (.bool false)], args := [d1, d2, d3, d4] }
  | _ => none }
def UndoBackWrongFalsely : Prop := undoBackRow.holds Try.pinned (OpenSpec.ofChange undoBackWrong)

/-- 'forepeaklaw23.BoxOrder': WHATEVER THE INPUT: true; the input reads as it did. -/
def boxOrderSpec : ChangeSpec := { name := "boxOrder", fn := fun _ => fun
  | [d] => { results := [.lit (.bool true)], args := [d] }
  | _ => none }
def boxOrderRow : OpenClaim := { program := "ytmohadlgjokgmaa", sum := "16a21415e0fb361383943d3de86bf43f1fd3a272fb1bd53d9bfd4f71b3ee5e41", func := "forepeak/forepeaklaw23.BoxOrder", spec := "boxOrder", unfollowed := true, recurses := true, apart := false }
def BoxOrderSaid : Prop := boxOrderRow.holds Try.pinned (OpenSpec.ofChange boxOrderSpec)

/-- ITS FALSE NEIGHBOUR: 'it returns false'. Refute it at one input. -/
def boxOrderWrong : ChangeSpec := { name := "boxOrder", fn := fun _ => fun
  | [d] => { results := [.lit (.bool false)], args := [d] }
  | _ => none }
def BoxOrderWrongFalsely : Prop := boxOrderRow.holds Try.pinned (OpenSpec.ofChange boxOrderWrong)

/-- 'forepeaklaw23.BoxRestores': WHATEVER THE INPUT: true; the input reads as it did. -/
def boxRestoresSpec : ChangeSpec := { name := "boxRestores", fn := fun _ => fun
  | [d1, d2, d3, d4] => { results := [.lit (.bool true)], args := [d1, d2, d3, d4] }
  | _ => none }
def boxRestoresRow : OpenClaim := { program := "ytmohadlgjokgmaa", sum := "16a21415e0fb361383943d3de86bf43f1fd3a272fb1bd53d9bfd4f71b3ee5e41", func := "forepeak/forepeaklaw23.BoxRestores", spec := "boxRestores", unfollowed := true, recurses := true, apart := false }
def BoxRestoresSaid : Prop := boxRestoresRow.holds Try.pinned (OpenSpec.ofChange boxRestoresSpec)

/-- ITS FALSE NEIGHBOUR: 'it returns false'. Refute it at one input. -/
def boxRestoresWrong : ChangeSpec := { name := "boxRestores", fn := fun _ => fun
  | [d1, d2, d3, d4] => { results := [.lit (.bool false)], args := [d1, d2, d3, d4] }
  | _ => none }
def BoxRestoresWrongFalsely : Prop := boxRestoresRow.holds Try.pinned (OpenSpec.ofChange boxRestoresWrong)

/-- 'forepeaklaw23.BoxPlays': WHATEVER THE INPUT: true; the input reads as it did. -/
def boxPlaysSpec : ChangeSpec := { name := "boxPlays", fn := fun _ => fun
  | [d] => { results := [.lit (.bool true)], args := [d] }
  | _ => none }
def boxPlaysRow : OpenClaim := { program := "ytmohadlgjokgmaa", sum := "16a21415e0fb361383943d3de86bf43f1fd3a272fb1bd53d9bfd4f71b3ee5e41", func := "forepeak/forepeaklaw23.BoxPlays", spec := "boxPlays", unfollowed := true, recurses := true, apart := false }
def BoxPlaysSaid : Prop := boxPlaysRow.holds Try.pinned (OpenSpec.ofChange boxPlaysSpec)

/-- ITS FALSE NEIGHBOUR: 'it returns false'. Refute it at one input. -/
def boxPlaysWrong : ChangeSpec := { name := "boxPlays", fn := fun _ => fun
  | [d] => { results := [.lit (.bool false)], args := [d] }
  | _ => none }
def BoxPlaysWrongFalsely : Prop := boxPlaysRow.holds Try.pinned (OpenSpec.ofChange boxPlaysWrong)

/-- 'forepeaklaw33.UndoMay': WHATEVER THE INPUT: true; the input reads as it did. -/
def undoMaySpec : ChangeSpec := { name := "undoMay", fn := fun _ => fun
  | [d1, d2, d3] => { results := [.lit (.bool true)], args := [d1, d2, d3] }
  | _ => none }
def undoMayRow : OpenClaim := { program := "ytmohadlgjokgmaa", sum := "16a21415e0fb361383943d3de86bf43f1fd3a272fb1bd53d9bfd4f71b3ee5e41", func := "forepeak/forepeaklaw33.UndoMay", spec := "undoMay", unfollowed := true, recurses := true, apart := false }
def UndoMaySaid : Prop := undoMayRow.holds Try.pinned (OpenSpec.ofChange undoMaySpec)

/-- ITS FALSE NEIGHBOUR: 'it returns false'. Refute it at one input. -/
def undoMayWrong : ChangeSpec := { name := "undoMay", fn := fun _ => fun
  | [d1, d2, d3] => { results := [.lit (.bool false)], args := [d1, d2, d3] }
  | _ => none }
def UndoMayWrongFalsely : Prop := undoMayRow.holds Try.pinned (OpenSpec.ofChange undoMayWrong)

/-- 'forepeaklaw23.BoxBytes': WHATEVER THE INPUT: true; the input reads as it did. -/
def boxBytesSpec : ChangeSpec := { name := "boxBytes", fn := fun _ => fun
  | [d1, d2] => { results := [.lit (.bool true)], args := [d1, d2] }
  | _ => none }
def boxBytesRow : OpenClaim := { program := "ytmohadlgjokgmaa", sum := "16a21415e0fb361383943d3de86bf43f1fd3a272fb1bd53d9bfd4f71b3ee5e41", func := "forepeak/forepeaklaw23.BoxBytes", spec := "boxBytes", unfollowed := true, recurses := true, apart := false }
def BoxBytesSaid : Prop := boxBytesRow.holds Try.pinned (OpenSpec.ofChange boxBytesSpec)

/-- ITS FALSE NEIGHBOUR: 'it returns false'. Refute it at one input. -/
def boxBytesWrong : ChangeSpec := { name := "boxBytes", fn := fun _ => fun
  | [d1, d2] => { results := [.lit (.bool false)], args := [d1, d2] }
  | _ => none }
def BoxBytesWrongFalsely : Prop := boxBytesRow.holds Try.pinned (OpenSpec.ofChange boxBytesWrong)

/-- 'forepeaklaw25.ObjectTells': WHATEVER THE INPUT: true; the input reads as it did. -/
def objectTellsSpec : ChangeSpec := { name := "objectTells", fn := fun _ => fun
  | [d1, d2] => { results := [.lit (.bool true)], args := [d1, d2] }
  | _ => none }
def objectTellsRow : OpenClaim := { program := "ytmohadlgjokgmaa", sum := "16a21415e0fb361383943d3de86bf43f1fd3a272fb1bd53d9bfd4f71b3ee5e41", func := "forepeak/forepeaklaw25.ObjectTells", spec := "objectTells", unfollowed := true, recurses := true, apart := false }
def ObjectTellsSaid : Prop := objectTellsRow.holds Try.pinned (OpenSpec.ofChange objectTellsSpec)

/-- ITS FALSE NEIGHBOUR: 'it returns false'. Refute it at one input. -/
def objectTellsWrong : ChangeSpec := { name := "objectTells", fn := fun _ => fun
  | [d1, d2] => { results := [.lit (.bool false)], args := [d1, d2] }
  | _ => none }
def ObjectTellsWrongFalsely : Prop := objectTellsRow.holds Try.pinned (OpenSpec.ofChange objectTellsWrong)

/-- 'forepeaklaw25.ObjectMakes': WHATEVER THE INPUT: true; the input reads as it did. -/
def objectMakesSpec : ChangeSpec := { name := "objectMakes", fn := fun _ => fun
  | [d] => { results := [.lit (.bool true)], args := [d] }
  | _ => none }
def objectMakesRow : OpenClaim := { program := "ytmohadlgjokgmaa", sum := "16a21415e0fb361383943d3de86bf43f1fd3a272fb1bd53d9bfd4f71b3ee5e41", func := "forepeak/forepeaklaw25.ObjectMakes", spec := "objectMakes", unfollowed := true, recurses := true, apart := false }
def ObjectMakesSaid : Prop := objectMakesRow.holds Try.pinned (OpenSpec.ofChange objectMakesSpec)

/-- ITS FALSE NEIGHBOUR: 'it returns false'. Refute it at one input. -/
def objectMakesWrong : ChangeSpec := { name := "objectMakes", fn := fun _ => fun
  | [d] => { results := [.lit (.bool false)], args := [d] }
  | _ => none }
def ObjectMakesWrongFalsely : Prop := objectMakesRow.holds Try.pinned (OpenSpec.ofChange objectMakesWrong)

/-- 'forepeaklaw25.ObjectBytes': WHATEVER THE INPUT: true; the input reads as it did. -/
def objectBytesSpec : ChangeSpec := { name := "objectBytes", fn := fun _ => fun
  | [d1, d2] => { results := [.lit (.bool true)], args := [d1, d2] }
  | _ => none }
def objectBytesRow : OpenClaim := { program := "ytmohadlgjokgmaa", sum := "16a21415e0fb361383943d3de86bf43f1fd3a272fb1bd53d9bfd4f71b3ee5e41", func := "forepeak/forepeaklaw25.ObjectBytes", spec := "objectBytes", unfollowed := true, recurses := true, apart := false }
def ObjectBytesSaid : Prop := objectBytesRow.holds Try.pinned (OpenSpec.ofChange objectBytesSpec)

/-- ITS FALSE NEIGHBOUR: 'it returns false'. Refute it at one input. -/
def objectBytesWrong : ChangeSpec := { name := "objectBytes", fn := fun _ => fun
  | [d1, d2] => { results := [.lit (.bool false)], args := [d1, d2] }
  | _ => none }
def ObjectBytesWrongFalsely : Prop := objectBytesRow.holds Try.pinned (OpenSpec.ofChange objectBytesWrong)

/- THE SECOND FORM. 'bulk': how many values and letters a reading holds, each counted each time it is reached (what is shared counts as often as it is met; a slice's spare places count too). A statement '..UptoSaid' is the law's where the arguments, and the package variables that the reading takes, are together of bulk at most 1048576: NARROWER than '..Said'. Prove '..Said' where nothing that the law and all that it calls make is longer than what came in: it says more and counts as full. Else prove '..UptoSaid'. A law counts once. -/
mutual
def uptoBulk {H : Type} : DataW H → Nat
  | .lit (.string bytes) => bytes.length + 1
  | .lit _ => 1
  | .nil => 1
  | .ptr d => uptoBulk d + 1
  | .slice elems spare => uptoBulkAll elems + uptoBulkAll spare + 1
  | .agg parts => uptoBulkAll parts + 1
  | .iface _ d => uptoBulk d + 1
  | .map entries => uptoBulkEntries entries + 1
  | .held _ => 1
def uptoBulkAll {H : Type} : List (DataW H) → Nat
  | [] => 0
  | d :: r => uptoBulk d + uptoBulkAll r
def uptoBulkEntries {H : Type} : List (Lit × DataW H) → Nat
  | [] => 0
  | x :: r => uptoBulkEntry x + uptoBulkEntries r
def uptoBulkEntry {H : Type} : Lit × DataW H → Nat
  | (.string bytes, d) => bytes.length + uptoBulk d + 1
  | (_, d) => uptoBulk d + 1
 end
def uptoSmall : (H : Type) → List (DataW H) → Bool := fun _ ds => decide (uptoBulkAll ds ≤ 1048576)
def OpenSpec.upto (s : _root_.Go.ChangeSpec) : _root_.Go.OpenSpec := { _root_.Go.OpenSpec.ofChange s with cond := some uptoSmall }

/-- 'forepeaklaw33.UndoOnes', WHERE WHAT IT READS IS OF BULK AT MOST 1048576: true; the input reads as it did. -/
def undoOnesUptoRow : OpenClaim := { program := "ytmohadlgjokgmaa", sum := "16a21415e0fb361383943d3de86bf43f1fd3a272fb1bd53d9bfd4f71b3ee5e41", func := "forepeak/forepeaklaw33.UndoOnes", spec := "undoOnes", unfollowed := true, recurses := true, apart := false, narrowed := true }
def UndoOnesUptoSaid : Prop := undoOnesUptoRow.holds Try.pinned (OpenSpec.upto undoOnesSpec)

/-- 'forepeaklaw33.UndoBack', WHERE WHAT IT READS IS OF BULK AT MOST 1048576: true; the input reads as it did. -/
def undoBackUptoRow : OpenClaim := { program := "ytmohadlgjokgmaa", sum := "16a21415e0fb361383943d3de86bf43f1fd3a272fb1bd53d9bfd4f71b3ee5e41", func := "forepeak/forepeaklaw33.UndoBack", spec := "undoBack", unfollowed := true, recurses := true, apart := false, narrowed := true }
def UndoBackUptoSaid : Prop := undoBackUptoRow.holds Try.pinned (OpenSpec.upto undoBackSpec)

/-- 'forepeaklaw23.BoxOrder', WHERE WHAT IT READS IS OF BULK AT MOST 1048576: true; the input reads as it did. -/
def boxOrderUptoRow : OpenClaim := { program := "ytmohadlgjokgmaa", sum := "16a21415e0fb361383943d3de86bf43f1fd3a272fb1bd53d9bfd4f71b3ee5e41", func := "forepeak/forepeaklaw23.BoxOrder", spec := "boxOrder", unfollowed := true, recurses := true, apart := false, narrowed := true }
def BoxOrderUptoSaid : Prop := boxOrderUptoRow.holds Try.pinned (OpenSpec.upto boxOrderSpec)

/-- 'forepeaklaw23.BoxRestores', WHERE WHAT IT READS IS OF BULK AT MOST 1048576: true; the input reads as it did. -/
def boxRestoresUptoRow : OpenClaim := { program := "ytmohadlgjokgmaa", sum := "16a21415e0fb361383943d3de86bf43f1fd3a272fb1bd53d9bfd4f71b3ee5e41", func := "forepeak/forepeaklaw23.BoxRestores", spec := "boxRestores", unfollowed := true, recurses := true, apart := false, narrowed := true }
def BoxRestoresUptoSaid : Prop := boxRestoresUptoRow.holds Try.pinned (OpenSpec.upto boxRestoresSpec)

/-- 'forepeaklaw23.BoxPlays', WHERE WHAT IT READS IS OF BULK AT MOST 1048576: true; the input reads as it did. -/
def boxPlaysUptoRow : OpenClaim := { program := "ytmohadlgjokgmaa", sum := "16a21415e0fb361383943d3de86bf43f1fd3a272fb1bd53d9bfd4f71b3ee5e41", func := "forepeak/forepeaklaw23.BoxPlays", spec := "boxPlays", unfollowed := true, recurses := true, apart := false, narrowed := true }
def BoxPlaysUptoSaid : Prop := boxPlaysUptoRow.holds Try.pinned (OpenSpec.upto boxPlaysSpec)

/-- 'forepeaklaw33.UndoMay', WHERE WHAT IT READS IS OF BULK AT MOST 1048576: true; the input reads as it did. -/
def undoMayUptoRow : OpenClaim := { program := "ytmohadlgjokgmaa", sum := "16a21415e0fb361383943d3de86bf43f1fd3a272fb1bd53d9bfd4f71b3ee5e41", func := "forepeak/forepeaklaw33.UndoMay", spec := "undoMay", unfollowed := true, recurses := true, apart := false, narrowed := true }
def UndoMayUptoSaid : Prop := undoMayUptoRow.holds Try.pinned (OpenSpec.upto undoMaySpec)

/-- 'forepeaklaw23.BoxBytes', WHERE WHAT IT READS IS OF BULK AT MOST 1048576: true; the input reads as it did. -/
def boxBytesUptoRow : OpenClaim := { program := "ytmohadlgjokgmaa", sum := "16a21415e0fb361383943d3de86bf43f1fd3a272fb1bd53d9bfd4f71b3ee5e41", func := "forepeak/forepeaklaw23.BoxBytes", spec := "boxBytes", unfollowed := true, recurses := true, apart := false, narrowed := true }
def BoxBytesUptoSaid : Prop := boxBytesUptoRow.holds Try.pinned (OpenSpec.upto boxBytesSpec)

/-- 'forepeaklaw25.ObjectTells', WHERE WHAT IT READS IS OF BULK AT MOST 1048576: true; the input reads as it did. -/
def objectTellsUptoRow : OpenClaim := { program := "ytmohadlgjokgmaa", sum := "16a21415e0fb361383943d3de86bf43f1fd3a272fb1bd53d9bfd4f71b3ee5e41", func := "forepeak/forepeaklaw25.ObjectTells", spec := "objectTells", unfollowed := true, recurses := true, apart := false, narrowed := true }
def ObjectTellsUptoSaid : Prop := objectTellsUptoRow.holds Try.pinned (OpenSpec.upto objectTellsSpec)

/-- 'forepeaklaw25.ObjectMakes', WHERE WHAT IT READS IS OF BULK AT MOST 1048576: true; the input reads as it did. -/
def objectMakesUptoRow : OpenClaim := { program := "ytmohadlgjokgmaa", sum := "16a21415e0fb361383943d3de86bf43f1fd3a272fb1bd53d9bfd4f71b3ee5e41", func := "forepeak/forepeaklaw25.ObjectMakes", spec := "objectMakes", unfollowed := true, recurses := true, apart := false, narrowed := true }
def ObjectMakesUptoSaid : Prop := objectMakesUptoRow.holds Try.pinned (OpenSpec.upto objectMakesSpec)

/-- 'forepeaklaw25.ObjectBytes', WHERE WHAT IT READS IS OF BULK AT MOST 1048576: true; the input reads as it did. -/
def objectBytesUptoRow : OpenClaim := { program := "ytmohadlgjokgmaa", sum := "16a21415e0fb361383943d3de86bf43f1fd3a272fb1bd53d9bfd4f71b3ee5e41", func := "forepeak/forepeaklaw25.ObjectBytes", spec := "objectBytes", unfollowed := true, recurses := true, apart := false, narrowed := true }
def ObjectBytesUptoSaid : Prop := objectBytesUptoRow.holds Try.pinned (OpenSpec.upto objectBytesSpec)

end Rows
end Go.Proofs.Ytmohadlgjokgmaa
