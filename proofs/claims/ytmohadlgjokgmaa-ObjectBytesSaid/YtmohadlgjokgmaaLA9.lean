/- Part of a proof; no condition. Part of a proof; no condition. Part of a proof; no condition. Part of a proof; no condition. Part of a proof; no condition. Part of a proof; no condition. Part of a proof; no condition. Part of a proof; no condition. Part of a proof; no condition. -/
import Derived.Test.YtmohadlgjokgmaaB0
import Derived.Test.YtmohadlgjokgmaaLA0
import Derived.RangeFuncBound
import Derived.RangeFuncCalls
import Derived.RangeFuncLeaves
import Derived.Shelf.Abstract
import Derived.Shelf.RegionOpen
import Derived.WalkKit
import Derived.OwnWalkIn
import Derived.TacticsInMore
import Derived.LoopNIn
import Derived.LoopIn
set_option linter.unusedSimpArgs false
set_option linter.unusedVariables false
namespace Go.Ab.S
open Go Go.Ab Go.Proofs Go.RowKit Go.Shelf
attribute [local go_sem] Oper.semAt_some
attribute [local irreducible] SemS
set_option maxRecDepth 100000
/-- A function of values, called in a world of which the tables are known. -/
theorem EvP.calls {P : Program} {G : Gl} {g : FuncId} {args : List AV} {v : AV} (h : EvP P G g args v) {F : Cl} {W : World} (hG : ∀ g cs, G g = some cs → At F W g 0 cs) (hF : ∀ b o, F b o → b < W.heap.size) {xs : List Value} {x : Value} (hx : F2 (AR (fun _ => none) ⟨[], []⟩ F W) args xs)
    (hv : ∀ {F' W' y}, AR (fun _ => none) ⟨[], []⟩ F' W' v y → y = x) : Calls P g xs.toArray W fun e W' => e = .returned x ∧ W.grownBy W' none := by
  obtain ⟨-, hp, h⟩ := h
  have hS : SRel G (fun _ => none) ⟨[], []⟩ F W := ⟨fun i j r h => (by cases h), fun i r h => (by cases h), fun i r h => (by cases h), fun id b h => (by cases id <;> simp [Hp.get] at h), hG, hF⟩
  refine (h.2 _ F W xs hS hx).mono ?_
  rintro e W' ⟨r, H', φ', F', y, rfl, rfl, E, S, A⟩
  refine ⟨by rw [hv (pureV_rel hp A _ _)], E.os, E.tape, E.output, E.size, fun k hk _ => E.keep k hk fun _ h => by cases h⟩

end Go.Ab.S

namespace Go.Ab.S
open Go Go.Ab Go.Proofs
attribute [local irreducible] SemS
set_option maxRecDepth 100000
/-- Is a number a tag of a set? -/
def hasN (s : Nat) (t : Int) : Bool := decide (0 ≤ t) && decide (t ≤ 15) && s.testBit t.toNat
/-- A set with one tag more. -/
def withN (s : Nat) (t : Int) : Nat := if 0 ≤ t ∧ t ≤ 15 then s ||| 2 ^ t.toNat else s
end Go.Ab.S

namespace Go.Ab.S
open Go Go.Ab Go.Proofs
attribute [local irreducible] SemS
set_option maxRecDepth 100000
def ofN (x : Int) : Nat := if 0 ≤ x ∧ x < 16 then 2 ^ x.toNat else 0
/-- A map's cells. -/
def mrow (M : Nat → Nat) : List PV := [.int .u8 (M 0), .int .u8 (M 1), .int .u8 (M 2), .int .u8 (M 3), .int .u8 (M 4), .int .u8 (M 5), .int .u8 (M 6), .int .u8 (M 7), .int .u8 (M 8), .int .u8 (M 9), .int .u8 (M 10), .int .u8 (M 11), .int .u8 (M 12), .int .u8 (M 13), .int .u8 (M 14), .int .u8 (M 15)]
def mv (M : Nat → Nat) : AV := .agg (mrow M)
def staysB (M : Nat → Nat) (t : Int) : Bool := decide (0 ≤ t) && decide (t < 16) && decide ((M t.toNat : Int) = t)
end Go.Ab.S

namespace Go.Ab.S
open Go Go.Ab Go.Proofs
attribute [local irreducible] SemS
set_option maxRecDepth 100000
def movedN (M : Nat → Nat) : Nat := setOf (fun t => decide (M t ≠ t)) 16
end Go.Ab.S

namespace Go.Ab.S
open Go Go.Ab Go.Proofs
attribute [local irreducible] SemS
set_option maxRecDepth 100000
def lab (s i : Nat) : AV := .agg [.int .u16 s, .int .u16 i]
def touchesB (M : Nat → Nat) (s i : Nat) : Bool := !decide (((s ||| i) &&& movedN M) = 0)
/-- May a map be? -/
def fineB (M : Nat → Nat) : Bool := (List.range 16).all fun t => decide (M t < 16) && decide (M (M t) = M t)
end Go.Ab.S

namespace Go.Ab.S
open Go Go.Ab Go.Proofs
attribute [local irreducible] SemS
set_option maxRecDepth 100000
/-- The tags that have one in whose place they are. -/
def imgB (M : Nat → Nat) (s n u : Nat) : Bool := (List.range n).any fun t => s.testBit t && decide (M t = u)
def setN (M : Nat → Nat) (s : Nat) : Nat := setOf (imgB M s 16) 16
end Go.Ab.S

namespace Go.Ab.S
open Go Go.Ab Go.Proofs
attribute [local irreducible] SemS
set_option maxRecDepth 100000
/-- What has been gathered of some tags. -/
def accN (M : Nat → Nat) (l : List Int) : Nat := setOf (fun u => l.any fun t => decide (M t.toNat = u)) 16
/-- A move: when it may be, and what it makes. -/
def mayB (M : Nat → Nat) (a b : Int) : Bool := staysB M a && staysB M b && !decide (a = b)
def moveN (M : Nat → Nat) (a b : Int) : Nat → Nat := fun t => if (M t : Int) = a then b.toNat else M t
def upN (M : Nat → Nat) (a b : Int) (n : Nat) : Nat → Nat := fun t => if t < n then moveN M a b t else M t
def zeroM : Nat → Nat := fun _ => 0
end Go.Ab.S

namespace Go.Ab.S
open Go Go.Ab Go.Proofs
attribute [local irreducible] SemS
set_option maxRecDepth 100000
end Go.Ab.S

namespace Go.Ab.S
open Go Go.Ab Go.Proofs
attribute [local irreducible] SemS
set_option maxRecDepth 100000
def prow (p : Int × Int) : List PV := [.int .i64 p.1, .int .i64 p.2]
def prows (l : List (Int × Int)) : List (List PV) := l.map prow
def stepM (M : Nat → Nat) (p : Int × Int) : Nat → Nat := if mayB M p.1 p.2 then moveN M p.1 p.2 else M
def madeN (l : List (Int × Int)) : Nat → Nat := l.foldl stepM id
end Go.Ab.S
