/- Part of a proof; no condition. Part of a proof; no condition. Part of a proof; no condition. Part of a proof; no condition. Part of a proof; no condition. Part of a proof; no condition. What policies that may be are like; what a mended one is, one without unseen roles, and one seen from above. No condition. -/
import Derived.Test.YtidmpmdhgiopgaaDoorLP9
import Derived.Test.YtidmpmdhgiopgaaDoorLWZ
set_option linter.unusedSimpArgs false
set_option linter.unusedVariables false
namespace Go.Ab.S
open Go Go.Ab Go.Proofs
attribute [local irreducible] SemS
set_option maxRecDepth 100000
/-! ### A policy that may be, of any -/
def lessN (a b : Nat) : Nat := setOf (fun t => a.testBit t && !b.testBit t) 16
def setLab (p : Pol) (r s i : Nat) : Pol := { p with ls := updF p.ls r s, li := updF p.li r i }
def setAct (p : Pol) (r s : Nat) : Pol := { p with acts := updF p.acts r s }
def setOwn (p : Pol) (r s : Nat) : Pol := { p with own := updF p.own r s }
def mendP (p : Pol) : Pol := { p with
  ls := fun r => if p.live.testBit r then p.ls r &&& p.active else 0
  li := fun r => if p.live.testBit r then p.li r &&& p.active else 0
  acts := fun r => if p.live.testBit r then lessN (p.acts r &&& p.live) (2 ^ r) else 0
  own := fun t => if hasN p.live (p.own t) && p.active.testBit t then p.own t else 16 }
def zeroP : Pol := ⟨0, fun _ => 0, fun _ => 0, fun _ => 0, fun _ => 0, 0⟩
/-- The first i roles are mended, and the first j tags. -/
def mendTo (p : Pol) (i j : Nat) : Pol := { p with
  ls := fun r => if r < i then (mendP p).ls r else p.ls r
  li := fun r => if r < i then (mendP p).li r else p.li r
  acts := fun r => if r < i then (mendP p).acts r else p.acts r
  own := fun t => if t < j then (mendP p).own t else p.own t }
end Go.Ab.S

namespace Go.Ab.S
open Go Go.Ab Go.Proofs
attribute [local irreducible] SemS
set_option maxRecDepth 100000
/-! ### A policy without some roles -/
def cutA (W : Nat) (g : Nat → Nat) (a : Nat) : Nat := setOf (succB W g a) 16
def cutAt (W : Nat) (g : Nat → Nat) (i b a : Nat) : Nat := if a < i then cutA W g a else if a = i then setOf (succB W g a) b else 0
/-- Roles outside the set go; their tags are nobody's. -/
def cutS (p : Pol) (S : Nat) : Pol := { p with
  live := S
  ls := fun r => if S.testBit r then p.ls r else 0
  li := fun r => if S.testBit r then p.li r else 0
  acts := cutA S p.acts
  own := fun t => if hasN S (p.own t) then p.own t else 16 }
def cutTo (p : Pol) (S i j : Nat) : Pol := { p with
  ls := fun r => if r < i then (cutS p S).ls r else p.ls r
  li := fun r => if r < i then (cutS p S).li r else p.li r
  acts := cutA S p.acts
  own := fun t => if t < j then (cutS p S).own t else p.own t }
end Go.Ab.S

namespace Go.Ab.S
open Go Go.Ab Go.Proofs
attribute [local irreducible] SemS
set_option maxRecDepth 100000
/-! ### A policy's bytes -/
def recB (p : Pol) (r : Nat) : List UInt8 := numB (p.ls r) 2 ++ (numB (p.li r) 2 ++ numB (p.acts r) 2)
def ownsB (p : Pol) (n : Nat) : List UInt8 := (List.range n).flatMap fun t => numB (p.own t) 1
def polB (p : Pol) : List UInt8 := numB p.live 2 ++ (bitsN p.live).flatMap (recB p) ++ numB p.active 2 ++ ownsB p 16
/-! ### The document's bytes -/
/-- The records of the roles below i. -/
def recsB (p : Pol) (i : Nat) : List UInt8 := ((List.range i).filter fun r => p.live.testBit r).flatMap (recB p)
end Go.Ab.S

namespace Go.Ab.S
open Go Go.Ab Go.Proofs
attribute [local irreducible] SemS
set_option maxRecDepth 100000
/-! ### Policies that are read -/
def recRd (keep : Bool) (q : Pol × St) (r : Nat) : Pol × St :=
  (setAct (setLab q.1 r (q.2.nv 2 65535).toNat ((q.2.num keep 2 65535).nv 2 65535).toNat) r (((q.2.num keep 2 65535).num keep 2 65535).nv 2 65535).toNat, ((q.2.num keep 2 65535).num keep 2 65535).num keep 2 65535)
def ownRd (keep : Bool) (q : Pol × St) (t : Nat) : Pol × St := (setOwn q.1 t (q.2.nv 1 16).toNat, q.2.num keep 1 16)
def setLive (p : Pol) (n : Nat) : Pol := { p with live := n }
def setActive (p : Pol) (n : Nat) : Pol := { p with active := n }
def rolesRd (keep : Bool) (s : St) : Pol × St := (bitsN (s.nv 2 65535).toNat).foldl (recRd keep) (setLive zeroP (s.nv 2 65535).toNat, s.num keep 2 65535)
def tagsRd (keep : Bool) (s : St) : Pol × St := (List.range 16).foldl (ownRd keep) (setActive (rolesRd keep s).1 ((rolesRd keep s).2.nv 2 65535).toNat, (rolesRd keep s).2.num keep 2 65535)
def chkRd (q : Pol × St) : St := if q.2.e = 0 ∧ fineP q.1 = false then q.2.fail 3 else q.2
def polRd (keep : Bool) (s : St) : Pol × St := if (chkRd (tagsRd keep s)).e = 0 then ((tagsRd keep s).1, chkRd (tagsRd keep s)) else (zeroP, chkRd (tagsRd keep s))
end Go.Ab.S

namespace Go.Ab.S
open Go Go.Ab Go.Proofs
attribute [local irreducible] SemS
set_option maxRecDepth 100000
end Go.Ab.S

namespace Go.Ab.S
open Go Go.Ab Go.Proofs
attribute [local irreducible] SemS
set_option maxRecDepth 100000
/-- The roles below i are read. -/
def rolesTo (keep : Bool) (n i : Nat) (q : Pol × St) : Pol × St := ((List.range i).filter fun r => n.testBit r).foldl (recRd keep) q
end Go.Ab.S

namespace Go.Ab.S
open Go Go.Ab Go.Proofs
/-! ### Without some roles -/
section
variable {p : Pol} {S : Nat}
end
section
variable {p : Pol} {s i : Nat}
/-! ### Under a label above -/
variable {s' i' : Nat}
end
end Go.Ab.S
