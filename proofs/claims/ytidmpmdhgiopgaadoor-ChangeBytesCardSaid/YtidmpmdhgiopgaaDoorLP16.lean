/- Part of a proof; no condition. Part of a proof; no condition. Part of a proof; no condition. Part of a proof; no condition. Part of a proof; no condition. Part of a proof; no condition. What policies that may be are like; what a mended one is, one without unseen roles, and one seen from above. No condition. -/
import Derived.Test.YtidmpmdhgiopgaaDoorLP9
import Derived.Test.YtidmpmdhgiopgaaDoorLWZ
set_option linter.unusedSimpArgs false
set_option linter.unusedVariables false
namespace Go.Ab.S
open Go Go.Ab Go.Proofs
attribute [local irreducible] SemS
set_option maxRecDepth 100000
/-! ### A policy that may be, of any -/
def lessN (a b : Nat) : Nat := setOf (fun t => a.testBit t && !b.testBit t) 16
def setLab (p : Pol) (r s i : Nat) : Pol := { p with ls := updF p.ls r s, li := updF p.li r i }
def setAct (p : Pol) (r s : Nat) : Pol := { p with acts := updF p.acts r s }
def setOwn (p : Pol) (r s : Nat) : Pol := { p with own := updF p.own r s }
theorem put_lab (p : Pol) {r : Nat} (h : r < 16) (s i : Nat) : putAt p.row (0 + 1 + r * 2) [.int .u16 s, .int .u16 i] = (setLab p r s i).row := pol_putlab p h s i
theorem put_lab0 (p : Pol) {r : Nat} (h : r < 16) : putAt p.row (0 + 1 + r * 2) [.int .u16 0, .int .u16 0] = (setLab p r 0 0).row := pol_putlab p h 0 0
theorem put_act (p : Pol) {r : Nat} (h : r < 16) (s : Nat) : putAt p.row (0 + 33 + r * 1) [.int .u16 s] = (setAct p r s).row := pol_putact p h s
theorem put_act0 (p : Pol) {r : Nat} (h : r < 16) : putAt p.row (0 + 33 + r * 1) [.int .u16 0] = (setAct p r 0).row := pol_putact p h 0
theorem put_own (p : Pol) {r : Nat} (h : r < 16) (s : Nat) : putAt p.row (0 + 49 + r * 1) [.int .u8 s] = (setOwn p r s).row := pol_putown p h s
theorem put_own16 (p : Pol) {r : Nat} (h : r < 16) : putAt p.row (0 + 49 + r * 1) [.int .u8 16] = (setOwn p r 16).row := pol_putown p h 16
theorem upd_at (f : Nat → Nat) (r v : Nat) : updF f r v r = v := by unfold updF; rw [if_pos rfl]
theorem upd_ne (f : Nat → Nat) {r v j : Nat} (h : j ≠ r) : updF f r v j = f j := by unfold updF; rw [if_neg h]
def mendP (p : Pol) : Pol := { p with
  ls := fun r => if p.live.testBit r then p.ls r &&& p.active else 0
  li := fun r => if p.live.testBit r then p.li r &&& p.active else 0
  acts := fun r => if p.live.testBit r then lessN (p.acts r &&& p.live) (2 ^ r) else 0
  own := fun t => if hasN p.live (p.own t) && p.active.testBit t then p.own t else 16 }
def zeroP : Pol := ⟨0, fun _ => 0, fun _ => 0, fun _ => 0, fun _ => 0, 0⟩
/-- The first i roles are mended, and the first j tags. -/
def mendTo (p : Pol) (i j : Nat) : Pol := { p with
  ls := fun r => if r < i then (mendP p).ls r else p.ls r
  li := fun r => if r < i then (mendP p).li r else p.li r
  acts := fun r => if r < i then (mendP p).acts r else p.acts r
  own := fun t => if t < j then (mendP p).own t else p.own t }
end Go.Ab.S

namespace Go.Ab.S
open Go Go.Ab Go.Proofs
attribute [local irreducible] SemS
set_option maxRecDepth 100000
/-! ### A policy without some roles -/
def cutA (W : Nat) (g : Nat → Nat) (a : Nat) : Nat := setOf (succB W g a) 16
def cutAt (W : Nat) (g : Nat → Nat) (i b a : Nat) : Nat := if a < i then cutA W g a else if a = i then setOf (succB W g a) b else 0
/-- Roles outside the set go; their tags are nobody's. -/
def cutS (p : Pol) (S : Nat) : Pol := { p with
  live := S
  ls := fun r => if S.testBit r then p.ls r else 0
  li := fun r => if S.testBit r then p.li r else 0
  acts := cutA S p.acts
  own := fun t => if hasN S (p.own t) then p.own t else 16 }
def cutTo (p : Pol) (S i j : Nat) : Pol := { p with
  ls := fun r => if r < i then (cutS p S).ls r else p.ls r
  li := fun r => if r < i then (cutS p S).li r else p.li r
  acts := cutA S p.acts
  own := fun t => if t < j then (cutS p S).own t else p.own t }
end Go.Ab.S

namespace Go.Ab.S
open Go Go.Ab Go.Proofs
attribute [local irreducible] SemS
set_option maxRecDepth 100000
/-! ### A policy's bytes -/
def recB (p : Pol) (r : Nat) : List UInt8 := numB (p.ls r) 2 ++ (numB (p.li r) 2 ++ numB (p.acts r) 2)
def ownsB (p : Pol) (n : Nat) : List UInt8 := (List.range n).flatMap fun t => numB (p.own t) 1
def polB (p : Pol) : List UInt8 := numB p.live 2 ++ (bitsN p.live).flatMap (recB p) ++ numB p.active 2 ++ ownsB p 16
/-! ### The document's bytes -/
theorem app_okP {n : Nat} {x y : List (List PV)} (hx : n = x.length) (hy : (y.all fun r => r.length == 1) = true) (hl : n + y.length ≤ 1000000) : (true && decide (n = x.length ∧ 1 = 1 ∧ (n + y.length) * 1 ≤ 2 ^ 47 ∧ n + y.length < 2 ^ 62) && y.all fun r => r.length == 1) = true := by
  rw [hy, decide_eq_true ⟨hx, rfl, by omega, by omega⟩]; rfl
theorem own_byte {n : Nat} (h : n ≤ 255) : bytesOf (numB n 1) = [[.int .u8 n]] := by
  have : (UInt8.ofNat (n / 256 ^ 0)).toNat = n := by rw [UInt8.toNat_ofNat']; omega
  show [[PV.int .u8 ((UInt8.ofNat (n / 256 ^ 0)).toNat : Nat)]] = _
  rw [this]
/-- The records of the roles below i. -/
def recsB (p : Pol) (i : Nat) : List UInt8 := ((List.range i).filter fun r => p.live.testBit r).flatMap (recB p)
end Go.Ab.S

namespace Go.Ab.S
open Go Go.Ab Go.Proofs
attribute [local irreducible] SemS
set_option maxRecDepth 100000
/-! ### Policies that are read -/
def recRd (keep : Bool) (q : Pol × St) (r : Nat) : Pol × St :=
  (setAct (setLab q.1 r (q.2.nv 2 65535).toNat ((q.2.num keep 2 65535).nv 2 65535).toNat) r (((q.2.num keep 2 65535).num keep 2 65535).nv 2 65535).toNat, ((q.2.num keep 2 65535).num keep 2 65535).num keep 2 65535)
def ownRd (keep : Bool) (q : Pol × St) (t : Nat) : Pol × St := (setOwn q.1 t (q.2.nv 1 16).toNat, q.2.num keep 1 16)
def setLive (p : Pol) (n : Nat) : Pol := { p with live := n }
def setActive (p : Pol) (n : Nat) : Pol := { p with active := n }
def rolesRd (keep : Bool) (s : St) : Pol × St := (bitsN (s.nv 2 65535).toNat).foldl (recRd keep) (setLive zeroP (s.nv 2 65535).toNat, s.num keep 2 65535)
def tagsRd (keep : Bool) (s : St) : Pol × St := (List.range 16).foldl (ownRd keep) (setActive (rolesRd keep s).1 ((rolesRd keep s).2.nv 2 65535).toNat, (rolesRd keep s).2.num keep 2 65535)
def chkRd (q : Pol × St) : St := if q.2.e = 0 ∧ fineP q.1 = false then q.2.fail 3 else q.2
def polRd (keep : Bool) (s : St) : Pol × St := if (chkRd (tagsRd keep s)).e = 0 then ((tagsRd keep s).1, chkRd (tagsRd keep s)) else (zeroP, chkRd (tagsRd keep s))
theorem zero_ok : zeroP.Ok :=
  have h : 0 < 65536 := by omega
  ⟨h, fun _ _ => h, fun _ _ => h, fun _ _ => h, fun _ _ => Nat.zero_le _, h⟩
end Go.Ab.S

namespace Go.Ab.S
open Go Go.Ab Go.Proofs
attribute [local irreducible] SemS
set_option maxRecDepth 100000
end Go.Ab.S

namespace Go.Ab.S
open Go Go.Ab Go.Proofs
attribute [local irreducible] SemS
set_option maxRecDepth 100000
/-- The roles below i are read. -/
def rolesTo (keep : Bool) (n i : Nat) (q : Pol × St) : Pol × St := ((List.range i).filter fun r => n.testBit r).foldl (recRd keep) q
end Go.Ab.S

namespace Go.Ab.S
open Go Go.Ab Go.Proofs
theorem has_lt {s o : Nat} (h : hasN s o = true) : o < 16 := by
  unfold hasN at h
  simp only [Bool.and_eq_true, decide_eq_true_eq] at h
  omega
/-! ### Without some roles -/
section
variable {p : Pol} {S : Nat}
end
section
variable {p : Pol} {s i : Nat}
/-! ### Under a label above -/
variable {s' i' : Nat}
end
end Go.Ab.S
