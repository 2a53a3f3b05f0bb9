/- Part of a proof; no condition. -/
import Derived.Test.YtmohadlgjokgmaaLibW6
set_option linter.unusedSimpArgs false
set_option linter.unusedVariables false
namespace Go.Ab.S
open Go Go.Ab Go.Proofs
attribute [local irreducible] SemS
set_option maxRecDepth 100000
/-- What reading a number gives, and what is left; the program leaves too few bytes where they are, the document's reader takes them. -/
def numV (e : Int) (bs : List UInt8) (size most : Int) : Int :=
  if e ≠ 0 then 0 else if ¬ (1 ≤ size ∧ size ≤ 4) then 0 else if (bs.length : Int) < size then 0 else if most < valB (bs.take size.toNat) then 0 else valB (bs.take size.toNat)
def numE (e : Int) (bs : List UInt8) (size most : Int) : Int :=
  if e ≠ 0 then e else if ¬ (1 ≤ size ∧ size ≤ 4) then 8 else if (bs.length : Int) < size then 4 else if most < valB (bs.take size.toNat) then 8 else 0
def numL (keep : Bool) (e : Int) (bs : List UInt8) (size : Int) : List UInt8 :=
  if e ≠ 0 then bs else if ¬ (1 ≤ size ∧ size ≤ 4) then bs else if (bs.length : Int) < size then (if keep then bs else []) else bs.drop size.toNat
/-- What reading a text gives. -/
def txtV (e : Int) (bs : List UInt8) (most : Int) : List UInt8 :=
  if e ≠ 0 then [] else match bs with
    | [] => []
    | c :: r => if most < c.toNat then [] else if r.length < c.toNat then [] else r.take c.toNat
def txtE (e : Int) (bs : List UInt8) (most : Int) : Int :=
  if e ≠ 0 then e else match bs with
    | [] => 4
    | c :: r => if most < c.toNat then 5 else if r.length < c.toNat then 4 else 0
def txtL (keep : Bool) (e : Int) (bs : List UInt8) (most : Int) : List UInt8 :=
  if e ≠ 0 then bs else match bs with
    | [] => []
    | c :: r => if most < c.toNat then r else if r.length < c.toNat then (if keep then r else []) else r.drop c.toNat
theorem unb (s : List UInt8) (H : Hp) : bytesS H (.p (.sl (bytesOf s))) = some (true, s) := bytesS_sl H s
end Go.Ab.S
