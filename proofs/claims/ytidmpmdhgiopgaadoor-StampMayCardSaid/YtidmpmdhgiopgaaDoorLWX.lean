/- Part of a proof; no condition. Part of a proof; no condition. Part of a proof; no condition. Part of a proof; no condition. Part of a proof; no condition. Part of a proof; no condition. Part of a proof; no condition. -/
import Derived.Test.YtidmpmdhgiopgaaDoorB0
set_option linter.unusedSimpArgs false
set_option linter.unusedVariables false
namespace Go.Ab.S
open Go Go.Ab Go.Proofs
attribute [local irreducible] SemS
set_option maxRecDepth 100000
/-- A number's bytes. -/
def numB (n size : Nat) : List UInt8 := (List.range size).map fun i => UInt8.ofNat (n / 256 ^ (size - 1 - i))
def okNum (n size : Int) : Bool := decide (1 ≤ size ∧ size ≤ 4 ∧ 0 ≤ n ∧ n < 256 ^ size.toNat)
/-- A writer's block, and what it has written. -/
def wrB (e : Int) (bs : List UInt8) : List Blk := [.mrow [.p (.int .i64 e), .os (.par 1) bs.length], .arr 1 false (bytesOf bs)]
def firstE (e x : Int) : Int := if e = 0 then x else e
/-- What the text's bytes come to. -/
def textB (s : List UInt8) : List UInt8 := UInt8.ofNat s.length :: s
/-- The same block, its bytes frozen. -/
def wrF (e : Int) (bs : List UInt8) : List Blk := [.mrow [.p (.int .i64 e), .os (.par 1) bs.length], .arr 1 true (bytesOf bs)]
end Go.Ab.S

namespace Go.Ab.S
open Go Go.Ab Go.Proofs
attribute [local irreducible] SemS
set_option maxRecDepth 100000
/-- The reference writer's block. -/
def rwB (e : Int) (bs : List UInt8) : List Blk := [.mrow [.os (.par 1) bs.length, .p (.int .i64 e)], .arr 1 false (bytesOf bs)]
end Go.Ab.S

namespace Go.Ab.S
open Go Go.Ab Go.Proofs
attribute [local irreducible] SemS
set_option maxRecDepth 100000
/-- The number that bytes are. -/
def valB (l : List UInt8) : Nat := l.foldl (fun n c => n * 256 + c.toNat) 0
/-- A reader's block: the first error, and what is left. -/
def rdB (e : Int) (bs : List UInt8) : List Blk := [.row [.int .i64 e, .sl (bytesOf bs)]]
def leftR (e : Int) (bs : List UInt8) : Int := if e = 0 then bs.length else 0
end Go.Ab.S

namespace Go.Ab.S
open Go Go.Ab Go.Proofs
attribute [local irreducible] SemS
set_option maxRecDepth 100000
/-- What reading a number gives, and what is left; the program leaves too few bytes where they are, the document's reader takes them. -/
def numV (e : Int) (bs : List UInt8) (size most : Int) : Int :=
  if e ≠ 0 then 0 else if ¬ (1 ≤ size ∧ size ≤ 4) then 0 else if (bs.length : Int) < size then 0 else if most < valB (bs.take size.toNat) then 0 else valB (bs.take size.toNat)
def numE (e : Int) (bs : List UInt8) (size most : Int) : Int :=
  if e ≠ 0 then e else if ¬ (1 ≤ size ∧ size ≤ 4) then 8 else if (bs.length : Int) < size then 4 else if most < valB (bs.take size.toNat) then 8 else 0
def numL (keep : Bool) (e : Int) (bs : List UInt8) (size : Int) : List UInt8 :=
  if e ≠ 0 then bs else if ¬ (1 ≤ size ∧ size ≤ 4) then bs else if (bs.length : Int) < size then (if keep then bs else []) else bs.drop size.toNat
/-- What reading a text gives. -/
def txtV (e : Int) (bs : List UInt8) (most : Int) : List UInt8 :=
  if e ≠ 0 then [] else match bs with
    | [] => []
    | c :: r => if most < c.toNat then [] else if r.length < c.toNat then [] else r.take c.toNat
def txtE (e : Int) (bs : List UInt8) (most : Int) : Int :=
  if e ≠ 0 then e else match bs with
    | [] => 4
    | c :: r => if most < c.toNat then 5 else if r.length < c.toNat then 4 else 0
def txtL (keep : Bool) (e : Int) (bs : List UInt8) (most : Int) : List UInt8 :=
  if e ≠ 0 then bs else match bs with
    | [] => []
    | c :: r => if most < c.toNat then r else if r.length < c.toNat then (if keep then r else []) else r.drop c.toNat
end Go.Ab.S

namespace Go.Ab.S
open Go Go.Ab Go.Proofs
attribute [local irreducible] SemS
set_option maxRecDepth 100000
/-- The document's reader: what was read, what is left, the first error. -/
def rrB (e : Int) (pre bs : List UInt8) : List Blk := [.row [.sl (bytesOf (pre ++ bs)), .int .i64 pre.length, .int .i64 e]]
end Go.Ab.S

namespace Go.Ab.S
open Go Go.Ab Go.Proofs
attribute [local irreducible] SemS
set_option maxRecDepth 100000
end Go.Ab.S

namespace Go.Ab.S
open Go Go.Ab Go.Proofs
attribute [local irreducible] SemS
set_option maxRecDepth 100000
/-- The document's reader, by all bytes and those that are left. -/
def rrX (B : List UInt8) (e : Int) (b : List UInt8) : List Blk := [.row [.sl (bytesOf B), .int .i64 ((B.length - b.length : Nat) : Int), .int .i64 e]]
def Suf (B b : List UInt8) : Prop := ∃ p, p ++ b = B
theorem Suf.refl (B : List UInt8) : Suf B B := ⟨[], rfl⟩
theorem Suf.drop {B b : List UInt8} (h : Suf B b) (n : Nat) : Suf B (b.drop n) := by
  obtain ⟨p, rfl⟩ := h
  exact ⟨p ++ b.take n, by rw [List.append_assoc, List.take_append_drop]⟩
theorem Suf.nil {B b : List UInt8} (h : Suf B b) : Suf B [] := by
  have := h.drop b.length
  rwa [List.drop_length] at this
/-! ### The numbers that are read -/
end Go.Ab.S
