/- Part of a proof; no condition. Part of a proof; no condition. Part of a proof; no condition. Part of a proof; no condition. Part of a proof; no condition. Part of a proof; no condition. Part of a proof; no condition. Part of a proof; no condition. Part of a proof; no condition. -/
import Derived.Test.YtidmpmdhgiopgaaDoorB0
set_option linter.unusedSimpArgs false
set_option linter.unusedVariables false
namespace Go.Ab.S
open Go Go.Ab Go.Proofs
attribute [local irreducible] SemS
set_option maxRecDepth 100000
/-- A number's bytes. -/
def numB (n size : Nat) : List UInt8 := (List.range size).map fun i => UInt8.ofNat (n / 256 ^ (size - 1 - i))
def okNum (n size : Int) : Bool := decide (1 ≤ size ∧ size ≤ 4 ∧ 0 ≤ n ∧ n < 256 ^ size.toNat)
/-- A writer's block, and what it has written. -/
def wrB (e : Int) (bs : List UInt8) : List Blk := [.mrow [.p (.int .i64 e), .os (.par 1) bs.length], .arr 1 false (bytesOf bs)]
def firstE (e x : Int) : Int := if e = 0 then x else e
/-- What the text's bytes come to. -/
def textB (s : List UInt8) : List UInt8 := UInt8.ofNat s.length :: s
/-- The same block, its bytes frozen. -/
def wrF (e : Int) (bs : List UInt8) : List Blk := [.mrow [.p (.int .i64 e), .os (.par 1) bs.length], .arr 1 true (bytesOf bs)]
end Go.Ab.S

namespace Go.Ab.S
open Go Go.Ab Go.Proofs
attribute [local irreducible] SemS
set_option maxRecDepth 100000
/-- The reference writer's block. -/
def rwB (e : Int) (bs : List UInt8) : List Blk := [.mrow [.os (.par 1) bs.length, .p (.int .i64 e)], .arr 1 false (bytesOf bs)]
end Go.Ab.S

namespace Go.Ab.S
open Go Go.Ab Go.Proofs
attribute [local irreducible] SemS
set_option maxRecDepth 100000
/-- The number that bytes are. -/
def valB (l : List UInt8) : Nat := l.foldl (fun n c => n * 256 + c.toNat) 0
/-- A reader's block: the first error, and what is left. -/
def rdB (e : Int) (bs : List UInt8) : List Blk := [.row [.int .i64 e, .sl (bytesOf bs)]]
def leftR (e : Int) (bs : List UInt8) : Int := if e = 0 then bs.length else 0
end Go.Ab.S

namespace Go.Ab.S
open Go Go.Ab Go.Proofs
attribute [local irreducible] SemS
set_option maxRecDepth 100000
/-- What reading a number gives, and what is left; the program leaves too few bytes where they are, the document's reader takes them. -/
def numV (e : Int) (bs : List UInt8) (size most : Int) : Int :=
  if e ≠ 0 then 0 else if ¬ (1 ≤ size ∧ size ≤ 4) then 0 else if (bs.length : Int) < size then 0 else if most < valB (bs.take size.toNat) then 0 else valB (bs.take size.toNat)
def numE (e : Int) (bs : List UInt8) (size most : Int) : Int :=
  if e ≠ 0 then e else if ¬ (1 ≤ size ∧ size ≤ 4) then 8 else if (bs.length : Int) < size then 4 else if most < valB (bs.take size.toNat) then 8 else 0
def numL (keep : Bool) (e : Int) (bs : List UInt8) (size : Int) : List UInt8 :=
  if e ≠ 0 then bs else if ¬ (1 ≤ size ∧ size ≤ 4) then bs else if (bs.length : Int) < size then (if keep then bs else []) else bs.drop size.toNat
/-- What reading a text gives. -/
def txtV (e : Int) (bs : List UInt8) (most : Int) : List UInt8 :=
  if e ≠ 0 then [] else match bs with
    | [] => []
    | c :: r => if most < c.toNat then [] else if r.length < c.toNat then [] else r.take c.toNat
def txtE (e : Int) (bs : List UInt8) (most : Int) : Int :=
  if e ≠ 0 then e else match bs with
    | [] => 4
    | c :: r => if most < c.toNat then 5 else if r.length < c.toNat then 4 else 0
def txtL (keep : Bool) (e : Int) (bs : List UInt8) (most : Int) : List UInt8 :=
  if e ≠ 0 then bs else match bs with
    | [] => []
    | c :: r => if most < c.toNat then r else if r.length < c.toNat then (if keep then r else []) else r.drop c.toNat
end Go.Ab.S

namespace Go.Ab.S
open Go Go.Ab Go.Proofs
attribute [local irreducible] SemS
set_option maxRecDepth 100000
/-- The document's reader: what was read, what is left, the first error. -/
def rrB (e : Int) (pre bs : List UInt8) : List Blk := [.row [.sl (bytesOf (pre ++ bs)), .int .i64 pre.length, .int .i64 e]]
end Go.Ab.S

namespace Go.Ab.S
open Go Go.Ab Go.Proofs
attribute [local irreducible] SemS
set_option maxRecDepth 100000
end Go.Ab.S

namespace Go.Ab.S
open Go Go.Ab Go.Proofs
attribute [local irreducible] SemS
set_option maxRecDepth 100000
/-- The document's reader, by all bytes and those that are left. -/
def rrX (B : List UInt8) (e : Int) (b : List UInt8) : List Blk := [.row [.sl (bytesOf B), .int .i64 ((B.length - b.length : Nat) : Int), .int .i64 e]]
def Suf (B b : List UInt8) : Prop := ∃ p, p ++ b = B
theorem Suf.refl (B : List UInt8) : Suf B B := ⟨[], rfl⟩
theorem Suf.drop {B b : List UInt8} (h : Suf B b) (n : Nat) : Suf B (b.drop n) := by
  obtain ⟨p, rfl⟩ := h
  exact ⟨p ++ b.take n, by rw [List.append_assoc, List.take_append_drop]⟩
theorem Suf.nil {B b : List UInt8} (h : Suf B b) : Suf B [] := by
  have := h.drop b.length
  rwa [List.drop_length] at this
theorem numL_sufx {B b : List UInt8} (h : Suf B b) (keep : Bool) (e size : Int) : Suf B (numL keep e b size) := by
  unfold numL
  split
  · exact h
  · split
    · exact h
    · split
      · split
        · exact h
        · exact h.nil
      · exact h.drop _
theorem txtL_sufx {B b : List UInt8} (h : Suf B b) (keep : Bool) (e most : Int) : Suf B (txtL keep e b most) := by
  unfold txtL
  split
  · exact h
  · cases b with
    | nil => exact h
    | cons c r =>
      have hr : Suf B r := h.drop 1
      show Suf B (if most < c.toNat then r else if r.length < c.toNat then (if keep then r else []) else r.drop c.toNat)
      split
      · exact hr
      · split
        · split
          · exact hr
          · exact hr.nil
        · exact hr.drop _
/-! ### The numbers that are read -/
theorem num_same {e : Int} {b b' : List UInt8} (h : e = 0 → b = b') (size most : Int) : numV e b size most = numV e b' size most ∧ numE e b size most = numE e b' size most ∧ (numE e b size most = 0 → numL true e b size = numL false e b' size) := by
  by_cases he : e = 0
  · subst he
    obtain rfl := h rfl
    refine ⟨rfl, rfl, fun h0 => ?_⟩
    unfold numE at h0
    unfold numL
    split
    · rfl
    · rename_i h1
      rw [if_neg h1] at h0
      split
      · rfl
      · rename_i h2
        rw [if_neg h2] at h0
        split
        · rename_i h3; rw [if_pos h3] at h0; omega
        · rfl
  · unfold numV numE
    simp only [if_pos (show e ≠ 0 from he)]
    exact ⟨trivial, trivial, fun h => absurd h he⟩
theorem txt_same {e : Int} {b b' : List UInt8} (h : e = 0 → b = b') (most : Int) : txtV e b most = txtV e b' most ∧ txtE e b most = txtE e b' most ∧ (txtE e b most = 0 → txtL true e b most = txtL false e b' most) := by
  by_cases he : e = 0
  · subst he
    obtain rfl := h rfl
    refine ⟨rfl, rfl, fun h0 => ?_⟩
    cases b with
    | nil => rfl
    | cons c r =>
      have h0 : (if most < c.toNat then (5 : Int) else if r.length < c.toNat then 4 else 0) = 0 := h0
      show (if most < c.toNat then r else if r.length < c.toNat then r else r.drop c.toNat) = (if most < c.toNat then r else if r.length < c.toNat then [] else r.drop c.toNat)
      split
      · rfl
      · rename_i h1
        rw [if_neg h1] at h0
        split
        · rename_i h2; rw [if_pos h2] at h0; omega
        · rfl
  · unfold txtV txtE
    simp only [if_pos (show e ≠ 0 from he)]
    exact ⟨trivial, trivial, fun h => absurd h he⟩
theorem left_same {e : Int} {b b' : List UInt8} (h : e = 0 → b = b') : leftR e b = leftR e b' := by
  unfold leftR
  split
  · rename_i he; rw [h he]
  · rfl
end Go.Ab.S

namespace Go.Ab.S
open Go Go.Ab Go.Proofs
attribute [local irreducible] SemS
set_option maxRecDepth 100000
/-- A reader's state: the first error, and what is left. -/
structure St where
  e : Int
  b : List UInt8
def St.num (keep : Bool) (s : St) (size most : Int) : St := ⟨numE s.e s.b size most, numL keep s.e s.b size⟩
def St.txt (keep : Bool) (s : St) (most : Int) : St := ⟨txtE s.e s.b most, txtL keep s.e s.b most⟩
def St.nv (s : St) (size most : Int) : Int := numV s.e s.b size most
def St.tv (s : St) (most : Int) : List UInt8 := txtV s.e s.b most
def St.fail (s : St) (x : Int) : St := ⟨firstE s.e x, s.b⟩
def St.pr (s : St) : List Blk := rdB s.e s.b
def St.px (B : List UInt8) (s : St) : List Blk := rrX B s.e s.b
theorem Suf.num {B : List UInt8} {s : St} (h : Suf B s.b) (keep : Bool) (size most : Int) : Suf B (s.num keep size most).b := numL_sufx h keep s.e size
theorem Suf.txt {B : List UInt8} {s : St} (h : Suf B s.b) (keep : Bool) (most : Int) : Suf B (s.txt keep most).b := txtL_sufx h keep s.e most
/-- The program's reader and the document's, side by side. -/
structure SameS (s s' : St) : Prop where
  e : s.e = s'.e
  b : s.e = 0 → s.b = s'.b
theorem SameS.refl (s : St) : SameS s s := ⟨rfl, fun _ => rfl⟩
theorem SameS.nv {s s' : St} (h : SameS s s') (size most : Int) : s.nv size most = s'.nv size most := by
  have := (num_same h.b size most).1
  unfold St.nv
  rw [this, h.e]
theorem SameS.num {s s' : St} (h : SameS s s') (size most : Int) : SameS (s.num true size most) (s'.num false size most) := by
  obtain ⟨-, h2, h3⟩ := num_same h.b size most
  refine ⟨by show numE s.e s.b size most = numE s'.e s'.b size most; rw [h2, h.e], fun h0 => ?_⟩
  show numL true s.e s.b size = numL false s'.e s'.b size
  rw [h3 h0, h.e]
theorem SameS.tv {s s' : St} (h : SameS s s') (most : Int) : s.tv most = s'.tv most := by
  have := (txt_same h.b most).1
  unfold St.tv
  rw [this, h.e]
theorem SameS.txt {s s' : St} (h : SameS s s') (most : Int) : SameS (s.txt true most) (s'.txt false most) := by
  obtain ⟨-, h2, h3⟩ := txt_same h.b most
  refine ⟨by show txtE s.e s.b most = txtE s'.e s'.b most; rw [h2, h.e], fun h0 => ?_⟩
  show txtL true s.e s.b most = txtL false s'.e s'.b most
  rw [h3 h0, h.e]
theorem SameS.fail {s s' : St} (h : SameS s s') (x : Int) : SameS (s.fail x) (s'.fail x) := by
  refine ⟨by show firstE s.e x = firstE s'.e x; rw [h.e], fun h0 => h.b ?_⟩
  have h0 : firstE s.e x = 0 := h0
  unfold firstE at h0
  split at h0
  · assumption
  · exact h0
theorem SameS.left {s s' : St} (h : SameS s s') : leftR s.e s.b = leftR s'.e s'.b := by rw [left_same h.b, h.e]
/-! ### What was written is read -/
end Go.Ab.S

namespace Go.Ab.S
open Go Go.Ab Go.Proofs
attribute [local irreducible] SemS
set_option maxRecDepth 100000
end Go.Ab.S
