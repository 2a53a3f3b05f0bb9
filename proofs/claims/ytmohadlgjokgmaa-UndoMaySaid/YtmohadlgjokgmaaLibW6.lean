/- Part of a proof; no condition. -/
import Derived.Test.YtmohadlgjokgmaaLibW2
set_option linter.unusedSimpArgs false
set_option linter.unusedVariables false
namespace Go.Ab.S
open Go Go.Ab Go.Proofs
attribute [local irreducible] SemS
set_option maxRecDepth 100000
/-- The number that bytes are. -/
def valB (l : List UInt8) : Nat := l.foldl (fun n c => n * 256 + c.toNat) 0
theorem valB_succ {l : List UInt8} {i : Nat} (h : i < l.length) : valB (l.take (i + 1)) = valB (l.take i) * 256 + l[i].toNat := by
  rw [List.take_succ_eq_append_getElem h, valB, List.foldl_append]; rfl
theorem valB_lt : ∀ (l : List UInt8), valB l < 256 ^ l.length := by
  intro l
  have : ∀ (l : List UInt8) (n k : Nat), n < 256 ^ k → l.foldl (fun n c => n * 256 + c.toNat) n < 256 ^ (k + l.length) := by
    intro l
    induction l with
    | nil => intro n k h; simpa using h
    | cons c l ih =>
      intro n k h
      have hc := c.toNat_lt
      have := ih (n * 256 + c.toNat) (k + 1) (by rw [Nat.pow_succ]; omega)
      rw [List.foldl_cons, List.length_cons, show k + (l.length + 1) = k + 1 + l.length by omega]; exact this
  have := this l 0 0 (by simp)
  rw [Nat.zero_add] at this; exact this
theorem or_byte (n c : Nat) (hn : n < 2 ^ 40) (hc : c < 256) : IntKind.i64.wrap ((BitVec.ofInt IntKind.i64.bits (IntKind.i64.wrap ((n : Int) * 2 ^ (min (8 : Int).toNat IntKind.i64.bits))) ||| BitVec.ofInt IntKind.i64.bits (IntKind.i64.wrap (c : Int))).toNat) = ((n * 256 + c : Nat) : Int) := by
  have e1 : IntKind.i64.wrap ((n : Int) * 2 ^ (min (8 : Int).toNat IntKind.i64.bits)) = ((n * 256 : Nat) : Int) := by
    rw [show (2 : Int) ^ (min (8 : Int).toNat IntKind.i64.bits) = 256 from rfl, wrap64 (by omega)]; omega
  have e2 : IntKind.i64.wrap (c : Int) = (c : Int) := wrap64 (by omega)
  rw [e1, e2]
  have e3 : (BitVec.ofInt IntKind.i64.bits ((n * 256 : Nat) : Int) ||| BitVec.ofInt IntKind.i64.bits (c : Int)).toNat = n * 256 + c := by
    rw [BitVec.toNat_or, BitVec.ofInt_natCast, BitVec.ofInt_natCast, BitVec.toNat_ofNat, BitVec.toNat_ofNat, show IntKind.i64.bits = 64 from rfl, Nat.mod_eq_of_lt (by omega), Nat.mod_eq_of_lt (by omega)]
    have := Nat.shiftLeft_add_eq_or_of_lt (i := 8) (b := c) (by omega) n
    rw [Nat.shiftLeft_eq] at this
    exact this.symm
  rw [e3, wrap64 (by omega)]
/-- A reader's block: the first error, and what is left. -/
def rdB (e : Int) (bs : List UInt8) : List Blk := [.row [.int .i64 e, .sl (bytesOf bs)]]
theorem bytesOf_get {l : List UInt8} {i : Nat} (h : i < l.length) : (bytesOf l)[i]? = some [.int .u8 l[i].toNat] := by
  rw [bytesOf, List.getElem?_map, List.getElem?_eq_getElem h]; rfl
theorem bytesOf_take (l : List UInt8) (n : Nat) : (bytesOf l).take n = bytesOf (l.take n) := by simp [bytesOf, List.map_take]
theorem bytesOf_drop (l : List UInt8) (n : Nat) : (bytesOf l).drop n = bytesOf (l.drop n) := by simp [bytesOf, List.map_drop]
def leftR (e : Int) (bs : List UInt8) : Int := if e = 0 then bs.length else 0
end Go.Ab.S
