/- Part of a proof; no condition. -/
import Derived.Test.YtmohadlgjokgmaaB0
set_option linter.unusedSimpArgs false
set_option linter.unusedVariables false
namespace Go.Ab.S
open Go Go.Ab Go.Proofs
attribute [local irreducible] SemS
set_option maxRecDepth 100000
theorem unbytes_bytesOf : ∀ (s : List UInt8), unbytes (bytesOf s) = some s
  | [] => rfl
  | b :: s => by
    show (match unbytes (bytesOf s) with
      | some l => some (UInt8.ofNat (b.toNat : Int).toNat :: l)
      | none => none) = _
    rw [unbytes_bytesOf s]
    simp
theorem bytesOf_len (s : List UInt8) : (bytesOf s).length = s.length := by simp [bytesOf]
theorem bytesOf_app (s t : List UInt8) : bytesOf (s ++ t) = bytesOf s ++ bytesOf t := by simp [bytesOf]
theorem bytesOf_all (s : List UInt8) : ((bytesOf s).all fun r => r.length == 1) = true := by simp [bytesOf]
theorem bytesS_sl (H : Hp) (s : List UInt8) : bytesS H (.p (.sl (bytesOf s))) = some (true, s) := by
  simp only [bytesS, elemsA, unbytes_bytesOf]
theorem bytesS_os {H : Hp} {id : Id} {n sz : Nat} {fz : Bool} {s : List UInt8} (h : H.get id = some (.arr sz fz (bytesOf s))) : bytesS H (.os id n) = some (decide (n = (bytesOf s).length), s) := by
  simp only [bytesS, elemsA, h, unbytes_bytesOf]
/-- A number's bytes. -/
def numB (n size : Nat) : List UInt8 := (List.range size).map fun i => UInt8.ofNat (n / 256 ^ (size - 1 - i))
theorem numB_len {n size : Nat} : (numB n size).length = size := by simp [numB]
theorem byte_eq (n k : Nat) : IntKind.u8.wrap ((n : Int).fdiv (256 ^ k)) = ((UInt8.ofNat (n / 256 ^ k)).toNat : Int) := by
  have e : ((n : Int).fdiv (256 ^ k)) = ((n / 256 ^ k : Nat) : Int) := by
    rw [Int.fdiv_eq_ediv_of_nonneg _ (by exact Int.le_of_lt (Int.pow_pos (by omega)))]
    rw [Int.natCast_ediv, Int.natCast_pow]; rfl
  rw [e]
  simp [IntKind.wrap, IntKind.signed, IntKind.bits]
def okNum (n size : Int) : Bool := decide (1 ≤ size ∧ size ≤ 4 ∧ 0 ≤ n ∧ n < 256 ^ size.toNat)
/-- A writer's block, and what it has written. -/
def wrB (e : Int) (bs : List UInt8) : List Blk := [.mrow [.p (.int .i64 e), .os (.par 1) bs.length], .arr 1 false (bytesOf bs)]
def firstE (e x : Int) : Int := if e = 0 then x else e
theorem wr_eq (e : Int) (bs t : List UInt8) {m : Nat} {R : List (List PV)} (hm : m = bs.length + t.length) (hR : R = bytesOf bs ++ bytesOf t) : (⟨[.mrow [.p (.int .i64 e), .os (.par 1) m], .arr 1 false R], []⟩ : Hp) = ⟨wrB e (bs ++ t), []⟩ := by
  subst hm hR
  rw [wrB, List.length_append, bytesOf_app]
/-- What the text's bytes come to. -/
def textB (s : List UInt8) : List UInt8 := UInt8.ofNat s.length :: s
/-- The same block, its bytes frozen. -/
def wrF (e : Int) (bs : List UInt8) : List Blk := [.mrow [.p (.int .i64 e), .os (.par 1) bs.length], .arr 1 true (bytesOf bs)]
end Go.Ab.S
