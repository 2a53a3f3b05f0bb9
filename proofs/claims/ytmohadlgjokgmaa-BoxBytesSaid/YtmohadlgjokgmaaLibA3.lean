/- Part of a proof; no condition. -/
import Derived.Test.YtmohadlgjokgmaaLibA2
set_option linter.unusedSimpArgs false
set_option linter.unusedVariables false
namespace Go.Ab.S
open Go Go.Ab Go.Proofs
attribute [local irreducible] SemS
set_option maxRecDepth 100000
def ofN (x : Int) : Nat := if 0 ≤ x ∧ x < 16 then 2 ^ x.toNat else 0
theorem ofN_lt {x : Int} : ofN x < 65536 := by
  unfold ofN
  split
  · have := pow16 (t := x.toNat) (by omega)
    omega
  · omega
theorem shl16 {x : Nat} (h : x < 16) : IntKind.u16.wrap (1 * 2 ^ (min (x : Int).toNat (IntKind.bits .u16))) = ((2 ^ x : Nat) : Int) := by
  have hb : IntKind.bits .u16 = 16 := rfl
  have := pow16 (t := x) (by omega)
  rw [hb, Int.toNat_natCast, Nat.min_eq_left (by omega), Int.one_mul]
  have e : ((2 : Int) ^ x) = ((2 ^ x : Nat) : Int) := by rw [Int.natCast_pow]; rfl
  rw [e, wrapN16 (by omega)]
/-- A map's cells. -/
def mrow (M : Nat → Nat) : List PV := [.int .u8 (M 0), .int .u8 (M 1), .int .u8 (M 2), .int .u8 (M 3), .int .u8 (M 4), .int .u8 (M 5), .int .u8 (M 6), .int .u8 (M 7), .int .u8 (M 8), .int .u8 (M 9), .int .u8 (M 10), .int .u8 (M 11), .int .u8 (M 12), .int .u8 (M 13), .int .u8 (M 14), .int .u8 (M 15)]
theorem mrow_get (M : Nat → Nat) {i : Nat} (h : i < 16) : (mrow M)[i]? = some (.int .u8 (M i)) := by
  have : i = 0 ∨ i = 1 ∨ i = 2 ∨ i = 3 ∨ i = 4 ∨ i = 5 ∨ i = 6 ∨ i = 7 ∨ i = 8 ∨ i = 9 ∨ i = 10 ∨ i = 11 ∨ i = 12 ∨ i = 13 ∨ i = 14 ∨ i = 15 := by omega
  rcases this with rfl | rfl | rfl | rfl | rfl | rfl | rfl | rfl | rfl | rfl | rfl | rfl | rfl | rfl | rfl | rfl <;> rfl
theorem mrow_put (M : Nat → Nat) {i : Nat} (h : i < 16) (v : Nat) : putAt (mrow M) i [.int .u8 v] = mrow fun t => if t = i then v else M t := by
  have : i = 0 ∨ i = 1 ∨ i = 2 ∨ i = 3 ∨ i = 4 ∨ i = 5 ∨ i = 6 ∨ i = 7 ∨ i = 8 ∨ i = 9 ∨ i = 10 ∨ i = 11 ∨ i = 12 ∨ i = 13 ∨ i = 14 ∨ i = 15 := by omega
  rcases this with rfl | rfl | rfl | rfl | rfl | rfl | rfl | rfl | rfl | rfl | rfl | rfl | rfl | rfl | rfl | rfl <;> rfl
theorem mrow_at (M : Nat → Nat) {i t : Nat} (e : i = t) (h : t < 16) : partP false 1 [PV.int .u8 (M 0), .int .u8 (M 1), .int .u8 (M 2), .int .u8 (M 3), .int .u8 (M 4), .int .u8 (M 5), .int .u8 (M 6), .int .u8 (M 7), .int .u8 (M 8), .int .u8 (M 9), .int .u8 (M 10), .int .u8 (M 11), .int .u8 (M 12), .int .u8 (M 13), .int .u8 (M 14), .int .u8 (M 15)] i = some (true, .c (.p (.int .u8 (M t)))) := by
  subst e
  show partP false 1 (mrow M) i = _
  simp only [partP, mrow_get M h]
theorem mrow_at' (M : Nat → Nat) {i t : Nat} (e : i = t) (h : t < 16) : partP false 1 (mrow M) i = some (true, .c (.p (.int .u8 (M t)))) := mrow_at M e h
def mv (M : Nat → Nat) : AV := .agg (mrow M)
theorem mrow_ext {M M' : Nat → Nat} (h : ∀ i, i < 16 → M i = M' i) : mrow M = mrow M' := by
  simp only [mrow]
  rw [h 0 (by omega), h 1 (by omega), h 2 (by omega), h 3 (by omega), h 4 (by omega), h 5 (by omega), h 6 (by omega), h 7 (by omega), h 8 (by omega), h 9 (by omega), h 10 (by omega), h 11 (by omega), h 12 (by omega), h 13 (by omega), h 14 (by omega), h 15 (by omega)]
def staysB (M : Nat → Nat) (t : Int) : Bool := decide (0 ≤ t) && decide (t < 16) && decide ((M t.toNat : Int) = t)
theorem wrapU8 (n : Nat) (h : n ≤ 255) : IntKind.i64.wrap (n : Int) = n := wrap64 (by omega)
end Go.Ab.S
