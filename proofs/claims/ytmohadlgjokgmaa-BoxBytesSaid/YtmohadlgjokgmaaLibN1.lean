/- Part of a proof; no condition. -/
import Derived.Test.YtmohadlgjokgmaaLibA11
set_option linter.unusedSimpArgs false
set_option linter.unusedVariables false
namespace Go.Ab.S
open Go Go.Ab Go.Proofs
attribute [local irreducible] SemS
set_option maxRecDepth 100000
/-! ### Cursors -/
def cur (p a : Int) : AV := .agg [.int .i64 p, .int .i64 a]
def many (p a : Int) : Int := if p = 2 ∨ p = 3 then 12 else if p = 1 ∨ p = 4 then a else 0
def sweptB (p a k : Int) : Bool := decide (0 ≤ k) && decide (k < many p a)
def looseB (p a n : Int) : Bool := decide (0 ≤ n) && (decide (n < 4) && (decide (p = 3) || (decide (p = 2) && decide (n < a))))
def stampV (p a e k : Int) : Int := if sweptB p a k then e + 1 else e
/-- All cursors, as the document lists them. -/
def anyL : List (Int × Int) := [(1,0),(1,1),(1,2),(1,3),(1,4),(1,5),(1,6),(1,7),(1,8),(1,9),(1,10),(1,11),(2,0),(2,1),(2,2),(2,3),(3,0),(0,0),(4,12),(4,11),(4,10),(4,9),(4,8),(4,7),(4,6),(4,5),(4,4),(4,3),(4,2),(4,1),(0,0)]
def anyC (n : Nat) : Int × Int := anyL.getD (n % 31) (0, 0)
def crows (l : List (Int × Int)) : List (List PV) := l.map fun q => [.int .i64 q.1, .int .i64 q.2]
theorem anyC_mem (n : Nat) : anyC n ∈ anyL := by
  unfold anyC
  rw [List.getD_eq_getElem?_getD, List.getElem?_eq_getElem (show n % 31 < anyL.length by show n % 31 < 31; omega)]
  exact List.getElem_mem _
theorem anyL_ok : ∀ q ∈ anyL, 0 ≤ q.1 ∧ q.1 ≤ 4 ∧ 0 ≤ q.2 ∧ q.2 ≤ 12 ∧ (q.1 = 0 → q.2 = 0) ∧ (q.1 = 1 → q.2 ≤ 11) := by decide
/-! ### Names -/
def idv (s i : Nat) (k n : Int) : AV := .agg [.int .u16 s, .int .u16 i, .int .i64 k, .int .i64 n]
def idB (k n : Int) : Bool := decide (1 ≤ k) && (decide (k ≤ 3) && (decide (0 ≤ n) && decide (n < 4)))
theorem idB_iff {k n : Int} : idB k n = true ↔ 1 ≤ k ∧ k ≤ 3 ∧ 0 ≤ n ∧ n < 4 := by simp [idB]
def laneV (k n : Int) : Int := if idB k n then (k - 1) * 4 + n else -1
/-! ### What a name became -/
end Go.Ab.S
