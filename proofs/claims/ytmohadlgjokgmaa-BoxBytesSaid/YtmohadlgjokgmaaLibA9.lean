/- Part of a proof; no condition. -/
import Derived.Test.YtmohadlgjokgmaaLibA8
set_option linter.unusedSimpArgs false
set_option linter.unusedVariables false
namespace Go.Ab.S
open Go Go.Ab Go.Proofs
attribute [local irreducible] SemS
set_option maxRecDepth 100000
def prow (p : Int × Int) : List PV := [.int .i64 p.1, .int .i64 p.2]
def prows (l : List (Int × Int)) : List (List PV) := l.map prow
def stepM (M : Nat → Nat) (p : Int × Int) : Nat → Nat := if mayB M p.1 p.2 then moveN M p.1 p.2 else M
def madeN (l : List (Int × Int)) : Nat → Nat := l.foldl stepM id
theorem step_le {M : Nat → Nat} (hM : ∀ i, i < 16 → M i < 16) (p : Int × Int) : ∀ i, i < 16 → stepM M p i < 16 := by
  intro i hi
  unfold stepM
  split
  · rename_i h
    simp only [mayB, Bool.and_eq_true] at h
    obtain ⟨b0, b1, _⟩ := stays_iff.1 h.1.2
    unfold moveN
    split
    · omega
    · exact hM i hi
  · exact hM i hi
theorem made_lt (l : List (Int × Int)) : ∀ i, i < 16 → madeN l i < 16 := by
  have : ∀ (l : List (Int × Int)) (M : Nat → Nat), (∀ i, i < 16 → M i < 16) → ∀ i, i < 16 → l.foldl stepM M i < 16 := by
    intro l
    induction l with
    | nil => intro M h; exact h
    | cons p l ih => intro M h; exact ih _ (step_le h p)
  exact this l id fun i h => h
theorem made_take {l : List (Int × Int)} {i : Nat} (h : i < l.length) : madeN (l.take (i + 1)) = stepM (madeN (l.take i)) l[i] := by
  rw [List.take_succ_eq_append_getElem h, madeN, List.foldl_append]; rfl
theorem prows_get {l : List (Int × Int)} {i : Nat} (h : i < l.length) : (prows l)[i]? = some (prow l[i]) := by
  rw [prows, List.getElem?_map, List.getElem?_eq_getElem h]; rfl
end Go.Ab.S
