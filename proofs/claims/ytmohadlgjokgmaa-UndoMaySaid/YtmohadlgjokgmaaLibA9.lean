/- Part of a proof; no condition. -/
import Derived.Test.YtmohadlgjokgmaaLibA8
set_option linter.unusedSimpArgs false
set_option linter.unusedVariables false
namespace Go.Ab.S
open Go Go.Ab Go.Proofs
attribute [local irreducible] SemS
set_option maxRecDepth 100000
def prow (p : Int × Int) : List PV := [.int .i64 p.1, .int .i64 p.2]
def prows (l : List (Int × Int)) : List (List PV) := l.map prow
def stepM (M : Nat → Nat) (p : Int × Int) : Nat → Nat := if mayB M p.1 p.2 then moveN M p.1 p.2 else M
def madeN (l : List (Int × Int)) : Nat → Nat := l.foldl stepM id
theorem step_le {M : Nat → Nat} (hM : ∀ i, i < 16 → M i < 16) (p : Int × Int) : ∀ i, i < 16 → stepM M p i < 16 := by
  intro i hi
  unfold stepM
  split
  · rename_i h
    simp only [mayB, Bool.and_eq_true] at h
    obtain ⟨b0, b1, _⟩ := stays_iff.1 h.1.2
    unfold moveN
    split
    · omega
    · exact hM i hi
  · exact hM i hi
theorem made_lt (l : List (Int × Int)) : ∀ i, i < 16 → madeN l i < 16 := by
  have : ∀ (l : List (Int × Int)) (M : Nat → Nat), (∀ i, i < 16 → M i < 16) → ∀ i, i < 16 → l.foldl stepM M i < 16 := by
    intro l
    induction l with
    | nil => intro M h; exact h
    | cons p l ih => intro M h; exact ih _ (step_le h p)
  exact this l id fun i h => h
theorem made_take {l : List (Int × Int)} {i : Nat} (h : i < l.length) : madeN (l.take (i + 1)) = stepM (madeN (l.take i)) l[i] := by
  rw [List.take_succ_eq_append_getElem h, madeN, List.foldl_append]; rfl
theorem prows_get {l : List (Int × Int)} {i : Nat} (h : i < l.length) : (prows l)[i]? = some (prow l[i]) := by
  rw [prows, List.getElem?_map, List.getElem?_eq_getElem h]; rfl
theorem R04_Made_ok (l : List (Int × Int)) (hl : l.length ≤ 1000) : EvP PR G f_R04_Made [.c (.p (.sl (prows l)))] (mv (madeN l)) := by
  refine EvP.of_wpf false hm c_R04_Made rfl ?_
  refine wpf_seq1 ?_
  conv => whnf
  refine wpfS_seq1 ?_
  conv => whnf
  repeat' ((first | refine brP_t (by assumption) ?_ | refine brP_f (by assumption) ?_ | refine brP_t (decide_eq_true (by omega)) ?_ | refine brP_f (decide_eq_false (by omega)) ?_ | refine brP_t (nd_t (by omega)) ?_ | refine brP_f (nd_f (by omega)) ?_ | refine callK_p R04_Same_ok ?_ | refine callM_p R04_Same_ok rfl ?_ | refine callK_pf rfl R04_Same_ok ?_ | fail) <;> conv => whnf)
  refine wpfS_seq1 ?_
  conv => whnf
  refine SemS.loopC false hm (σ := Nat) (fun i => [(0, .c (.p (.sl (prows l)))), (2, .c (.ptr (.loc 0) 0)), (3, .c (.ptr (.loc 1) 0)), (4, iv i)]) (fun i => ⟨[], [.row (mrow zeroM), .row (mrow (madeN (l.take i)))]⟩) (fun i => l.length - i) (fun i => i ≤ l.length) 0 (Nat.zero_le _) ⟨rfl, rfl, rfl, rfl, trivial⟩ rfl ?_
  intro i hi
  have hM := made_lt (l.take i)
  have hlen : (prows l).length = l.length := by simp [prows]
  conv => whnf
  rw [hlen]
  refine brP_mk (fun h => ?_) (fun h => ?_)
  · have hi' : i < l.length := by have := of_decide_eq_true h; omega
    clear h
    have hget := prows_get hi'
    have hw2 : IntKind.i64.wrap ((i : Int) + 1) = ((i + 1 : Nat) : Int) := by rw [wrap64 (by omega)]; rfl
    have hmt := made_take hi'
    conv => whnf
    repeat' ((first | refine brP_t (by assumption) ?_ | refine brP_f (by assumption) ?_ | refine brP_t (decide_eq_true (by omega)) ?_ | refine brP_f (decide_eq_false (by omega)) ?_ | refine brP_t (nd_t (by omega)) ?_ | refine brP_f (nd_f (by omega)) ?_ | ((conv in (opM _ _ _ _ _) => whnf); (conv in (opS _ _ _ _) => whnf); rw [Int.toNat_natCast, hget]) | refine callK_p (R04_Move_ok _ (fun j hj => Nat.le_of_lt (Nat.lt_of_lt_of_le (hM j hj) (by omega))) _ _) ?_ | refine callM_p (R04_Move_ok _ (fun j hj => Nat.le_of_lt (Nat.lt_of_lt_of_le (hM j hj) (by omega))) _ _) rfl ?_ | refine callK_pf rfl (R04_Move_ok _ (fun j hj => Nat.le_of_lt (Nat.lt_of_lt_of_le (hM j hj) (by omega))) _ _) ?_ | fail) <;> conv => whnf)
    refine brP_mk (fun h => ?_) (fun h => ?_)
    · conv => whnf
      repeat' ((first | refine brP_t (by assumption) ?_ | refine brP_f (by assumption) ?_ | refine brP_t (decide_eq_true (by omega)) ?_ | refine brP_f (decide_eq_false (by omega)) ?_ | refine brP_t (nd_t (by omega)) ?_ | refine brP_f (nd_f (by omega)) ?_ | fail) <;> conv => whnf)
      rw [hw2]
      refine ⟨i + 1, 2, by omega, (show l.length - (i + 1) < l.length - i by omega), ⟨rfl, rfl, rfl, rfl, trivial⟩, Nat.le_refl 2, ?_, rfl, rfl⟩
      show (⟨[], [.row (mrow zeroM), .row (mrow (if mayB (madeN (l.take i)) l[i].1 l[i].2 then moveN (madeN (l.take i)) l[i].1 l[i].2 else zeroM))]⟩ : Hp) = ⟨[], [.row (mrow zeroM), .row (mrow (madeN (l.take (i + 1))))]⟩
      rw [hmt, h, stepM, if_pos h, if_pos rfl]
    · conv => whnf
      repeat' ((first | refine brP_t (by assumption) ?_ | refine brP_f (by assumption) ?_ | refine brP_t (decide_eq_true (by omega)) ?_ | refine brP_f (decide_eq_false (by omega)) ?_ | refine brP_t (nd_t (by omega)) ?_ | refine brP_f (nd_f (by omega)) ?_ | fail) <;> conv => whnf)
      rw [hw2]
      refine ⟨i + 1, 2, by omega, (show l.length - (i + 1) < l.length - i by omega), ⟨rfl, rfl, rfl, rfl, trivial⟩, Nat.le_refl 2, ?_, rfl, rfl⟩
      show (⟨[], [.row (mrow zeroM), .row (mrow (madeN (l.take i)))]⟩ : Hp) = ⟨[], [.row (mrow zeroM), .row (mrow (madeN (l.take (i + 1))))]⟩
      rw [hmt, stepM, if_neg (by rw [h]; simp)]
  · have hi' : i = l.length := by have := of_decide_eq_false h; omega
    subst hi'
    conv => whnf
    refine wpfS_go ?_
    conv => whnf
    rw [List.take_length]
    rfl

end Go.Ab.S
