/- Part of a proof; no condition. -/
import Derived.Test.YtjdkjlmcnpjohaaDoorLibN3
import Derived.Test.YtjdkjlmcnpjohaaDoorFenceF1
set_option linter.unusedSimpArgs false
set_option linter.unusedVariables false
namespace Go.Ab.S
open Go Go.Ab Go.Proofs
attribute [local irreducible] SemS
set_option maxRecDepth 100000
def procB (M : Nat → Nat) (o : Ob) : Bool := o.swept && touchesB M o.ws o.wi
theorem View_Process_ok (e p a : Int) (M T : Nat → Nat) (hM : mapOk M) (o : Ob) (hs : o.ws < 65536) (hi : o.wi < 65536) : EvP PR G f_fence_View_Process [vv e p a M T, .agg o.row] (bv (procB M o)) := by
  have h1 := relabel_Touches_ok M hM o.ws o.wi hs hi
  unfold procB
  refine EvP.of_wpf true hm c_fence_View_Process rfl ?_
  conv => whnf
  cases hb : o.swept with
  | true =>
    repeat' ((first | refine brP_t (by assumption) ?_ | refine brP_f (by assumption) ?_ | refine brP_t (decide_eq_true (by omega)) ?_ | refine brP_f (decide_eq_false (by omega)) ?_ | refine brP_t (nd_t (by omega)) ?_ | refine brP_f (nd_f (by omega)) ?_ | refine callK_p h1 ?_ | refine callM_p h1 rfl ?_ | refine callK_pf rfl h1 ?_ | fail) <;> conv => whnf)
    rfl
  | false =>
    repeat' ((first | refine brP_t (by assumption) ?_ | refine brP_f (by assumption) ?_ | refine brP_t (decide_eq_true (by omega)) ?_ | refine brP_f (decide_eq_false (by omega)) ?_ | refine brP_t (nd_t (by omega)) ?_ | refine brP_f (nd_f (by omega)) ?_ | refine callK_p h1 ?_ | refine callM_p h1 rfl ?_ | refine callK_pf rfl h1 ?_ | fail) <;> conv => whnf)
    rfl
theorem R29_Process_ok (e p a : Int) (M T : Nat → Nat) (hM : mapOk M) (o : Ob) (hs : o.ws < 65536) (hi : o.wi < 65536) : EvP PR G f_R29_Process [vv e p a M T, .agg o.row] (bv (procB M o)) := by
  have h1 := R04_Touches_ok M hM o.ws o.wi hs hi
  unfold procB
  refine EvP.of_wpf true hm c_R29_Process rfl ?_
  conv => whnf
  cases hb : o.swept with
  | true =>
    repeat' ((first | refine brP_t (by assumption) ?_ | refine brP_f (by assumption) ?_ | refine brP_t (decide_eq_true (by omega)) ?_ | refine brP_f (decide_eq_false (by omega)) ?_ | refine brP_t (nd_t (by omega)) ?_ | refine brP_f (nd_f (by omega)) ?_ | refine callK_p h1 ?_ | refine callM_p h1 rfl ?_ | refine callK_pf rfl h1 ?_ | fail) <;> conv => whnf)
    rfl
  | false =>
    repeat' ((first | refine brP_t (by assumption) ?_ | refine brP_f (by assumption) ?_ | refine brP_t (decide_eq_true (by omega)) ?_ | refine brP_f (decide_eq_false (by omega)) ?_ | refine brP_t (nd_t (by omega)) ?_ | refine brP_f (nd_f (by omega)) ?_ | refine callK_p h1 ?_ | refine callM_p h1 rfl ?_ | refine callK_pf rfl h1 ?_ | fail) <;> conv => whnf)
    rfl
/-- A world of which only what a view shows is there. -/
def wrow0 (e p a : Int) (M T : Nat → Nat) : List PV := [.int .i64 e, .sl []] ++ (List.replicate 49 (.int .u16 0) ++ (List.replicate 16 (.int .u8 0) ++ ([.int .u16 0] ++ (mrow M ++ (mrow T ++ [.int .i64 p, .int .i64 a, .sl []])))))
theorem fence_Of_ok (e p a : Int) (M T : Nat → Nat) : EvP PR G f_fence_Of [.agg (wrow0 e p a M T)] (vv e p a M T) := by
  refine EvP.of_wpf true hm c_fence_Of rfl ?_
  conv => whnf
  repeat' ((first | refine brP_t (by assumption) ?_ | refine brP_f (by assumption) ?_ | refine brP_t (decide_eq_true (by omega)) ?_ | refine brP_f (decide_eq_false (by omega)) ?_ | refine brP_t (nd_t (by omega)) ?_ | refine brP_f (nd_f (by omega)) ?_ | fail) <;> conv => whnf)
  rfl
def skipB (T : Nat → Nat) (q : Int × Int) : Bool := decide (q.1 < 0) || decide (15 < q.1) || decide (q.2 < 0) || decide (15 < q.2) || hasN (movedN T) q.1 || hasN (movedN T) q.2
def stepT (T : Nat → Nat) (M : Nat → Nat) (q : Int × Int) : Nat → Nat := if skipB T q then M else stepM M q
def someT (T : Nat → Nat) (l : List (Int × Int)) : Nat → Nat := l.foldl (stepT T) id
theorem someT_take {T : Nat → Nat} {l : List (Int × Int)} {i : Nat} (h : i < l.length) : someT T (l.take (i + 1)) = stepT T (someT T (l.take i)) l[i] := by
  rw [List.take_succ_eq_append_getElem h, someT, List.foldl_append]; rfl
theorem someT_lt (T : Nat → Nat) (l : List (Int × Int)) : ∀ i, i < 16 → someT T l i < 16 := by
  have : ∀ (l : List (Int × Int)) (M : Nat → Nat), (∀ i, i < 16 → M i < 16) → ∀ i, i < 16 → l.foldl (stepT T) M i < 16 := by
    intro l
    induction l with
    | nil => intro M h; exact h
    | cons q l ih =>
      intro M h
      refine ih _ ?_
      unfold stepT
      split
      · exact h
      · exact step_le h q
  exact this l id fun i h => h
theorem someT_fine (T : Nat → Nat) (l : List (Int × Int)) : fineB (someT T l) = true := by
  have : ∀ (l : List (Int × Int)) (M : Nat → Nat), fineB M = true → fineB (l.foldl (stepT T) M) = true := by
    intro l
    induction l with
    | nil => intro M h; exact h
    | cons q l ih =>
      intro M h
      refine ih _ ?_
      unfold stepT
      split
      · exact h
      · exact step_fine h q
  exact this l id id_fine
/-- The map of a view that numbers make. -/
def mapS (n : Nat) (total now : List (Int × Int)) : Nat → Nat := if (anyC n).1 = 0 then id else someT (madeN total) now
theorem mod255 {e : Nat} (h : e < 256) : (e : Int).tmod 255 = ((e % 255 : Nat) : Int) := rfl
set_option maxHeartbeats 2000000 in
theorem R29_Some_ok (e n : Nat) (he : e < 256) (hn : n < 256) (total now : List (Int × Int)) (ht : total.length ≤ 1000) (hl : now.length ≤ 1000) :
    EvP PR G f_R29_Some [.c (.p (.int .u8 e)), .c (.p (.int .u8 n)), slv (prows total), slv (prows now)] (vv ((e % 255 : Nat) : Int) (anyC n).1 (anyC n).2 (mapS n total now) (madeN total)) := by
  have h1 := R28_Any_ok n hn
  have h2 := R04_Same_ok
  have h3 := R04_Made_ok total ht
  have hw : IntKind.i64.wrap (e : Int) = e := wrap64 (by omega)
  unfold mapS
  refine EvP.of_wpf true hm c_R29_Some rfl ?_
  refine wpf_seq1 ?_
  conv => whnf
  generalize (anyC n).1 = p at *
  generalize (anyC n).2 = a at *
  have hM0 := made_lt total
  generalize hT : madeN total = T at *
  have hTle : ∀ i, i < 16 → T i ≤ 255 := fun i hi => by have := hM0 i hi; omega
  have h4 := R04_Moved_ok T hTle
  by_cases hp : p = 0
  · rw [if_pos hp]
    repeat' ((first | refine brP_t (by assumption) ?_ | refine brP_f (by assumption) ?_ | refine brP_t (decide_eq_true (by omega)) ?_ | refine brP_f (decide_eq_false (by omega)) ?_ | refine brP_t (nd_t (by omega)) ?_ | refine brP_f (nd_f (by omega)) ?_ | refine callK_p h1 ?_ | refine callM_p h1 rfl ?_ | refine callK_pf rfl h1 ?_ | refine callK_p h2 ?_ | refine callM_p h2 rfl ?_ | refine callK_pf rfl h2 ?_ | refine callK_p h3 ?_ | refine callM_p h3 rfl ?_ | refine callK_pf rfl h3 ?_ | refine wpfS_seq1 ?_ | refine wpfS_go ?_ | fail) <;> conv => whnf)
    rw [hw, mod255 he]
    rfl
  · rw [if_neg hp]
    repeat' ((first | refine brP_t (by assumption) ?_ | refine brP_f (by assumption) ?_ | refine brP_t (decide_eq_true (by omega)) ?_ | refine brP_f (decide_eq_false (by omega)) ?_ | refine brP_t (nd_t (by omega)) ?_ | refine brP_f (nd_f (by omega)) ?_ | refine callK_p h1 ?_ | refine callM_p h1 rfl ?_ | refine callK_pf rfl h1 ?_ | refine callK_p h2 ?_ | refine callM_p h2 rfl ?_ | refine callK_pf rfl h2 ?_ | refine callK_p h3 ?_ | refine callM_p h3 rfl ?_ | refine callK_pf rfl h3 ?_ | refine wpfS_seq1 ?_ | refine wpfS_go ?_ | fail) <;> conv => whnf)
    rw [hw, mod255 he]
    refine SemS.loopC false hm (σ := Nat) (fun i => [(3, slv (prows now)), (8, .c (.ptr (.loc 0) 0)), (9, .c (.ptr (.loc 1) 0)), (10, iv i)]) (fun i => ⟨[], [.row (vrow 0 0 0 zeroM zeroM), .row (vrow ((e % 255 : Nat) : Int) p a (someT T (now.take i)) T)]⟩) (fun i => now.length - i) (fun i => i ≤ now.length) 0 (Nat.zero_le _) ⟨rfl, rfl, rfl, rfl, trivial⟩ rfl ?_
    intro i hi
    have hM := someT_lt T (now.take i)
    have hlen : (prows now).length = now.length := by simp [prows]
    refine wpf_seq1 ?_
    conv => whnf
    rw [hlen]
    refine brP_mk (fun h => ?_) (fun h => ?_)
    · have hi' : i < now.length := by have := of_decide_eq_true h; omega
      clear h
      have hget := prows_get hi'
      have hw2 : IntKind.i64.wrap ((i : Int) + 1) = ((i + 1 : Nat) : Int) := by rw [wrap64 (by omega)]; rfl
      have hmt := someT_take (T := T) hi'
      generalize hM1 : someT T (now.take (i + 1)) = M1 at *
      generalize someT T (now.take i) = M at *
      generalize hq : now[i] = q at *
      clear hq
      obtain ⟨x, y⟩ := q
      have hget : (prows now)[i]? = some [.int .i64 x, .int .i64 y] := hget
      have hMle : ∀ i, i < 16 → M i ≤ 255 := fun i hi => by have := hM i hi; omega
      have eMove := R04_Move_ok M hMle x y
      have e1 := R01_Has_ok (movedN T) x movedN_lt
      have e2 := R01_Has_ok (movedN T) y movedN_lt
      cases hs : skipB T (x, y) with
      | true =>
        have hmt : M1 = M := by rw [hmt, stepT, hs]; rfl
        by_cases k1 : x < 0
        · repeat' ((first | refine brP_t (by assumption) ?_ | refine brP_f (by assumption) ?_ | refine brP_t (decide_eq_true (by omega)) ?_ | refine brP_f (decide_eq_false (by omega)) ?_ | refine brP_t (nd_t (by omega)) ?_ | refine brP_f (nd_f (by omega)) ?_ | refine callK_p h4 ?_ | refine callM_p h4 rfl ?_ | refine callK_pf rfl h4 ?_ | ((conv in (opS _ _ _ _) => whnf); rw [Int.toNat_natCast, hget]) | ((conv in (opM _ _ _ _ _) => whnf); (conv in (opS _ _ _ _) => whnf); rw [Int.toNat_natCast, hget]) | refine callK_p e1 ?_ | refine callM_p e1 rfl ?_ | refine callK_pf rfl e1 ?_ | refine callK_p e2 ?_ | refine callM_p e2 rfl ?_ | refine callK_pf rfl e2 ?_ | refine wpfS_seq1 ?_ | refine wpfS_go ?_ | fail) <;> conv => whnf)
          rw [hw2]
          exact ⟨i + 1, 2, hi', (show now.length - (i + 1) < now.length - i by omega), ⟨rfl, rfl, rfl, rfl, trivial⟩, Nat.le_refl 2, congrArg (fun X => (⟨[], [.row (vrow 0 0 0 zeroM zeroM), .row (vrow ((e % 255 : Nat) : Int) p a X T)]⟩ : Hp)) (hmt.symm.trans hM1.symm), rfl, rfl⟩
        by_cases k2 : 15 < x
        · repeat' ((first | refine brP_t (by assumption) ?_ | refine brP_f (by assumption) ?_ | refine brP_t (decide_eq_true (by omega)) ?_ | refine brP_f (decide_eq_false (by omega)) ?_ | refine brP_t (nd_t (by omega)) ?_ | refine brP_f (nd_f (by omega)) ?_ | refine callK_p h4 ?_ | refine callM_p h4 rfl ?_ | refine callK_pf rfl h4 ?_ | ((conv in (opS _ _ _ _) => whnf); rw [Int.toNat_natCast, hget]) | ((conv in (opM _ _ _ _ _) => whnf); (conv in (opS _ _ _ _) => whnf); rw [Int.toNat_natCast, hget]) | refine callK_p e1 ?_ | refine callM_p e1 rfl ?_ | refine callK_pf rfl e1 ?_ | refine callK_p e2 ?_ | refine callM_p e2 rfl ?_ | refine callK_pf rfl e2 ?_ | refine wpfS_seq1 ?_ | refine wpfS_go ?_ | fail) <;> conv => whnf)
          rw [hw2]
          exact ⟨i + 1, 2, hi', (show now.length - (i + 1) < now.length - i by omega), ⟨rfl, rfl, rfl, rfl, trivial⟩, Nat.le_refl 2, congrArg (fun X => (⟨[], [.row (vrow 0 0 0 zeroM zeroM), .row (vrow ((e % 255 : Nat) : Int) p a X T)]⟩ : Hp)) (hmt.symm.trans hM1.symm), rfl, rfl⟩
        by_cases k3 : y < 0
        · repeat' ((first | refine brP_t (by assumption) ?_ | refine brP_f (by assumption) ?_ | refine brP_t (decide_eq_true (by omega)) ?_ | refine brP_f (decide_eq_false (by omega)) ?_ | refine brP_t (nd_t (by omega)) ?_ | refine brP_f (nd_f (by omega)) ?_ | refine callK_p h4 ?_ | refine callM_p h4 rfl ?_ | refine callK_pf rfl h4 ?_ | ((conv in (opS _ _ _ _) => whnf); rw [Int.toNat_natCast, hget]) | ((conv in (opM _ _ _ _ _) => whnf); (conv in (opS _ _ _ _) => whnf); rw [Int.toNat_natCast, hget]) | refine callK_p e1 ?_ | refine callM_p e1 rfl ?_ | refine callK_pf rfl e1 ?_ | refine callK_p e2 ?_ | refine callM_p e2 rfl ?_ | refine callK_pf rfl e2 ?_ | refine wpfS_seq1 ?_ | refine wpfS_go ?_ | fail) <;> conv => whnf)
          rw [hw2]
          exact ⟨i + 1, 2, hi', (show now.length - (i + 1) < now.length - i by omega), ⟨rfl, rfl, rfl, rfl, trivial⟩, Nat.le_refl 2, congrArg (fun X => (⟨[], [.row (vrow 0 0 0 zeroM zeroM), .row (vrow ((e % 255 : Nat) : Int) p a X T)]⟩ : Hp)) (hmt.symm.trans hM1.symm), rfl, rfl⟩
        by_cases k4 : 15 < y
        · repeat' ((first | refine brP_t (by assumption) ?_ | refine brP_f (by assumption) ?_ | refine brP_t (decide_eq_true (by omega)) ?_ | refine brP_f (decide_eq_false (by omega)) ?_ | refine brP_t (nd_t (by omega)) ?_ | refine brP_f (nd_f (by omega)) ?_ | refine callK_p h4 ?_ | refine callM_p h4 rfl ?_ | refine callK_pf rfl h4 ?_ | ((conv in (opS _ _ _ _) => whnf); rw [Int.toNat_natCast, hget]) | ((conv in (opM _ _ _ _ _) => whnf); (conv in (opS _ _ _ _) => whnf); rw [Int.toNat_natCast, hget]) | refine callK_p e1 ?_ | refine callM_p e1 rfl ?_ | refine callK_pf rfl e1 ?_ | refine callK_p e2 ?_ | refine callM_p e2 rfl ?_ | refine callK_pf rfl e2 ?_ | refine wpfS_seq1 ?_ | refine wpfS_go ?_ | fail) <;> conv => whnf)
          rw [hw2]
          exact ⟨i + 1, 2, hi', (show now.length - (i + 1) < now.length - i by omega), ⟨rfl, rfl, rfl, rfl, trivial⟩, Nat.le_refl 2, congrArg (fun X => (⟨[], [.row (vrow 0 0 0 zeroM zeroM), .row (vrow ((e % 255 : Nat) : Int) p a X T)]⟩ : Hp)) (hmt.symm.trans hM1.symm), rfl, rfl⟩
        cases k5 : hasN (movedN T) x with
        | true =>
          rw [k5] at e1
          repeat' ((first | refine brP_t (by assumption) ?_ | refine brP_f (by assumption) ?_ | refine brP_t (decide_eq_true (by omega)) ?_ | refine brP_f (decide_eq_false (by omega)) ?_ | refine brP_t (nd_t (by omega)) ?_ | refine brP_f (nd_f (by omega)) ?_ | refine callK_p h4 ?_ | refine callM_p h4 rfl ?_ | refine callK_pf rfl h4 ?_ | ((conv in (opS _ _ _ _) => whnf); rw [Int.toNat_natCast, hget]) | ((conv in (opM _ _ _ _ _) => whnf); (conv in (opS _ _ _ _) => whnf); rw [Int.toNat_natCast, hget]) | refine callK_p e1 ?_ | refine callM_p e1 rfl ?_ | refine callK_pf rfl e1 ?_ | refine callK_p e2 ?_ | refine callM_p e2 rfl ?_ | refine callK_pf rfl e2 ?_ | refine wpfS_seq1 ?_ | refine wpfS_go ?_ | fail) <;> conv => whnf)
          rw [hw2]
          exact ⟨i + 1, 2, hi', (show now.length - (i + 1) < now.length - i by omega), ⟨rfl, rfl, rfl, rfl, trivial⟩, Nat.le_refl 2, congrArg (fun X => (⟨[], [.row (vrow 0 0 0 zeroM zeroM), .row (vrow ((e % 255 : Nat) : Int) p a X T)]⟩ : Hp)) (hmt.symm.trans hM1.symm), rfl, rfl⟩
        | false =>
          rw [k5] at e1
          cases k6 : hasN (movedN T) y with
          | true =>
            rw [k6] at e2
            repeat' ((first | refine brP_t (by assumption) ?_ | refine brP_f (by assumption) ?_ | refine brP_t (decide_eq_true (by omega)) ?_ | refine brP_f (decide_eq_false (by omega)) ?_ | refine brP_t (nd_t (by omega)) ?_ | refine brP_f (nd_f (by omega)) ?_ | refine callK_p h4 ?_ | refine callM_p h4 rfl ?_ | refine callK_pf rfl h4 ?_ | ((conv in (opS _ _ _ _) => whnf); rw [Int.toNat_natCast, hget]) | ((conv in (opM _ _ _ _ _) => whnf); (conv in (opS _ _ _ _) => whnf); rw [Int.toNat_natCast, hget]) | refine callK_p e1 ?_ | refine callM_p e1 rfl ?_ | refine callK_pf rfl e1 ?_ | refine callK_p e2 ?_ | refine callM_p e2 rfl ?_ | refine callK_pf rfl e2 ?_ | refine wpfS_seq1 ?_ | refine wpfS_go ?_ | fail) <;> conv => whnf)
            rw [hw2]
            exact ⟨i + 1, 2, hi', (show now.length - (i + 1) < now.length - i by omega), ⟨rfl, rfl, rfl, rfl, trivial⟩, Nat.le_refl 2, congrArg (fun X => (⟨[], [.row (vrow 0 0 0 zeroM zeroM), .row (vrow ((e % 255 : Nat) : Int) p a X T)]⟩ : Hp)) (hmt.symm.trans hM1.symm), rfl, rfl⟩
          | false =>
            simp [skipB, k1, k2, k3, k4, k5, k6] at hs
      | false =>
        have hmt : M1 = stepM M (x, y) := by rw [hmt, stepT, hs]; rfl
        simp only [skipB, Bool.or_eq_false_iff, decide_eq_false_iff_not] at hs
        obtain ⟨⟨⟨⟨⟨k1, k2⟩, k3⟩, k4⟩, k5⟩, k6⟩ := hs
        rw [k5] at e1
        rw [k6] at e2
        cases hmay : mayB M x y with
        | true =>
          rw [hmay, if_pos rfl] at eMove
          have hmt : M1 = moveN M x y := by rw [hmt, stepM, if_pos hmay]
          rw [← hmt] at eMove
          repeat' ((first | refine brP_t (by assumption) ?_ | refine brP_f (by assumption) ?_ | refine brP_t (decide_eq_true (by omega)) ?_ | refine brP_f (decide_eq_false (by omega)) ?_ | refine brP_t (nd_t (by omega)) ?_ | refine brP_f (nd_f (by omega)) ?_ | refine callK_p h4 ?_ | refine callM_p h4 rfl ?_ | refine callK_pf rfl h4 ?_ | ((conv in (opS _ _ _ _) => whnf); rw [Int.toNat_natCast, hget]) | ((conv in (opM _ _ _ _ _) => whnf); (conv in (opS _ _ _ _) => whnf); rw [Int.toNat_natCast, hget]) | refine callK_p e1 ?_ | refine callM_p e1 rfl ?_ | refine callK_pf rfl e1 ?_ | refine callK_p e2 ?_ | refine callM_p e2 rfl ?_ | refine callK_pf rfl e2 ?_ | refine callK_p eMove ?_ | refine callM_p eMove rfl ?_ | refine callK_pf rfl eMove ?_ | refine wpfS_seq1 ?_ | refine wpfS_go ?_ | fail) <;> conv => whnf)
          rw [hw2]
          exact ⟨i + 1, 2, hi', (show now.length - (i + 1) < now.length - i by omega), ⟨rfl, rfl, rfl, rfl, trivial⟩, Nat.le_refl 2, congrArg (fun X => (⟨[], [.row (vrow 0 0 0 zeroM zeroM), .row (vrow ((e % 255 : Nat) : Int) p a X T)]⟩ : Hp)) hM1.symm, rfl, rfl⟩
        | false =>
          rw [hmay] at eMove
          have hmt : M1 = M := by rw [hmt, stepM, if_neg (by rw [hmay]; simp)]
          repeat' ((first | refine brP_t (by assumption) ?_ | refine brP_f (by assumption) ?_ | refine brP_t (decide_eq_true (by omega)) ?_ | refine brP_f (decide_eq_false (by omega)) ?_ | refine brP_t (nd_t (by omega)) ?_ | refine brP_f (nd_f (by omega)) ?_ | refine callK_p h4 ?_ | refine callM_p h4 rfl ?_ | refine callK_pf rfl h4 ?_ | ((conv in (opS _ _ _ _) => whnf); rw [Int.toNat_natCast, hget]) | ((conv in (opM _ _ _ _ _) => whnf); (conv in (opS _ _ _ _) => whnf); rw [Int.toNat_natCast, hget]) | refine callK_p e1 ?_ | refine callM_p e1 rfl ?_ | refine callK_pf rfl e1 ?_ | refine callK_p e2 ?_ | refine callM_p e2 rfl ?_ | refine callK_pf rfl e2 ?_ | refine callK_p eMove ?_ | refine callM_p eMove rfl ?_ | refine callK_pf rfl eMove ?_ | refine wpfS_seq1 ?_ | refine wpfS_go ?_ | fail) <;> conv => whnf)
          rw [hw2]
          exact ⟨i + 1, 2, hi', (show now.length - (i + 1) < now.length - i by omega), ⟨rfl, rfl, rfl, rfl, trivial⟩, Nat.le_refl 2, congrArg (fun X => (⟨[], [.row (vrow 0 0 0 zeroM zeroM), .row (vrow ((e % 255 : Nat) : Int) p a X T)]⟩ : Hp)) (hmt.symm.trans hM1.symm), rfl, rfl⟩
    · have hi' : i = now.length := by have := of_decide_eq_false h; omega
      subst hi'
      rw [List.take_length]
      clear h
      conv => whnf
      repeat' ((first | refine brP_t (by assumption) ?_ | refine brP_f (by assumption) ?_ | refine brP_t (decide_eq_true (by omega)) ?_ | refine brP_f (decide_eq_false (by omega)) ?_ | refine brP_t (nd_t (by omega)) ?_ | refine brP_f (nd_f (by omega)) ?_ | refine wpfS_seq1 ?_ | refine wpfS_go ?_ | fail) <;> conv => whnf)
      rfl
end Go.Ab.S
