/- Part of a proof; no condition. -/
import Derived.Test.YteipepbijfdciaaDoorRelTellsLaw
set_option linter.unusedSimpArgs false
set_option linter.unusedVariables false
namespace Go.Ab.S
open Go Go.Ab Go.Proofs
attribute [local irreducible] SemS
set_option maxRecDepth 100000
theorem step_fine {M : Nat → Nat} (h : fineB M = true) (p : Int × Int) : fineB (stepM M p) = true := by
  unfold stepM
  split
  · rename_i hm'
    simp only [mayB, Bool.and_eq_true, Bool.not_eq_true', decide_eq_false_iff_not] at hm'
    obtain ⟨⟨ha, hb⟩, hne⟩ := hm'
    obtain ⟨a0, a1, a2⟩ := stays_iff.1 ha
    obtain ⟨b0, b1, b2⟩ := stays_iff.1 hb
    rw [fineB_iff] at h ⊢
    intro t ht
    obtain ⟨h1, h2⟩ := h t ht
    have hb' : ¬ ((M p.2.toNat : Int) = p.1) := by omega
    by_cases e : (M t : Int) = p.1
    · have e1 : moveN M p.1 p.2 t = p.2.toNat := by unfold moveN; rw [if_pos e]
      have e2 : moveN M p.1 p.2 p.2.toNat = M p.2.toNat := by unfold moveN; rw [if_neg hb']
      rw [e1, e2]
      exact ⟨by omega, by omega⟩
    · have e1 : moveN M p.1 p.2 t = M t := by unfold moveN; rw [if_neg e]
      have e2 : moveN M p.1 p.2 (M t) = M (M t) := by unfold moveN; rw [h2, if_neg e]
      rw [e1, e2]
      exact ⟨h1, h2⟩
  · exact h
theorem id_fine : fineB id = true := by rw [fineB_iff]; intro t ht; exact ⟨ht, rfl⟩
theorem made_fine (l : List (Int × Int)) : fineB (madeN l) = true := by
  have : ∀ (l : List (Int × Int)) (M : Nat → Nat), fineB M = true → fineB (l.foldl stepM M) = true := by
    intro l
    induction l with
    | nil => intro M h; exact h
    | cons p l ih => intro M h; exact ih _ (step_fine h p)
  exact this l id id_fine
theorem moves_ok (l : List (Int × Int)) : EvP Tryd.prog G f_L04_RelabelMoves [slv l] (bv true) := by
  have hlen : (prows l).length = l.length := by simp [prows]
  refine EvP.of_wpf false hm c_L04_RelabelMoves rfl ?_
  refine wpf_seq1 ?_
  conv => whnf
  refine wpfS_seq1 ?_
  conv => whnf
  rw [hlen]
  refine brP_mk (fun h => ?_) (fun h => ?_)
  · conv => whnf
    repeat' ((first | refine brP_t (by assumption) ?_ | refine brP_f (by assumption) ?_ | refine brP_t (decide_eq_true (by omega)) ?_ | refine brP_f (decide_eq_false (by omega)) ?_ | refine callK_p L04_alive_ok ?_ | refine callM_p L04_alive_ok rfl ?_ | refine callK_pf rfl L04_alive_ok ?_ | fail) <;> conv => whnf)
    rfl
  have hl : l.length ≤ 1000 := by have := of_decide_eq_false h; omega
  clear h
  conv => whnf
  refine wpfS_seq1 ?_
  conv => whnf
  repeat' ((first | refine brP_t (by assumption) ?_ | refine brP_f (by assumption) ?_ | refine brP_t (decide_eq_true (by omega)) ?_ | refine brP_f (decide_eq_false (by omega)) ?_ | refine callK_p relabel_Same_ok ?_ | refine callM_p relabel_Same_ok rfl ?_ | refine callK_pf rfl relabel_Same_ok ?_ | fail) <;> conv => whnf)
  refine wpfS_seq1 ?_
  conv => whnf
  refine SemS.loopC false hm (σ := Nat) (fun i => [(0, slv l), (3, .c (.ptr (.loc 0) 0)), (4, iv i)]) (fun i => ⟨[], [.row (mrow (madeN (l.take i)))]⟩) (fun i => l.length - i) (fun i => i ≤ l.length) 0 (Nat.zero_le _) ⟨rfl, rfl, rfl, trivial⟩ rfl ?_
  intro i hi
  have hM := made_le (l.take i)
  conv => whnf
  rw [hlen]
  refine brP_mk (fun h => ?_) (fun h => ?_)
  · have hi' : i < l.length := by have := of_decide_eq_true h; omega
    clear h
    have hget := prows_get hi'
    have hw2 : IntKind.i64.wrap ((i : Int) + 1) = ((i + 1 : Nat) : Int) := by rw [wrap64 (by omega)]; rfl
    have hmt := made_take hi'
    have hM2 := made_le (l.take (i + 1))
    have hfine := made_fine (l.take (i + 1))
    have eMade := R04_Made_ok (l.take (i + 1)) (by simp; omega)
    have hall : ((prows l).all fun r => r.length == 2) = true := by simp [prows, prow]
    have hsl : ((prows l).take (((i + 1 : Nat) : Int)).toNat).drop 0 = prows (l.take (i + 1)) := by simp [prows, List.map_take]
    generalize madeN (l.take i) = M0 at *
    generalize hM1 : madeN (l.take (i + 1)) = M1 at *
    generalize hp : l[i] = p at *
    have eMove := relabel_Move_ok M0 hM p.1 p.2
    have eMove2 := R04_Move_ok M0 hM p.1 p.2
    cases hmay : mayB M0 p.1 p.2 with
    | true =>
      rw [hmay] at eMove eMove2
      simp only [if_true] at eMove eMove2
      have hm1 : moveN M0 p.1 p.2 = M1 := by rw [hmt, stepM, if_pos hmay]
      rw [hm1] at eMove eMove2
      have eFine := relabel_Fine_ok M1 hM2
      rw [hfine] at eFine
      conv => whnf
      repeat' ((first | refine brP_t (by assumption) ?_ | refine brP_f (by assumption) ?_ | refine brP_t (decide_eq_true (by omega)) ?_ | refine brP_f (decide_eq_false (by omega)) ?_ | ((conv in (opM _ _ _ _ _) => whnf); (conv in (opS _ _ _ _) => whnf); rw [Int.toNat_natCast, hget]) | refine callK_p eMove ?_ | refine callM_p eMove rfl ?_ | refine callK_pf rfl eMove ?_ | refine callK_p eMove2 ?_ | refine callM_p eMove2 rfl ?_ | refine callK_pf rfl eMove2 ?_ | refine callK_p eFine ?_ | refine callM_p eFine rfl ?_ | refine callK_pf rfl eFine ?_ | (refine brP_f ?_ ?_; focus (simp; done)) | fail) <;> conv => whnf)
      rw [hw2, hall, hsl, hlen]
      refine brP_t (by simp; omega) ?_
      conv => whnf
      repeat' ((first | refine brP_t (by assumption) ?_ | refine brP_f (by assumption) ?_ | refine brP_t (decide_eq_true (by omega)) ?_ | refine brP_f (decide_eq_false (by omega)) ?_ | refine callK_p eMade ?_ | refine callM_p eMade rfl ?_ | refine callK_pf rfl eMade ?_ | (refine brP_f ?_ ?_; focus (simp; done)) | fail) <;> conv => whnf)
      rw [hw2]
      refine ⟨i + 1, 1, by omega, (show l.length - (i + 1) < l.length - i by omega), ⟨rfl, rfl, rfl, trivial⟩, Nat.le_refl 1, ?_, rfl, rfl⟩
      show _ = (⟨[], [.row (mrow (madeN (l.take (i + 1))))]⟩ : Hp)
      rw [hM1]
      rfl
    | false =>
      rw [hmay] at eMove eMove2
      simp only [Bool.false_eq_true, if_false] at eMove eMove2
      have hm1 : M0 = M1 := by rw [hmt, stepM, if_neg (by rw [hmay]; simp)]
      have eFine := relabel_Fine_ok M1 hM2
      rw [hfine] at eFine
      rw [hm1] at eMove eMove2 ⊢
      conv => whnf
      repeat' ((first | refine brP_t (by assumption) ?_ | refine brP_f (by assumption) ?_ | refine brP_t (decide_eq_true (by omega)) ?_ | refine brP_f (decide_eq_false (by omega)) ?_ | ((conv in (opM _ _ _ _ _) => whnf); (conv in (opS _ _ _ _) => whnf); rw [Int.toNat_natCast, hget]) | refine callK_p eMove ?_ | refine callM_p eMove rfl ?_ | refine callK_pf rfl eMove ?_ | refine callK_p eMove2 ?_ | refine callM_p eMove2 rfl ?_ | refine callK_pf rfl eMove2 ?_ | refine callK_p eFine ?_ | refine callM_p eFine rfl ?_ | refine callK_pf rfl eFine ?_ | (refine brP_f ?_ ?_; focus (simp; done)) | fail) <;> conv => whnf)
      rw [hw2, hall, hsl, hlen]
      refine brP_t (by simp; omega) ?_
      conv => whnf
      repeat' ((first | refine brP_t (by assumption) ?_ | refine brP_f (by assumption) ?_ | refine brP_t (decide_eq_true (by omega)) ?_ | refine brP_f (decide_eq_false (by omega)) ?_ | refine callK_p eMade ?_ | refine callM_p eMade rfl ?_ | refine callK_pf rfl eMade ?_ | (refine brP_f ?_ ?_; focus (simp; done)) | fail) <;> conv => whnf)
      rw [hw2]
      refine ⟨i + 1, 1, by omega, (show l.length - (i + 1) < l.length - i by omega), ⟨rfl, rfl, rfl, trivial⟩, Nat.le_refl 1, ?_, rfl, rfl⟩
      show _ = (⟨[], [.row (mrow (madeN (l.take (i + 1))))]⟩ : Hp)
      rw [hM1]
      rfl
  · have hi' : i = l.length := by have := of_decide_eq_false h; omega
    subst hi'
    conv => whnf
    refine wpfS_go ?_
    conv => whnf
    repeat' ((first | refine brP_t (by assumption) ?_ | refine brP_f (by assumption) ?_ | refine brP_t (decide_eq_true (by omega)) ?_ | refine brP_f (decide_eq_false (by omega)) ?_ | refine callK_p L04_alive_ok ?_ | refine callM_p L04_alive_ok rfl ?_ | refine callK_pf rfl L04_alive_ok ?_ | fail) <;> conv => whnf)
    rfl
theorem law_moves (pvss : List (List PV)) (hw : wts [(.sl 2 16 (.arr 2 1 (.int .i64)))] pvss) : EvP Tryd.prog G f_L04_RelabelMoves (argAVs [(.sl 2 16 (.arr 2 1 (.int .i64)))] pvss) (.c (.p (.bool true))) := by
  obtain ⟨n, _, rfl, hn, hw⟩ := wts_cons hw
  cases wts_nil hw
  obtain ⟨es, rfl, -, -, hes⟩ := hn
  obtain ⟨l, rfl⟩ := prows_of hes
  exact moves_ok l
end Go.Ab.S
