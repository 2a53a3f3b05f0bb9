/- Part of a proof; no condition. Part of a proof; no condition. Part of a proof; no condition. Part of a proof; no condition. -/
import Derived.Test.YtepldakgedckcaaDoorLP5
set_option linter.unusedSimpArgs false
set_option linter.unusedVariables false
namespace Go.Ab.S
open Go Go.Ab Go.Proofs
attribute [local irreducible] SemS
set_option maxRecDepth 100000
theorem sub_zero {b : Nat} (hb : b < 65536) : subB 0 b = true := (subB_iff (by omega) hb).2 fun j _ h => by rw [Nat.zero_testBit] at h; cases h
set_option maxHeartbeats 4000000 in
theorem R12_Fine_ok (p : Pol) (hp : p.Ok) : EvP PR G f_R12_Fine [p.v] (bv (fineP p)) := by
  refine EvP.of_wpf false hm c_R12_Fine rfl ?_
  refine wpf_seq1 ?_
  conv => whnf
  repeat' ((first | refine brP_t (by assumption) ?_ | refine brP_f (by assumption) ?_ | refine brP_t (decide_eq_true (by omega)) ?_ | refine brP_f (decide_eq_false (by omega)) ?_ | refine brP_t (nd_t (by omega)) ?_ | refine brP_f (nd_f (by omega)) ?_ | refine wpfS_seq1 ?_ | refine wpfS_go ?_ | fail) <;> conv => whnf)
  refine SemS.loopC false hm (σ := Nat) (fun i => [(1, .c (.ptr (.loc 0) 0)), (3, iv i)]) (fun _ => ⟨[], [.row p.row]⟩) (fun i => 16 - i) (fun i => i ≤ 16 ∧ ∀ j, j < i → roleB p j = true) 0 ⟨Nat.zero_le _, fun j h => absurd h (Nat.not_lt_zero j)⟩ ⟨rfl, rfl, trivial⟩ rfl ?_
  rintro i ⟨hi, hall⟩
  refine wpf_seq1 ?_
  conv => whnf
  try (refine wpfS_seq1 ?_; conv => whnf)
  refine brP_mk (fun h => ?_) (fun h => ?_)
  · have hi' : i < 16 := by have := of_decide_eq_true h; omega
    clear h
    have hw2 : IntKind.i64.wrap ((i : Int) + 1) = ((i + 1 : Nat) : Int) := by rw [wrap64 (by omega)]; rfl
    have e1 := R01_Has_ok p.live i hp.live
    rw [hasN_nat hi'] at e1
    have g2 := pol_act p hi'
    have e2 := R02_Tags_ok (p.ls i) (p.li i) (hp.ls i hi') (hp.li i hi')
    have e3 := R01_Sub_ok (p.ls i ||| p.li i) p.active (or_lt (hp.ls i hi') (hp.li i hi')) hp.active
    have e4 := R01_Sub_ok (p.acts i) p.live (hp.acts i hi') hp.live
    have e5 := R01_Has_ok (p.acts i) i (hp.acts i hi')
    rw [hasN_nat hi'] at e5
    have g1 := pol_labL p hi'
    have z1 := sub_zero hp.live
    have z2 := sub_zero hp.active
    have goOn : roleB p i = true → ∀ j, j < i + 1 → roleB p j = true := fun hb j hj => by
      by_cases e : j = i
      · subst e; exact hb
      · exact hall j (by omega)
    have stop : roleB p i = false → fineP p = false := fun hb => by unfold fineP; rw [all16_f hi' hb]; rfl
    have hR : roleB p i = if p.live.testBit i then subB (p.ls i ||| p.li i) p.active && (subB (p.acts i) p.live && !(p.acts i).testBit i) else decide (p.ls i = 0) && (decide (p.li i = 0) && decide (p.acts i = 0)) := rfl
    generalize hx : p.ls i = x at *
    generalize hy : p.li i = y at *
    generalize hz : p.acts i = z at *
    cases h1 : p.live.testBit i with
    | true =>
      rw [h1] at e1
      rw [h1, if_pos rfl] at hR
      generalize subB (x ||| y) p.active = b1 at *
      generalize subB z p.live = b2 at *
      generalize z.testBit i = b3 at *
      cases b1 with
      | false =>
        rw [stop (by rw [hR]; rfl)]
        repeat' ((first | (refine gd_mk ?_ ?_; (focus (first | exact decide_eq_true (by rw [pol_len]; omega) | exact decide_eq_true (And.intro rfl (by rw [pol_len]; simp only [List.length_cons, List.length_nil]; omega)) | exact decide_eq_true (And.intro rfl (by rw [pol_len]; omega)) | exact decide_eq_true (by rw [pol_len]; simp only [List.length_cons, List.length_nil]; omega) | exact decide_eq_true (by show _ ≤ 16; omega) | exact decide_eq_true (And.intro rfl (by show _ ≤ 16; omega)) | exact decide_eq_true (And.intro rfl (by show _ ≤ 16; simp only [List.length_cons, List.length_nil]; omega)))); rw [Int.toNat_natCast, g1]) | refine brP_t (by assumption) ?_ | refine brP_f (by assumption) ?_ | refine brP_t (decide_eq_true (by omega)) ?_ | refine brP_f (decide_eq_false (by omega)) ?_ | refine brP_t (nd_t (by omega)) ?_ | refine brP_f (nd_f (by omega)) ?_ | refine callK_p e1 ?_ | refine callM_p e1 rfl ?_ | refine callK_pf rfl e1 ?_ | ((conv in (opS _ _ _ _) => whnf); rw [Int.toNat_natCast, g2]) | ((conv in (opM _ _ _ _ _) => whnf); (conv in (opS _ _ _ _) => whnf); rw [Int.toNat_natCast, g2]) | refine callK_p e2 ?_ | refine callM_p e2 rfl ?_ | refine callK_pf rfl e2 ?_ | refine callK_p e3 ?_ | refine callM_p e3 rfl ?_ | refine callK_pf rfl e3 ?_ | refine wpfS_seq1 ?_ | refine wpfS_go ?_ | fail) <;> conv => whnf)
        rfl
      | true =>
        cases b2 with
        | false =>
          rw [stop (by rw [hR]; rfl)]
          repeat' ((first | (refine gd_mk ?_ ?_; (focus (first | exact decide_eq_true (by rw [pol_len]; omega) | exact decide_eq_true (And.intro rfl (by rw [pol_len]; simp only [List.length_cons, List.length_nil]; omega)) | exact decide_eq_true (And.intro rfl (by rw [pol_len]; omega)) | exact decide_eq_true (by rw [pol_len]; simp only [List.length_cons, List.length_nil]; omega) | exact decide_eq_true (by show _ ≤ 16; omega) | exact decide_eq_true (And.intro rfl (by show _ ≤ 16; omega)) | exact decide_eq_true (And.intro rfl (by show _ ≤ 16; simp only [List.length_cons, List.length_nil]; omega)))); rw [Int.toNat_natCast, g1]) | refine brP_t (by assumption) ?_ | refine brP_f (by assumption) ?_ | refine brP_t (decide_eq_true (by omega)) ?_ | refine brP_f (decide_eq_false (by omega)) ?_ | refine brP_t (nd_t (by omega)) ?_ | refine brP_f (nd_f (by omega)) ?_ | refine callK_p e1 ?_ | refine callM_p e1 rfl ?_ | refine callK_pf rfl e1 ?_ | ((conv in (opS _ _ _ _) => whnf); rw [Int.toNat_natCast, g2]) | ((conv in (opM _ _ _ _ _) => whnf); (conv in (opS _ _ _ _) => whnf); rw [Int.toNat_natCast, g2]) | refine callK_p e2 ?_ | refine callM_p e2 rfl ?_ | refine callK_pf rfl e2 ?_ | refine callK_p e3 ?_ | refine callM_p e3 rfl ?_ | refine callK_pf rfl e3 ?_ | refine callK_p e4 ?_ | refine callM_p e4 rfl ?_ | refine callK_pf rfl e4 ?_ | refine wpfS_seq1 ?_ | refine wpfS_go ?_ | fail) <;> conv => whnf)
          rfl
        | true =>
          cases b3 with
          | true =>
            rw [stop (by rw [hR]; rfl)]
            repeat' ((first | (refine gd_mk ?_ ?_; (focus (first | exact decide_eq_true (by rw [pol_len]; omega) | exact decide_eq_true (And.intro rfl (by rw [pol_len]; simp only [List.length_cons, List.length_nil]; omega)) | exact decide_eq_true (And.intro rfl (by rw [pol_len]; omega)) | exact decide_eq_true (by rw [pol_len]; simp only [List.length_cons, List.length_nil]; omega) | exact decide_eq_true (by show _ ≤ 16; omega) | exact decide_eq_true (And.intro rfl (by show _ ≤ 16; omega)) | exact decide_eq_true (And.intro rfl (by show _ ≤ 16; simp only [List.length_cons, List.length_nil]; omega)))); rw [Int.toNat_natCast, g1]) | refine brP_t (by assumption) ?_ | refine brP_f (by assumption) ?_ | refine brP_t (decide_eq_true (by omega)) ?_ | refine brP_f (decide_eq_false (by omega)) ?_ | refine brP_t (nd_t (by omega)) ?_ | refine brP_f (nd_f (by omega)) ?_ | refine callK_p e1 ?_ | refine callM_p e1 rfl ?_ | refine callK_pf rfl e1 ?_ | ((conv in (opS _ _ _ _) => whnf); rw [Int.toNat_natCast, g2]) | ((conv in (opM _ _ _ _ _) => whnf); (conv in (opS _ _ _ _) => whnf); rw [Int.toNat_natCast, g2]) | refine callK_p e2 ?_ | refine callM_p e2 rfl ?_ | refine callK_pf rfl e2 ?_ | refine callK_p e3 ?_ | refine callM_p e3 rfl ?_ | refine callK_pf rfl e3 ?_ | refine callK_p e4 ?_ | refine callM_p e4 rfl ?_ | refine callK_pf rfl e4 ?_ | refine callK_p e5 ?_ | refine callM_p e5 rfl ?_ | refine callK_pf rfl e5 ?_ | refine wpfS_seq1 ?_ | refine wpfS_go ?_ | fail) <;> conv => whnf)
            rfl
          | false =>
            repeat' ((first | (refine gd_mk ?_ ?_; (focus (first | exact decide_eq_true (by rw [pol_len]; omega) | exact decide_eq_true (And.intro rfl (by rw [pol_len]; simp only [List.length_cons, List.length_nil]; omega)) | exact decide_eq_true (And.intro rfl (by rw [pol_len]; omega)) | exact decide_eq_true (by rw [pol_len]; simp only [List.length_cons, List.length_nil]; omega) | exact decide_eq_true (by show _ ≤ 16; omega) | exact decide_eq_true (And.intro rfl (by show _ ≤ 16; omega)) | exact decide_eq_true (And.intro rfl (by show _ ≤ 16; simp only [List.length_cons, List.length_nil]; omega)))); rw [Int.toNat_natCast, g1]) | refine brP_t (by assumption) ?_ | refine brP_f (by assumption) ?_ | refine brP_t (decide_eq_true (by omega)) ?_ | refine brP_f (decide_eq_false (by omega)) ?_ | refine brP_t (nd_t (by omega)) ?_ | refine brP_f (nd_f (by omega)) ?_ | refine callK_p e1 ?_ | refine callM_p e1 rfl ?_ | refine callK_pf rfl e1 ?_ | ((conv in (opS _ _ _ _) => whnf); rw [Int.toNat_natCast, g2]) | ((conv in (opM _ _ _ _ _) => whnf); (conv in (opS _ _ _ _) => whnf); rw [Int.toNat_natCast, g2]) | refine callK_p e2 ?_ | refine callM_p e2 rfl ?_ | refine callK_pf rfl e2 ?_ | refine callK_p e3 ?_ | refine callM_p e3 rfl ?_ | refine callK_pf rfl e3 ?_ | refine callK_p e4 ?_ | refine callM_p e4 rfl ?_ | refine callK_pf rfl e4 ?_ | refine callK_p e5 ?_ | refine callM_p e5 rfl ?_ | refine callK_pf rfl e5 ?_ | refine wpfS_seq1 ?_ | refine wpfS_go ?_ | fail) <;> conv => whnf)
            rw [hw2]
            refine ⟨i + 1, 1, ⟨hi', goOn (by rw [hR]; rfl)⟩, (show 16 - (i + 1) < 16 - i by omega), ⟨rfl, rfl, trivial⟩, Nat.le_refl 1, rfl, rfl, rfl⟩
    | false =>
      rw [h1] at e1
      rw [h1, if_neg (by simp)] at hR
      by_cases hx0 : x = 0
      · by_cases hy0 : y = 0
        · by_cases hz0 : z = 0
          · rw [show subB (x ||| y) p.active = true by rw [hx0, hy0]; exact z2] at e3
            rw [show subB z p.live = true by rw [hz0]; exact z1] at e4
            rw [show z.testBit i = false by rw [hz0, Nat.zero_testBit]] at e5
            repeat' ((first | (refine gd_mk ?_ ?_; (focus (first | exact decide_eq_true (by rw [pol_len]; omega) | exact decide_eq_true (And.intro rfl (by rw [pol_len]; simp only [List.length_cons, List.length_nil]; omega)) | exact decide_eq_true (And.intro rfl (by rw [pol_len]; omega)) | exact decide_eq_true (by rw [pol_len]; simp only [List.length_cons, List.length_nil]; omega) | exact decide_eq_true (by show _ ≤ 16; omega) | exact decide_eq_true (And.intro rfl (by show _ ≤ 16; omega)) | exact decide_eq_true (And.intro rfl (by show _ ≤ 16; simp only [List.length_cons, List.length_nil]; omega)))); rw [Int.toNat_natCast, g1]) | refine brP_t (by assumption) ?_ | refine brP_f (by assumption) ?_ | refine brP_t (decide_eq_true (by omega)) ?_ | refine brP_f (decide_eq_false (by omega)) ?_ | refine brP_t (nd_t (by omega)) ?_ | refine brP_f (nd_f (by omega)) ?_ | refine callK_p e1 ?_ | refine callM_p e1 rfl ?_ | refine callK_pf rfl e1 ?_ | ((conv in (opS _ _ _ _) => whnf); rw [Int.toNat_natCast, g2]) | ((conv in (opM _ _ _ _ _) => whnf); (conv in (opS _ _ _ _) => whnf); rw [Int.toNat_natCast, g2]) | refine callK_p e2 ?_ | refine callM_p e2 rfl ?_ | refine callK_pf rfl e2 ?_ | refine callK_p e3 ?_ | refine callM_p e3 rfl ?_ | refine callK_pf rfl e3 ?_ | refine callK_p e4 ?_ | refine callM_p e4 rfl ?_ | refine callK_pf rfl e4 ?_ | refine callK_p e5 ?_ | refine callM_p e5 rfl ?_ | refine callK_pf rfl e5 ?_ | refine wpfS_seq1 ?_ | refine wpfS_go ?_ | fail) <;> conv => whnf)
            rw [hw2]
            refine ⟨i + 1, 1, ⟨hi', goOn (by rw [hR, decide_eq_true hx0, decide_eq_true hy0, decide_eq_true hz0]; rfl)⟩, (show 16 - (i + 1) < 16 - i by omega), ⟨rfl, rfl, trivial⟩, Nat.le_refl 1, rfl, rfl, rfl⟩
          · rw [stop (by rw [hR, decide_eq_false hz0, Bool.and_false, Bool.and_false])]
            repeat' ((first | (refine gd_mk ?_ ?_; (focus (first | exact decide_eq_true (by rw [pol_len]; omega) | exact decide_eq_true (And.intro rfl (by rw [pol_len]; simp only [List.length_cons, List.length_nil]; omega)) | exact decide_eq_true (And.intro rfl (by rw [pol_len]; omega)) | exact decide_eq_true (by rw [pol_len]; simp only [List.length_cons, List.length_nil]; omega) | exact decide_eq_true (by show _ ≤ 16; omega) | exact decide_eq_true (And.intro rfl (by show _ ≤ 16; omega)) | exact decide_eq_true (And.intro rfl (by show _ ≤ 16; simp only [List.length_cons, List.length_nil]; omega)))); rw [Int.toNat_natCast, g1]) | refine brP_t (by assumption) ?_ | refine brP_f (by assumption) ?_ | refine brP_t (decide_eq_true (by omega)) ?_ | refine brP_f (decide_eq_false (by omega)) ?_ | refine brP_t (nd_t (by omega)) ?_ | refine brP_f (nd_f (by omega)) ?_ | refine callK_p e1 ?_ | refine callM_p e1 rfl ?_ | refine callK_pf rfl e1 ?_ | ((conv in (opS _ _ _ _) => whnf); rw [Int.toNat_natCast, g2]) | ((conv in (opM _ _ _ _ _) => whnf); (conv in (opS _ _ _ _) => whnf); rw [Int.toNat_natCast, g2]) | refine callK_p e2 ?_ | refine callM_p e2 rfl ?_ | refine callK_pf rfl e2 ?_ | refine callK_p e3 ?_ | refine callM_p e3 rfl ?_ | refine callK_pf rfl e3 ?_ | refine wpfS_seq1 ?_ | refine wpfS_go ?_ | fail) <;> conv => whnf)
            rfl
        · rw [stop (by rw [hR, decide_eq_false hy0, Bool.false_and, Bool.and_false])]
          repeat' ((first | (refine gd_mk ?_ ?_; (focus (first | exact decide_eq_true (by rw [pol_len]; omega) | exact decide_eq_true (And.intro rfl (by rw [pol_len]; simp only [List.length_cons, List.length_nil]; omega)) | exact decide_eq_true (And.intro rfl (by rw [pol_len]; omega)) | exact decide_eq_true (by rw [pol_len]; simp only [List.length_cons, List.length_nil]; omega) | exact decide_eq_true (by show _ ≤ 16; omega) | exact decide_eq_true (And.intro rfl (by show _ ≤ 16; omega)) | exact decide_eq_true (And.intro rfl (by show _ ≤ 16; simp only [List.length_cons, List.length_nil]; omega)))); rw [Int.toNat_natCast, g1]) | refine brP_t (by assumption) ?_ | refine brP_f (by assumption) ?_ | refine brP_t (decide_eq_true (by omega)) ?_ | refine brP_f (decide_eq_false (by omega)) ?_ | refine brP_t (nd_t (by omega)) ?_ | refine brP_f (nd_f (by omega)) ?_ | refine callK_p e1 ?_ | refine callM_p e1 rfl ?_ | refine callK_pf rfl e1 ?_ | ((conv in (opS _ _ _ _) => whnf); rw [Int.toNat_natCast, g2]) | ((conv in (opM _ _ _ _ _) => whnf); (conv in (opS _ _ _ _) => whnf); rw [Int.toNat_natCast, g2]) | refine callK_p e2 ?_ | refine callM_p e2 rfl ?_ | refine callK_pf rfl e2 ?_ | refine callK_p e3 ?_ | refine callM_p e3 rfl ?_ | refine callK_pf rfl e3 ?_ | refine wpfS_seq1 ?_ | refine wpfS_go ?_ | fail) <;> conv => whnf)
          rfl
      · rw [stop (by rw [hR, decide_eq_false hx0, Bool.false_and])]
        repeat' ((first | (refine gd_mk ?_ ?_; (focus (first | exact decide_eq_true (by rw [pol_len]; omega) | exact decide_eq_true (And.intro rfl (by rw [pol_len]; simp only [List.length_cons, List.length_nil]; omega)) | exact decide_eq_true (And.intro rfl (by rw [pol_len]; omega)) | exact decide_eq_true (by rw [pol_len]; simp only [List.length_cons, List.length_nil]; omega) | exact decide_eq_true (by show _ ≤ 16; omega) | exact decide_eq_true (And.intro rfl (by show _ ≤ 16; omega)) | exact decide_eq_true (And.intro rfl (by show _ ≤ 16; simp only [List.length_cons, List.length_nil]; omega)))); rw [Int.toNat_natCast, g1]) | refine brP_t (by assumption) ?_ | refine brP_f (by assumption) ?_ | refine brP_t (decide_eq_true (by omega)) ?_ | refine brP_f (decide_eq_false (by omega)) ?_ | refine brP_t (nd_t (by omega)) ?_ | refine brP_f (nd_f (by omega)) ?_ | refine callK_p e1 ?_ | refine callM_p e1 rfl ?_ | refine callK_pf rfl e1 ?_ | ((conv in (opS _ _ _ _) => whnf); rw [Int.toNat_natCast, g2]) | ((conv in (opM _ _ _ _ _) => whnf); (conv in (opS _ _ _ _) => whnf); rw [Int.toNat_natCast, g2]) | refine callK_p e2 ?_ | refine callM_p e2 rfl ?_ | refine callK_pf rfl e2 ?_ | refine callK_p e3 ?_ | refine callM_p e3 rfl ?_ | refine callK_pf rfl e3 ?_ | refine wpfS_seq1 ?_ | refine wpfS_go ?_ | fail) <;> conv => whnf)
        rfl
  · have hi' : i = 16 := by have := of_decide_eq_false h; omega
    subst hi'
    clear h
    conv => whnf
    repeat' ((first | refine brP_t (by assumption) ?_ | refine brP_f (by assumption) ?_ | refine brP_t (decide_eq_true (by omega)) ?_ | refine brP_f (decide_eq_false (by omega)) ?_ | refine brP_t (nd_t (by omega)) ?_ | refine brP_f (nd_f (by omega)) ?_ | refine wpfS_seq1 ?_ | refine wpfS_go ?_ | fail) <;> conv => whnf)
    refine SemS.loopF false hm (σ := Nat) (fun i => [(1, .c (.ptr (.loc 0) 0)), (5, iv i)]) (fun _ => ⟨[], [.row p.row]⟩) (fun i => 16 - i) (fun i => i ≤ 16 ∧ ∀ j, j < i → ownB p j = true) 0 ⟨Nat.zero_le _, fun j h => absurd h (Nat.not_lt_zero j)⟩ ⟨rfl, rfl, trivial⟩ rfl ?_
    rintro i ⟨hi, hal2⟩
    refine wpf_seq1 ?_
    conv => whnf
    try (refine wpfS_seq1 ?_; conv => whnf)
    refine brP_mk (fun h => ?_) (fun h => ?_)
    · have hi' : i < 16 := by have := of_decide_eq_true h; omega
      clear h
      have hw2 : IntKind.i64.wrap ((i : Int) + 1) = ((i + 1 : Nat) : Int) := by rw [wrap64 (by omega)]; rfl
      have hget := pol_own p hi'
      have hw := wrapU8 (p.own i) (hp.own i hi')
      have e1 := R01_Has_ok p.live (p.own i) hp.live
      have e2 := R01_Has_ok p.active i hp.active
      rw [hasN_nat hi'] at e2
      have goOn : ownB p i = true → ∀ j, j < i + 1 → ownB p j = true := fun hb j hj => by
        by_cases e : j = i
        · subst e; exact hb
        · exact hal2 j (by omega)
      have stop : ownB p i = false → fineP p = false := fun hb => by unfold fineP; rw [all16_f hi' hb, Bool.and_false]
      have hR : ownB p i = (decide (p.own i = 16) || (hasN p.live (p.own i) && p.active.testBit i)) := rfl
      generalize ho : p.own i = o at *
      by_cases h0 : o = 16
      · repeat' ((first | refine brP_t (by assumption) ?_ | refine brP_f (by assumption) ?_ | refine brP_t (decide_eq_true (by omega)) ?_ | refine brP_f (decide_eq_false (by omega)) ?_ | refine brP_t (nd_t (by omega)) ?_ | refine brP_f (nd_f (by omega)) ?_ | ((conv in (opS _ _ _ _) => whnf); rw [Int.toNat_natCast, hget]) | ((conv in (opM _ _ _ _ _) => whnf); (conv in (opS _ _ _ _) => whnf); rw [Int.toNat_natCast, hget]) | ((rw [hw])) | refine wpfS_seq1 ?_ | refine wpfS_go ?_ | fail) <;> conv => whnf)
        rw [hw2]
        exact ⟨i + 1, ⟨hi', goOn (by rw [hR, decide_eq_true h0]; rfl)⟩, (show 16 - (i + 1) < 16 - i by omega), ⟨rfl, rfl, trivial⟩, rfl⟩
      · rw [decide_eq_false h0, Bool.false_or] at hR
        by_cases h3 : o < 16
        · cases h1 : hasN p.live o with
          | false =>
            rw [h1] at e1
            rw [stop (by rw [hR, h1]; rfl)]
            repeat' ((first | refine brP_t (by assumption) ?_ | refine brP_f (by assumption) ?_ | refine brP_t (decide_eq_true (by omega)) ?_ | refine brP_f (decide_eq_false (by omega)) ?_ | refine brP_t (nd_t (by omega)) ?_ | refine brP_f (nd_f (by omega)) ?_ | ((conv in (opS _ _ _ _) => whnf); rw [Int.toNat_natCast, hget]) | ((conv in (opM _ _ _ _ _) => whnf); (conv in (opS _ _ _ _) => whnf); rw [Int.toNat_natCast, hget]) | ((rw [hw])) | refine callK_p e1 ?_ | refine callM_p e1 rfl ?_ | refine callK_pf rfl e1 ?_ | refine wpfS_seq1 ?_ | refine wpfS_go ?_ | fail) <;> conv => whnf)
            rfl
          | true =>
            rw [h1] at e1
            cases h2 : p.active.testBit i with
            | false =>
              rw [h2] at e2
              rw [stop (by rw [hR, h2, Bool.and_false])]
              repeat' ((first | refine brP_t (by assumption) ?_ | refine brP_f (by assumption) ?_ | refine brP_t (decide_eq_true (by omega)) ?_ | refine brP_f (decide_eq_false (by omega)) ?_ | refine brP_t (nd_t (by omega)) ?_ | refine brP_f (nd_f (by omega)) ?_ | ((conv in (opS _ _ _ _) => whnf); rw [Int.toNat_natCast, hget]) | ((conv in (opM _ _ _ _ _) => whnf); (conv in (opS _ _ _ _) => whnf); rw [Int.toNat_natCast, hget]) | ((rw [hw])) | refine callK_p e1 ?_ | refine callM_p e1 rfl ?_ | refine callK_pf rfl e1 ?_ | refine callK_p e2 ?_ | refine callM_p e2 rfl ?_ | refine callK_pf rfl e2 ?_ | refine wpfS_seq1 ?_ | refine wpfS_go ?_ | fail) <;> conv => whnf)
              rfl
            | true =>
              rw [h2] at e2
              repeat' ((first | refine brP_t (by assumption) ?_ | refine brP_f (by assumption) ?_ | refine brP_t (decide_eq_true (by omega)) ?_ | refine brP_f (decide_eq_false (by omega)) ?_ | refine brP_t (nd_t (by omega)) ?_ | refine brP_f (nd_f (by omega)) ?_ | ((conv in (opS _ _ _ _) => whnf); rw [Int.toNat_natCast, hget]) | ((conv in (opM _ _ _ _ _) => whnf); (conv in (opS _ _ _ _) => whnf); rw [Int.toNat_natCast, hget]) | ((rw [hw])) | refine callK_p e1 ?_ | refine callM_p e1 rfl ?_ | refine callK_pf rfl e1 ?_ | refine callK_p e2 ?_ | refine callM_p e2 rfl ?_ | refine callK_pf rfl e2 ?_ | refine wpfS_seq1 ?_ | refine wpfS_go ?_ | fail) <;> conv => whnf)
              rw [hw2]
              exact ⟨i + 1, ⟨hi', goOn (by rw [hR, h1, h2]; rfl)⟩, (show 16 - (i + 1) < 16 - i by omega), ⟨rfl, rfl, trivial⟩, rfl⟩
        · rw [stop (by rw [hR]; unfold hasN; rw [decide_eq_false (show ¬ (o : Int) ≤ 15 by omega), Bool.and_false]; rfl)]
          repeat' ((first | refine brP_t (by assumption) ?_ | refine brP_f (by assumption) ?_ | refine brP_t (decide_eq_true (by omega)) ?_ | refine brP_f (decide_eq_false (by omega)) ?_ | refine brP_t (nd_t (by omega)) ?_ | refine brP_f (nd_f (by omega)) ?_ | ((conv in (opS _ _ _ _) => whnf); rw [Int.toNat_natCast, hget]) | ((conv in (opM _ _ _ _ _) => whnf); (conv in (opS _ _ _ _) => whnf); rw [Int.toNat_natCast, hget]) | ((rw [hw])) | refine wpfS_seq1 ?_ | refine wpfS_go ?_ | fail) <;> conv => whnf)
          rfl
    · have hi' : i = 16 := by have := of_decide_eq_false h; omega
      subst hi'
      clear h
      have hf : fineP p = true := by unfold fineP; rw [all16_t hall, all16_t hal2]; rfl
      rw [hf]
      conv => whnf
      repeat' ((first | refine brP_t (by assumption) ?_ | refine brP_f (by assumption) ?_ | refine brP_t (decide_eq_true (by omega)) ?_ | refine brP_f (decide_eq_false (by omega)) ?_ | refine brP_t (nd_t (by omega)) ?_ | refine brP_f (nd_f (by omega)) ?_ | refine wpfS_seq1 ?_ | refine wpfS_go ?_ | fail) <;> conv => whnf)
      rfl
end Go.Ab.S

namespace Go.Ab.S
open Go Go.Ab Go.Proofs
attribute [local irreducible] SemS
set_option maxRecDepth 100000
/-! ### Which roles are seen -/
def orIf (f : Nat → Bool) (l : List Nat) : Nat := l.foldl (fun o r => if f r then o ||| 2 ^ r else o) 0
def seenN (p : Pol) (s i : Nat) : Nat := setOf (fun r => p.live.testBit r && flowsB (p.ls r) (p.li r) s i) 16
end Go.Ab.S

namespace Go.Ab.S
open Go Go.Ab Go.Proofs
attribute [local irreducible] SemS
set_option maxRecDepth 100000
/-! ### Whose tags -/
def ownedN (p : Pol) (rs : Nat) : Nat := setOf (fun t => hasN rs (p.own t)) 16
/-! ### The first -/
def firstP : Pol := ⟨1, fun _ => 0, fun r => if r = 0 then 65535 else 0, fun _ => 0, fun _ => 0, 65535⟩
end Go.Ab.S

namespace Go.Ab.S
open Go Go.Ab Go.Proofs
attribute [local irreducible] SemS
set_option maxRecDepth 100000
/-! ### Who acts for whom -/
/-- For whom a role acts, under a label. -/
def dwnN (p : Pol) (a : Int) (s i : Nat) : Nat := downN (seenN p s i) p.acts (ofN a)
def capsN (p : Pol) (a : Int) (s i : Nat) : Nat := ownedN p (dwnN p a s i) &&& p.active
def capB (p : Pol) (a : Int) (s i : Nat) (t : Nat) : Bool := p.active.testBit t && hasN (dwnN p a s i) (p.own t)
end Go.Ab.S
