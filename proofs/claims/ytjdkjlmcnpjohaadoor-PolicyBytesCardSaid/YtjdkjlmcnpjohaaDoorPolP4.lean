/- Part of a proof; no condition. -/
import Derived.Test.YtjdkjlmcnpjohaaDoorPolP3
set_option linter.unusedSimpArgs false
set_option linter.unusedVariables false
namespace Go.Ab.S
open Go Go.Ab Go.Proofs
attribute [local irreducible] SemS
set_option maxRecDepth 100000
theorem Pol.row_ext {p q : Pol} (h1 : p.live = q.live) (h2 : ∀ r, r < 16 → p.ls r = q.ls r) (h3 : ∀ r, r < 16 → p.li r = q.li r) (h4 : ∀ r, r < 16 → p.acts r = q.acts r) (h5 : ∀ r, r < 16 → p.own r = q.own r) (h6 : p.active = q.active) : p.row = q.row := by
  have e1 : labsR p.ls p.li = labsR q.ls q.li := by
    simp only [labsR]
    rw [h2 0 (by omega), h2 1 (by omega), h2 2 (by omega), h2 3 (by omega), h2 4 (by omega), h2 5 (by omega), h2 6 (by omega), h2 7 (by omega), h2 8 (by omega), h2 9 (by omega), h2 10 (by omega), h2 11 (by omega), h2 12 (by omega), h2 13 (by omega), h2 14 (by omega), h2 15 (by omega),
      h3 0 (by omega), h3 1 (by omega), h3 2 (by omega), h3 3 (by omega), h3 4 (by omega), h3 5 (by omega), h3 6 (by omega), h3 7 (by omega), h3 8 (by omega), h3 9 (by omega), h3 10 (by omega), h3 11 (by omega), h3 12 (by omega), h3 13 (by omega), h3 14 (by omega), h3 15 (by omega)]
  have e2 : actsR p.acts = actsR q.acts := by
    simp only [actsR]
    rw [h4 0 (by omega), h4 1 (by omega), h4 2 (by omega), h4 3 (by omega), h4 4 (by omega), h4 5 (by omega), h4 6 (by omega), h4 7 (by omega), h4 8 (by omega), h4 9 (by omega), h4 10 (by omega), h4 11 (by omega), h4 12 (by omega), h4 13 (by omega), h4 14 (by omega), h4 15 (by omega)]
  unfold Pol.row
  rw [h1, e1, e2, mrow_ext h5, h6]
def roleB (p : Pol) (r : Nat) : Bool := if p.live.testBit r then subB (p.ls r ||| p.li r) p.active && (subB (p.acts r) p.live && !(p.acts r).testBit r) else decide (p.ls r = 0) && (decide (p.li r = 0) && decide (p.acts r = 0))
theorem int_dec0 {a : Nat} : decide ((a : Int) = 0) = decide (a = 0) := decide_eq_decide.2 (by omega)
theorem policy_role_ok (p : Pol) (hp : p.Ok) (r : Nat) (hr : r < 16) : EvP PR G f_policy_role [p.v, iv r] (bv (roleB p r)) := by
  have e1 := tagset_Has_ok p.live r hp.live
  rw [hasN_nat hr] at e1
  have g2 := pol_act p hr
  have e2 := label_Tags_ok (p.ls r) (p.li r) (hp.ls r hr) (hp.li r hr)
  have e3 := tagset_Sub_ok (p.ls r ||| p.li r) p.active (or_lt (hp.ls r hr) (hp.li r hr)) hp.active
  have e4 := tagset_Sub_ok (p.acts r) p.live (hp.acts r hr) hp.live
  have e5 := tagset_Has_ok (p.acts r) r (hp.acts r hr)
  rw [hasN_nat hr] at e5
  have i1 := int_dec0 (a := p.ls r)
  have i2 := int_dec0 (a := p.li r)
  have i3 := int_dec0 (a := p.acts r)
  have g1 := pol_labL p hr
  unfold roleB
  refine EvP.of_wpf false hm c_policy_role rfl ?_
  refine wpf_seq1 ?_
  conv => whnf
  generalize hx : p.ls r = x at *
  generalize hy : p.li r = y at *
  generalize hz : p.acts r = z at *
  cases h1 : p.live.testBit r with
  | false =>
    rw [h1] at e1
    rw [if_neg (by simp)]
    have hq : (decide ((x : Int) = 0) && (decide ((y : Int) = 0) && true)) = (decide (x = 0) && decide (y = 0)) := by rw [i1, i2, Bool.and_true]
    rw [← Bool.and_assoc]
    generalize (decide (x = 0) && decide (y = 0)) = b at *
    cases b with
    | false =>
      repeat' ((first | (refine gd_mk ?_ ?_; (focus (first | exact decide_eq_true (by rw [pol_len]; omega) | exact decide_eq_true (And.intro rfl (by rw [pol_len]; simp only [List.length_cons, List.length_nil]; omega)) | exact decide_eq_true (And.intro rfl (by rw [pol_len]; omega)) | exact decide_eq_true (by rw [pol_len]; simp only [List.length_cons, List.length_nil]; omega) | exact decide_eq_true (by show _ ≤ 16; omega) | exact decide_eq_true (And.intro rfl (by show _ ≤ 16; omega)) | exact decide_eq_true (And.intro rfl (by show _ ≤ 16; simp only [List.length_cons, List.length_nil]; omega)))); rw [Int.toNat_natCast, g1]) | refine brP_t (by assumption) ?_ | refine brP_f (by assumption) ?_ | refine brP_t (decide_eq_true (by omega)) ?_ | refine brP_f (decide_eq_false (by omega)) ?_ | refine brP_t (nd_t (by omega)) ?_ | refine brP_f (nd_f (by omega)) ?_ | refine callK_p e1 ?_ | refine callM_p e1 rfl ?_ | refine callK_pf rfl e1 ?_ | ((conv in (opS _ _ _ _) => whnf); rw [Int.toNat_natCast, g2]) | ((conv in (opM _ _ _ _ _) => whnf); (conv in (opS _ _ _ _) => whnf); rw [Int.toNat_natCast, g2]) | ((rw [hq])) | refine wpfS_seq1 ?_ | refine wpfS_go ?_ | fail) <;> conv => whnf)
      rfl
    | true =>
      repeat' ((first | (refine gd_mk ?_ ?_; (focus (first | exact decide_eq_true (by rw [pol_len]; omega) | exact decide_eq_true (And.intro rfl (by rw [pol_len]; simp only [List.length_cons, List.length_nil]; omega)) | exact decide_eq_true (And.intro rfl (by rw [pol_len]; omega)) | exact decide_eq_true (by rw [pol_len]; simp only [List.length_cons, List.length_nil]; omega) | exact decide_eq_true (by show _ ≤ 16; omega) | exact decide_eq_true (And.intro rfl (by show _ ≤ 16; omega)) | exact decide_eq_true (And.intro rfl (by show _ ≤ 16; simp only [List.length_cons, List.length_nil]; omega)))); rw [Int.toNat_natCast, g1]) | refine brP_t (by assumption) ?_ | refine brP_f (by assumption) ?_ | refine brP_t (decide_eq_true (by omega)) ?_ | refine brP_f (decide_eq_false (by omega)) ?_ | refine brP_t (nd_t (by omega)) ?_ | refine brP_f (nd_f (by omega)) ?_ | refine callK_p e1 ?_ | refine callM_p e1 rfl ?_ | refine callK_pf rfl e1 ?_ | ((conv in (opS _ _ _ _) => whnf); rw [Int.toNat_natCast, g2]) | ((conv in (opM _ _ _ _ _) => whnf); (conv in (opS _ _ _ _) => whnf); rw [Int.toNat_natCast, g2]) | ((rw [hq])) | refine wpfS_seq1 ?_ | refine wpfS_go ?_ | fail) <;> conv => whnf)
      exact congrArg bv i3
  | true =>
    rw [h1] at e1
    rw [if_pos rfl]
    generalize subB (x ||| y) p.active = b1 at *
    generalize subB z p.live = b2 at *
    generalize z.testBit r = b3 at *
    cases b1 with
    | false =>
      repeat' ((first | (refine gd_mk ?_ ?_; (focus (first | exact decide_eq_true (by rw [pol_len]; omega) | exact decide_eq_true (And.intro rfl (by rw [pol_len]; simp only [List.length_cons, List.length_nil]; omega)) | exact decide_eq_true (And.intro rfl (by rw [pol_len]; omega)) | exact decide_eq_true (by rw [pol_len]; simp only [List.length_cons, List.length_nil]; omega) | exact decide_eq_true (by show _ ≤ 16; omega) | exact decide_eq_true (And.intro rfl (by show _ ≤ 16; omega)) | exact decide_eq_true (And.intro rfl (by show _ ≤ 16; simp only [List.length_cons, List.length_nil]; omega)))); rw [Int.toNat_natCast, g1]) | refine brP_t (by assumption) ?_ | refine brP_f (by assumption) ?_ | refine brP_t (decide_eq_true (by omega)) ?_ | refine brP_f (decide_eq_false (by omega)) ?_ | refine brP_t (nd_t (by omega)) ?_ | refine brP_f (nd_f (by omega)) ?_ | refine callK_p e1 ?_ | refine callM_p e1 rfl ?_ | refine callK_pf rfl e1 ?_ | ((conv in (opS _ _ _ _) => whnf); rw [Int.toNat_natCast, g2]) | ((conv in (opM _ _ _ _ _) => whnf); (conv in (opS _ _ _ _) => whnf); rw [Int.toNat_natCast, g2]) | refine callK_p e2 ?_ | refine callM_p e2 rfl ?_ | refine callK_pf rfl e2 ?_ | refine callK_p e3 ?_ | refine callM_p e3 rfl ?_ | refine callK_pf rfl e3 ?_ | refine wpfS_seq1 ?_ | refine wpfS_go ?_ | fail) <;> conv => whnf)
      rfl
    | true =>
      cases b2 with
      | false =>
        repeat' ((first | (refine gd_mk ?_ ?_; (focus (first | exact decide_eq_true (by rw [pol_len]; omega) | exact decide_eq_true (And.intro rfl (by rw [pol_len]; simp only [List.length_cons, List.length_nil]; omega)) | exact decide_eq_true (And.intro rfl (by rw [pol_len]; omega)) | exact decide_eq_true (by rw [pol_len]; simp only [List.length_cons, List.length_nil]; omega) | exact decide_eq_true (by show _ ≤ 16; omega) | exact decide_eq_true (And.intro rfl (by show _ ≤ 16; omega)) | exact decide_eq_true (And.intro rfl (by show _ ≤ 16; simp only [List.length_cons, List.length_nil]; omega)))); rw [Int.toNat_natCast, g1]) | refine brP_t (by assumption) ?_ | refine brP_f (by assumption) ?_ | refine brP_t (decide_eq_true (by omega)) ?_ | refine brP_f (decide_eq_false (by omega)) ?_ | refine brP_t (nd_t (by omega)) ?_ | refine brP_f (nd_f (by omega)) ?_ | refine callK_p e1 ?_ | refine callM_p e1 rfl ?_ | refine callK_pf rfl e1 ?_ | ((conv in (opS _ _ _ _) => whnf); rw [Int.toNat_natCast, g2]) | ((conv in (opM _ _ _ _ _) => whnf); (conv in (opS _ _ _ _) => whnf); rw [Int.toNat_natCast, g2]) | refine callK_p e2 ?_ | refine callM_p e2 rfl ?_ | refine callK_pf rfl e2 ?_ | refine callK_p e3 ?_ | refine callM_p e3 rfl ?_ | refine callK_pf rfl e3 ?_ | refine callK_p e4 ?_ | refine callM_p e4 rfl ?_ | refine callK_pf rfl e4 ?_ | refine wpfS_seq1 ?_ | refine wpfS_go ?_ | fail) <;> conv => whnf)
        rfl
      | true =>
        repeat' ((first | (refine gd_mk ?_ ?_; (focus (first | exact decide_eq_true (by rw [pol_len]; omega) | exact decide_eq_true (And.intro rfl (by rw [pol_len]; simp only [List.length_cons, List.length_nil]; omega)) | exact decide_eq_true (And.intro rfl (by rw [pol_len]; omega)) | exact decide_eq_true (by rw [pol_len]; simp only [List.length_cons, List.length_nil]; omega) | exact decide_eq_true (by show _ ≤ 16; omega) | exact decide_eq_true (And.intro rfl (by show _ ≤ 16; omega)) | exact decide_eq_true (And.intro rfl (by show _ ≤ 16; simp only [List.length_cons, List.length_nil]; omega)))); rw [Int.toNat_natCast, g1]) | refine brP_t (by assumption) ?_ | refine brP_f (by assumption) ?_ | refine brP_t (decide_eq_true (by omega)) ?_ | refine brP_f (decide_eq_false (by omega)) ?_ | refine brP_t (nd_t (by omega)) ?_ | refine brP_f (nd_f (by omega)) ?_ | refine callK_p e1 ?_ | refine callM_p e1 rfl ?_ | refine callK_pf rfl e1 ?_ | ((conv in (opS _ _ _ _) => whnf); rw [Int.toNat_natCast, g2]) | ((conv in (opM _ _ _ _ _) => whnf); (conv in (opS _ _ _ _) => whnf); rw [Int.toNat_natCast, g2]) | refine callK_p e2 ?_ | refine callM_p e2 rfl ?_ | refine callK_pf rfl e2 ?_ | refine callK_p e3 ?_ | refine callM_p e3 rfl ?_ | refine callK_pf rfl e3 ?_ | refine callK_p e4 ?_ | refine callM_p e4 rfl ?_ | refine callK_pf rfl e4 ?_ | refine callK_p e5 ?_ | refine callM_p e5 rfl ?_ | refine callK_pf rfl e5 ?_ | refine wpfS_seq1 ?_ | refine wpfS_go ?_ | fail) <;> conv => whnf)
        rfl
end Go.Ab.S
