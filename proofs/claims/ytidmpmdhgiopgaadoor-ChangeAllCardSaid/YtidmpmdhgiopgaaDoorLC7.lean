/- One change, by the document: a role goes, a tag's deeds. No condition. One change, by the document. No condition. -/
import Derived.Test.YtidmpmdhgiopgaaDoorLC5
set_option linter.unusedSimpArgs false
set_option linter.unusedVariables false
namespace Go.Ab.S
open Go Go.Ab Go.Proofs
attribute [local irreducible] SemS
set_option maxRecDepth 100000
/-! ### A policy that may be, without a role, is mended -/
theorem fine_role {p : Pol} (hf : fineP p = true) {r : Nat} (hr : r < 16) : roleB p r = true := by
  unfold fineP at hf
  rw [Bool.and_eq_true] at hf
  exact all16_at hf.1 hr
theorem fine_own {p : Pol} (hf : fineP p = true) {r : Nat} (hr : r < 16) : ownB p r = true := by
  unfold fineP at hf
  rw [Bool.and_eq_true] at hf
  exact all16_at hf.2 hr
theorem role_live {p : Pol} (hp : p.Ok) (hf : fineP p = true) {r : Nat} (hr : r < 16) (h : p.live.testBit r = true) : (∀ j, j < 16 → (p.ls r).testBit j = true → p.active.testBit j = true) ∧ (∀ j, j < 16 → (p.li r).testBit j = true → p.active.testBit j = true) ∧ (∀ j, j < 16 → (p.acts r).testBit j = true → p.live.testBit j = true) ∧ (p.acts r).testBit r = false := by
  have hb := fine_role hf hr
  unfold roleB at hb
  rw [if_pos h] at hb
  simp only [Bool.and_eq_true, Bool.not_eq_true'] at hb
  obtain ⟨h1, h2, h3⟩ := hb
  have h1 := (subB_iff (or_lt (hp.ls r hr) (hp.li r hr)) hp.active).1 h1
  have h2 := (subB_iff (hp.acts r hr) hp.live).1 h2
  exact ⟨fun j hj hb => h1 j hj (by rw [Nat.testBit_or, hb]; rfl), fun j hj hb => h1 j hj (by rw [Nat.testBit_or, hb, Bool.or_true]), h2, h3⟩
theorem role_dead {p : Pol} (hf : fineP p = true) {r : Nat} (hr : r < 16) (h : p.live.testBit r = false) : p.ls r = 0 ∧ p.li r = 0 ∧ p.acts r = 0 := by
  have hb := fine_role hf hr
  unfold roleB at hb
  rw [if_neg (by rw [h]; decide)] at hb
  simp only [Bool.and_eq_true, decide_eq_true_eq] at hb
  exact hb
theorem own_16 {p : Pol} (hf : fineP p = true) {t : Nat} (ht : t < 16) : p.own t = 16 ∨ (p.own t < 16 ∧ p.live.testBit (p.own t) = true ∧ p.active.testBit t = true) := by
  have hb := fine_own hf ht
  unfold ownB at hb
  rw [Bool.or_eq_true, decide_eq_true_eq, Bool.and_eq_true] at hb
  rcases hb with h | ⟨h1, h2⟩
  · exact .inl h
  · have hlt := has_lt h1
    rw [hasN_nat hlt] at h1
    exact .inr ⟨hlt, h1, h2⟩
theorem and_sub {a b : Nat} (ha : a < 65536) (h : ∀ j, j < 16 → a.testBit j = true → b.testBit j = true) : a &&& b = a := by
  refine set_ext (and_lt ha) ha fun j hj => ?_
  rw [Nat.testBit_and]
  cases hb : a.testBit j with
  | false => rfl
  | true => rw [h j hj hb]; rfl
theorem pow_bit {r j : Nat} : (2 ^ r).testBit j = decide (r = j) := Nat.testBit_two_pow
theorem less_live {p : Pol} {r j : Nat} (hj : j < 16) : (lessN p.live (2 ^ r)).testBit j = (p.live.testBit j && !decide (r = j)) := by rw [less_bit hj, pow_bit]
theorem diff_zero {b : Nat} (hb : b < 65536) : diffN 0 b = 0 := set_ext diffN_lt (by decide) fun j hj => by rw [diffN_bit (by decide) hb hj, Nat.zero_testBit]; rfl
theorem drop_mend {p : Pol} (hp : p.Ok) (hf : fineP p = true) {r : Nat} (hr : r < 16) : (mendP (setLive p (lessN p.live (2 ^ r)))).row = (dropP p r).row := by
  have hpw := pow16 (t := r) (by omega)
  have hll : lessN p.live (2 ^ r) = diffN p.live (2 ^ r) := set_ext less_lt diffN_lt fun j hj => by rw [less_bit hj, diffN_bit hp.live (by omega) hj]
  refine Pol.row_ext hll (fun j hj => ?_) (fun j hj => ?_) (fun j hj => ?_) (fun t ht => ?_) rfl
  · show (if (lessN p.live (2 ^ r)).testBit j then p.ls j &&& p.active else 0) = updF p.ls r 0 j
    rw [less_live hj]
    by_cases e : r = j
    · subst e; rw [upd_at, decide_eq_true rfl, Bool.not_true, Bool.and_false]; rfl
    · rw [upd_ne _ (fun h => e h.symm), decide_eq_false e, Bool.not_false, Bool.and_true]
      cases hl : p.live.testBit j with
      | false => rw [if_neg (by decide), (role_dead hf hj hl).1]
      | true => rw [if_pos rfl]; exact and_sub (hp.ls j hj) (role_live hp hf hj hl).1
  · show (if (lessN p.live (2 ^ r)).testBit j then p.li j &&& p.active else 0) = updF p.li r 0 j
    rw [less_live hj]
    by_cases e : r = j
    · subst e; rw [upd_at, decide_eq_true rfl, Bool.not_true, Bool.and_false]; rfl
    · rw [upd_ne _ (fun h => e h.symm), decide_eq_false e, Bool.not_false, Bool.and_true]
      cases hl : p.live.testBit j with
      | false => rw [if_neg (by decide), (role_dead hf hj hl).2.1]
      | true => rw [if_pos rfl]; exact and_sub (hp.li j hj) (role_live hp hf hj hl).2.1
  · show (if (lessN p.live (2 ^ r)).testBit j then lessN (p.acts j &&& lessN p.live (2 ^ r)) (2 ^ j) else 0) = diffN (updF p.acts r 0 j) (2 ^ r)
    rw [less_live hj]
    by_cases e : r = j
    · subst e; rw [upd_at, decide_eq_true rfl, Bool.not_true, Bool.and_false, diff_zero (by omega)]; rfl
    · rw [upd_ne _ (fun h => e h.symm), decide_eq_false e, Bool.not_false, Bool.and_true]
      cases hl : p.live.testBit j with
      | false => rw [if_neg (by decide), (role_dead hf hj hl).2.2, diff_zero (by omega)]
      | true =>
        obtain ⟨-, -, h3, h4⟩ := role_live hp hf hj hl
        rw [if_pos rfl]
        refine set_ext less_lt diffN_lt fun x hx => ?_
        rw [less_bit hx, Nat.testBit_and, less_live hx, diffN_bit (hp.acts j hj) (by omega) hx, pow_bit, pow_bit]
        cases ha : (p.acts j).testBit x with
        | false => rfl
        | true =>
          rw [h3 x hx ha]
          have : ¬ j = x := fun h => by subst h; rw [h4] at ha; cases ha
          rw [decide_eq_false this]; simp
  · show (if hasN (lessN p.live (2 ^ r)) (p.own t) && p.active.testBit t then p.own t else 16) = if p.own t = r then 16 else p.own t
    rcases own_16 hf ht with h | ⟨h1, h2, h3⟩
    · rw [h, has16, Bool.false_and]; simp
    · rw [hasN_nat h1, less_live h1, h2, h3, Bool.true_and, Bool.and_true]
      by_cases e : p.own t = r
      · rw [if_pos e, decide_eq_true e.symm]; rfl
      · rw [if_neg e, decide_eq_false (fun h => e h.symm)]; rfl
end Go.Ab.S

namespace Go.Ab.S
open Go Go.Ab Go.Proofs
attribute [local irreducible] SemS
set_option maxRecDepth 100000
theorem setLive_ok {p : Pol} (hp : p.Ok) {n : Nat} (hn : n < 65536) : (setLive p n).Ok := ⟨hn, hp.ls, hp.li, hp.acts, hp.own, hp.active⟩
theorem R13_drop_ok (p : Pol) (hp : p.Ok) (r : Nat) (hr : r < 16) : EvP PR G f_R13_drop [p.v, iv r] (mendP (setLive p (lessN p.live (2 ^ r)))).v := by
  have hpw := pow16 (t := r) (by omega)
  have c1 := R01_With_ok 0 r (by omega)
  rw [withN_nat hr, Nat.zero_or] at c1
  have c2 : EvP PR G f_R01_Less [uv p.live, uv ((2 ^ r : Nat) : Int)] (uv ((lessN p.live (2 ^ r) : Nat) : Int)) := R01_Less_ok _ _ hp.live (by omega)
  have c3 := R12_Mend_ok (setLive p (lessN p.live (2 ^ r))) (setLive_ok hp less_lt)
  generalize hm' : mendP (setLive p (lessN p.live (2 ^ r))) = q at *
  refine EvP.of_wpf false hm c_R13_drop rfl ?_
  refine wpf_seq1 ?_
  conv => whnf
  repeat' ((first | refine brP_t (by assumption) ?_ | refine brP_f (by assumption) ?_ | refine brP_t (decide_eq_true (by omega)) ?_ | refine brP_f (decide_eq_false (by omega)) ?_ | refine brP_t (nd_t (by omega)) ?_ | refine brP_f (nd_f (by omega)) ?_ | refine wpfS_seq1 ?_ | refine wpfS_go ?_ | fail) <;> conv => whnf)
  (first | refine callK_p c1 ?_ | refine callM_p c1 rfl ?_ | refine callK_pf rfl c1 ?_ | refine callK_pk rfl c1 ?_)
  conv => whnf
  repeat' ((first | refine brP_t (by assumption) ?_ | refine brP_f (by assumption) ?_ | refine brP_t (decide_eq_true (by omega)) ?_ | refine brP_f (decide_eq_false (by omega)) ?_ | refine brP_t (nd_t (by omega)) ?_ | refine brP_f (nd_f (by omega)) ?_ | refine wpfS_seq1 ?_ | refine wpfS_go ?_ | fail) <;> conv => whnf)
  (first | refine callK_p c2 ?_ | refine callM_p c2 rfl ?_ | refine callK_pf rfl c2 ?_ | refine callK_pk rfl c2 ?_)
  conv => whnf
  repeat' ((first | refine brP_t (by assumption) ?_ | refine brP_f (by assumption) ?_ | refine brP_t (decide_eq_true (by omega)) ?_ | refine brP_f (decide_eq_false (by omega)) ?_ | refine brP_t (nd_t (by omega)) ?_ | refine brP_f (nd_f (by omega)) ?_ | refine wpfS_seq1 ?_ | refine wpfS_go ?_ | fail) <;> conv => whnf)
  (first | refine callK_p c3 ?_ | refine callM_p c3 rfl ?_ | refine callK_pf rfl c3 ?_ | refine callK_pk rfl c3 ?_)
  conv => whnf
  repeat' ((first | refine brP_t (by assumption) ?_ | refine brP_f (by assumption) ?_ | refine brP_t (decide_eq_true (by omega)) ?_ | refine brP_f (decide_eq_false (by omega)) ?_ | refine brP_t (nd_t (by omega)) ?_ | refine brP_f (nd_f (by omega)) ?_ | refine wpfS_seq1 ?_ | refine wpfS_go ?_ | fail) <;> conv => whnf)
  rfl
/-- What a change of a tag does. -/
def tagQ (p : Pol) (c : Chg) : Pol × Int :=
  if hasN p.active c.a then
    (if c.k = 5 then (if decide (c.b < 16) && !hasN p.live c.b then (zeroP, 6) else (setOwn p c.a.toNat c.b.toNat, 0))
     else if hasN p.active c.b then (if mayB id c.a c.b then (mapP (moveN id c.a c.b) p, 0) else (zeroP, 1)) else (zeroP, 6))
  else (zeroP, 6)
set_option maxHeartbeats 4000000 in
theorem R13_tag_ok (p : Pol) (hp : p.Ok) (hc : Clean p) (c : Chg) (hk : c.k = 5 ∨ c.k = 6) (ha : 0 ≤ c.a ∧ c.a ≤ 15) (hb : 0 ≤ c.b ∧ c.b ≤ 16) : EvP PR G f_R13_tag [p.v, .agg c.row] (resQ (tagQ p c)) := by
  obtain ⟨k, a, b, s, i0⟩ := c
  dsimp only at hk ha hb
  obtain ⟨r, rfl⟩ := Int.eq_ofNat_of_zero_le ha.1
  obtain ⟨q, rfl⟩ := Int.eq_ofNat_of_zero_le hb.1
  have hr : r < 16 := by omega
  rw [chgrow]
  unfold tagQ
  dsimp only
  rw [Int.toNat_natCast, Int.toNat_natCast]
  have c1 := R01_Has_ok p.active r hp.active
  have c2 := R01_Has_ok p.active q hp.active
  have c3 := R01_Has_ok p.live q hp.live
  have c4 := R04_Same_ok
  have c5 := R04_Move_ok id id_okC r q
  have c6 := R12_Mapped_ok (moveN id r q) (moveN_le id_okC (by omega)) p hp hc
  have hw : IntKind.u8.wrap (q : Int) = (q : Int) := wrap8 (by omega)
  refine EvP.of_wpf false hm c_R13_tag rfl ?_
  refine wpf_seq1 ?_
  conv => whnf
  cases h1 : hasN p.active r with
  | false =>
    rw [h1] at c1
    repeat' ((first | refine brP_t (by assumption) ?_ | refine brP_f (by assumption) ?_ | refine brP_t (decide_eq_true (by omega)) ?_ | refine brP_f (decide_eq_false (by omega)) ?_ | refine brP_t (nd_t (by omega)) ?_ | refine brP_f (nd_f (by omega)) ?_ | refine wpfS_seq1 ?_ | refine wpfS_go ?_ | fail) <;> conv => whnf)
    (first | refine callK_p c1 ?_ | refine callM_p c1 rfl ?_ | refine callK_pf rfl c1 ?_ | refine callK_pk rfl c1 ?_)
    conv => whnf
    repeat' ((first | refine brP_t (by assumption) ?_ | refine brP_f (by assumption) ?_ | refine brP_t (decide_eq_true (by omega)) ?_ | refine brP_f (decide_eq_false (by omega)) ?_ | refine brP_t (nd_t (by omega)) ?_ | refine brP_f (nd_f (by omega)) ?_ | refine wpfS_seq1 ?_ | refine wpfS_go ?_ | fail) <;> conv => whnf)
    rfl
  | true =>
    rw [h1] at c1
    rw [if_pos rfl]
    rcases hk with rfl | rfl
    · rw [if_pos rfl]
      by_cases hq : (q : Int) < 16
      · rw [decide_eq_true hq, Bool.true_and]
        cases h3 : hasN p.live q with
        | false =>
          rw [h3] at c3
          repeat' ((first | refine brP_t (by assumption) ?_ | refine brP_f (by assumption) ?_ | refine brP_t (decide_eq_true (by omega)) ?_ | refine brP_f (decide_eq_false (by omega)) ?_ | refine brP_t (nd_t (by omega)) ?_ | refine brP_f (nd_f (by omega)) ?_ | refine wpfS_seq1 ?_ | refine wpfS_go ?_ | fail) <;> conv => whnf)
          (first | refine callK_p c1 ?_ | refine callM_p c1 rfl ?_ | refine callK_pf rfl c1 ?_ | refine callK_pk rfl c1 ?_)
          conv => whnf
          repeat' ((first | refine brP_t (by assumption) ?_ | refine brP_f (by assumption) ?_ | refine brP_t (decide_eq_true (by omega)) ?_ | refine brP_f (decide_eq_false (by omega)) ?_ | refine brP_t (nd_t (by omega)) ?_ | refine brP_f (nd_f (by omega)) ?_ | refine wpfS_seq1 ?_ | refine wpfS_go ?_ | fail) <;> conv => whnf)
          (first | refine callK_p c3 ?_ | refine callM_p c3 rfl ?_ | refine callK_pf rfl c3 ?_ | refine callK_pk rfl c3 ?_)
          conv => whnf
          repeat' ((first | refine brP_t (by assumption) ?_ | refine brP_f (by assumption) ?_ | refine brP_t (decide_eq_true (by omega)) ?_ | refine brP_f (decide_eq_false (by omega)) ?_ | refine brP_t (nd_t (by omega)) ?_ | refine brP_f (nd_f (by omega)) ?_ | refine wpfS_seq1 ?_ | refine wpfS_go ?_ | fail) <;> conv => whnf)
          rfl
        | true =>
          rw [h3] at c3
          repeat' ((first | refine brP_t (by assumption) ?_ | refine brP_f (by assumption) ?_ | refine brP_t (decide_eq_true (by omega)) ?_ | refine brP_f (decide_eq_false (by omega)) ?_ | refine brP_t (nd_t (by omega)) ?_ | refine brP_f (nd_f (by omega)) ?_ | (refine gd_mk ?_ ?_; (focus (first | exact decide_eq_true (by rw [pol_len]; omega) | exact decide_eq_true (And.intro rfl (by rw [pol_len]; simp only [List.length_cons, List.length_nil]; omega)) | exact decide_eq_true (And.intro rfl (by rw [pol_len]; omega)) | exact decide_eq_true (by rw [pol_len]; simp only [List.length_cons, List.length_nil]; omega) | exact decide_eq_true (by show _ ≤ 16; omega) | exact decide_eq_true (And.intro rfl (by show _ ≤ 16; omega)) | exact decide_eq_true (And.intro rfl (by show _ ≤ 16; simp only [List.length_cons, List.length_nil]; omega)))); rw [Int.toNat_natCast, put_own _ hr]) | ((rw [hw])) | refine wpfS_seq1 ?_ | refine wpfS_go ?_ | fail) <;> conv => whnf)
          (first | refine callK_p c1 ?_ | refine callM_p c1 rfl ?_ | refine callK_pf rfl c1 ?_ | refine callK_pk rfl c1 ?_)
          conv => whnf
          repeat' ((first | refine brP_t (by assumption) ?_ | refine brP_f (by assumption) ?_ | refine brP_t (decide_eq_true (by omega)) ?_ | refine brP_f (decide_eq_false (by omega)) ?_ | refine brP_t (nd_t (by omega)) ?_ | refine brP_f (nd_f (by omega)) ?_ | (refine gd_mk ?_ ?_; (focus (first | exact decide_eq_true (by rw [pol_len]; omega) | exact decide_eq_true (And.intro rfl (by rw [pol_len]; simp only [List.length_cons, List.length_nil]; omega)) | exact decide_eq_true (And.intro rfl (by rw [pol_len]; omega)) | exact decide_eq_true (by rw [pol_len]; simp only [List.length_cons, List.length_nil]; omega) | exact decide_eq_true (by show _ ≤ 16; omega) | exact decide_eq_true (And.intro rfl (by show _ ≤ 16; omega)) | exact decide_eq_true (And.intro rfl (by show _ ≤ 16; simp only [List.length_cons, List.length_nil]; omega)))); rw [Int.toNat_natCast, put_own _ hr]) | ((rw [hw])) | refine wpfS_seq1 ?_ | refine wpfS_go ?_ | fail) <;> conv => whnf)
          (first | refine callK_p c3 ?_ | refine callM_p c3 rfl ?_ | refine callK_pf rfl c3 ?_ | refine callK_pk rfl c3 ?_)
          conv => whnf
          repeat' ((first | refine brP_t (by assumption) ?_ | refine brP_f (by assumption) ?_ | refine brP_t (decide_eq_true (by omega)) ?_ | refine brP_f (decide_eq_false (by omega)) ?_ | refine brP_t (nd_t (by omega)) ?_ | refine brP_f (nd_f (by omega)) ?_ | (refine gd_mk ?_ ?_; (focus (first | exact decide_eq_true (by rw [pol_len]; omega) | exact decide_eq_true (And.intro rfl (by rw [pol_len]; simp only [List.length_cons, List.length_nil]; omega)) | exact decide_eq_true (And.intro rfl (by rw [pol_len]; omega)) | exact decide_eq_true (by rw [pol_len]; simp only [List.length_cons, List.length_nil]; omega) | exact decide_eq_true (by show _ ≤ 16; omega) | exact decide_eq_true (And.intro rfl (by show _ ≤ 16; omega)) | exact decide_eq_true (And.intro rfl (by show _ ≤ 16; simp only [List.length_cons, List.length_nil]; omega)))); rw [Int.toNat_natCast, put_own _ hr]) | ((rw [hw])) | refine wpfS_seq1 ?_ | refine wpfS_go ?_ | fail) <;> conv => whnf)
          rfl
      · rw [decide_eq_false hq, Bool.false_and]
        repeat' ((first | refine brP_t (by assumption) ?_ | refine brP_f (by assumption) ?_ | refine brP_t (decide_eq_true (by omega)) ?_ | refine brP_f (decide_eq_false (by omega)) ?_ | refine brP_t (nd_t (by omega)) ?_ | refine brP_f (nd_f (by omega)) ?_ | (refine gd_mk ?_ ?_; (focus (first | exact decide_eq_true (by rw [pol_len]; omega) | exact decide_eq_true (And.intro rfl (by rw [pol_len]; simp only [List.length_cons, List.length_nil]; omega)) | exact decide_eq_true (And.intro rfl (by rw [pol_len]; omega)) | exact decide_eq_true (by rw [pol_len]; simp only [List.length_cons, List.length_nil]; omega) | exact decide_eq_true (by show _ ≤ 16; omega) | exact decide_eq_true (And.intro rfl (by show _ ≤ 16; omega)) | exact decide_eq_true (And.intro rfl (by show _ ≤ 16; simp only [List.length_cons, List.length_nil]; omega)))); rw [Int.toNat_natCast, put_own _ hr]) | ((rw [hw])) | refine wpfS_seq1 ?_ | refine wpfS_go ?_ | fail) <;> conv => whnf)
        (first | refine callK_p c1 ?_ | refine callM_p c1 rfl ?_ | refine callK_pf rfl c1 ?_ | refine callK_pk rfl c1 ?_)
        conv => whnf
        repeat' ((first | refine brP_t (by assumption) ?_ | refine brP_f (by assumption) ?_ | refine brP_t (decide_eq_true (by omega)) ?_ | refine brP_f (decide_eq_false (by omega)) ?_ | refine brP_t (nd_t (by omega)) ?_ | refine brP_f (nd_f (by omega)) ?_ | (refine gd_mk ?_ ?_; (focus (first | exact decide_eq_true (by rw [pol_len]; omega) | exact decide_eq_true (And.intro rfl (by rw [pol_len]; simp only [List.length_cons, List.length_nil]; omega)) | exact decide_eq_true (And.intro rfl (by rw [pol_len]; omega)) | exact decide_eq_true (by rw [pol_len]; simp only [List.length_cons, List.length_nil]; omega) | exact decide_eq_true (by show _ ≤ 16; omega) | exact decide_eq_true (And.intro rfl (by show _ ≤ 16; omega)) | exact decide_eq_true (And.intro rfl (by show _ ≤ 16; simp only [List.length_cons, List.length_nil]; omega)))); rw [Int.toNat_natCast, put_own _ hr]) | ((rw [hw])) | refine wpfS_seq1 ?_ | refine wpfS_go ?_ | fail) <;> conv => whnf)
        rfl
    · rw [if_neg (by decide)]
      cases h2 : hasN p.active q with
      | false =>
        rw [h2] at c2
        repeat' ((first | refine brP_t (by assumption) ?_ | refine brP_f (by assumption) ?_ | refine brP_t (decide_eq_true (by omega)) ?_ | refine brP_f (decide_eq_false (by omega)) ?_ | refine brP_t (nd_t (by omega)) ?_ | refine brP_f (nd_f (by omega)) ?_ | refine wpfS_seq1 ?_ | refine wpfS_go ?_ | fail) <;> conv => whnf)
        (first | refine callK_p c1 ?_ | refine callM_p c1 rfl ?_ | refine callK_pf rfl c1 ?_ | refine callK_pk rfl c1 ?_)
        conv => whnf
        repeat' ((first | refine brP_t (by assumption) ?_ | refine brP_f (by assumption) ?_ | refine brP_t (decide_eq_true (by omega)) ?_ | refine brP_f (decide_eq_false (by omega)) ?_ | refine brP_t (nd_t (by omega)) ?_ | refine brP_f (nd_f (by omega)) ?_ | refine wpfS_seq1 ?_ | refine wpfS_go ?_ | fail) <;> conv => whnf)
        (first | refine callK_p c2 ?_ | refine callM_p c2 rfl ?_ | refine callK_pf rfl c2 ?_ | refine callK_pk rfl c2 ?_)
        conv => whnf
        repeat' ((first | refine brP_t (by assumption) ?_ | refine brP_f (by assumption) ?_ | refine brP_t (decide_eq_true (by omega)) ?_ | refine brP_f (decide_eq_false (by omega)) ?_ | refine brP_t (nd_t (by omega)) ?_ | refine brP_f (nd_f (by omega)) ?_ | refine wpfS_seq1 ?_ | refine wpfS_go ?_ | fail) <;> conv => whnf)
        rfl
      | true =>
        rw [h2] at c2
        rw [if_pos rfl]
        cases h5 : mayB id r q with
        | false =>
          rw [h5, if_neg (by decide)] at c5
          repeat' ((first | refine brP_t (by assumption) ?_ | refine brP_f (by assumption) ?_ | refine brP_t (decide_eq_true (by omega)) ?_ | refine brP_f (decide_eq_false (by omega)) ?_ | refine brP_t (nd_t (by omega)) ?_ | refine brP_f (nd_f (by omega)) ?_ | refine wpfS_seq1 ?_ | refine wpfS_go ?_ | fail) <;> conv => whnf)
          (first | refine callK_p c1 ?_ | refine callM_p c1 rfl ?_ | refine callK_pf rfl c1 ?_ | refine callK_pk rfl c1 ?_)
          conv => whnf
          repeat' ((first | refine brP_t (by assumption) ?_ | refine brP_f (by assumption) ?_ | refine brP_t (decide_eq_true (by omega)) ?_ | refine brP_f (decide_eq_false (by omega)) ?_ | refine brP_t (nd_t (by omega)) ?_ | refine brP_f (nd_f (by omega)) ?_ | refine wpfS_seq1 ?_ | refine wpfS_go ?_ | fail) <;> conv => whnf)
          (first | refine callK_p c2 ?_ | refine callM_p c2 rfl ?_ | refine callK_pf rfl c2 ?_ | refine callK_pk rfl c2 ?_)
          conv => whnf
          repeat' ((first | refine brP_t (by assumption) ?_ | refine brP_f (by assumption) ?_ | refine brP_t (decide_eq_true (by omega)) ?_ | refine brP_f (decide_eq_false (by omega)) ?_ | refine brP_t (nd_t (by omega)) ?_ | refine brP_f (nd_f (by omega)) ?_ | refine wpfS_seq1 ?_ | refine wpfS_go ?_ | fail) <;> conv => whnf)
          (first | refine callK_p c4 ?_ | refine callM_p c4 rfl ?_ | refine callK_pf rfl c4 ?_ | refine callK_pk rfl c4 ?_)
          conv => whnf
          repeat' ((first | refine brP_t (by assumption) ?_ | refine brP_f (by assumption) ?_ | refine brP_t (decide_eq_true (by omega)) ?_ | refine brP_f (decide_eq_false (by omega)) ?_ | refine brP_t (nd_t (by omega)) ?_ | refine brP_f (nd_f (by omega)) ?_ | refine wpfS_seq1 ?_ | refine wpfS_go ?_ | fail) <;> conv => whnf)
          (first | refine callK_p c5 ?_ | refine callM_p c5 rfl ?_ | refine callK_pf rfl c5 ?_ | refine callK_pk rfl c5 ?_)
          conv => whnf
          repeat' ((first | refine brP_t (by assumption) ?_ | refine brP_f (by assumption) ?_ | refine brP_t (decide_eq_true (by omega)) ?_ | refine brP_f (decide_eq_false (by omega)) ?_ | refine brP_t (nd_t (by omega)) ?_ | refine brP_f (nd_f (by omega)) ?_ | refine wpfS_seq1 ?_ | refine wpfS_go ?_ | fail) <;> conv => whnf)
          rfl
        | true =>
          rw [h5, if_pos rfl] at c5
          generalize moveN id r q = M at *
          repeat' ((first | refine brP_t (by assumption) ?_ | refine brP_f (by assumption) ?_ | refine brP_t (decide_eq_true (by omega)) ?_ | refine brP_f (decide_eq_false (by omega)) ?_ | refine brP_t (nd_t (by omega)) ?_ | refine brP_f (nd_f (by omega)) ?_ | refine wpfS_seq1 ?_ | refine wpfS_go ?_ | fail) <;> conv => whnf)
          (first | refine callK_p c1 ?_ | refine callM_p c1 rfl ?_ | refine callK_pf rfl c1 ?_ | refine callK_pk rfl c1 ?_)
          conv => whnf
          repeat' ((first | refine brP_t (by assumption) ?_ | refine brP_f (by assumption) ?_ | refine brP_t (decide_eq_true (by omega)) ?_ | refine brP_f (decide_eq_false (by omega)) ?_ | refine brP_t (nd_t (by omega)) ?_ | refine brP_f (nd_f (by omega)) ?_ | refine wpfS_seq1 ?_ | refine wpfS_go ?_ | fail) <;> conv => whnf)
          (first | refine callK_p c2 ?_ | refine callM_p c2 rfl ?_ | refine callK_pf rfl c2 ?_ | refine callK_pk rfl c2 ?_)
          conv => whnf
          repeat' ((first | refine brP_t (by assumption) ?_ | refine brP_f (by assumption) ?_ | refine brP_t (decide_eq_true (by omega)) ?_ | refine brP_f (decide_eq_false (by omega)) ?_ | refine brP_t (nd_t (by omega)) ?_ | refine brP_f (nd_f (by omega)) ?_ | refine wpfS_seq1 ?_ | refine wpfS_go ?_ | fail) <;> conv => whnf)
          (first | refine callK_p c4 ?_ | refine callM_p c4 rfl ?_ | refine callK_pf rfl c4 ?_ | refine callK_pk rfl c4 ?_)
          conv => whnf
          repeat' ((first | refine brP_t (by assumption) ?_ | refine brP_f (by assumption) ?_ | refine brP_t (decide_eq_true (by omega)) ?_ | refine brP_f (decide_eq_false (by omega)) ?_ | refine brP_t (nd_t (by omega)) ?_ | refine brP_f (nd_f (by omega)) ?_ | refine wpfS_seq1 ?_ | refine wpfS_go ?_ | fail) <;> conv => whnf)
          (first | refine callK_p c5 ?_ | refine callM_p c5 rfl ?_ | refine callK_pf rfl c5 ?_ | refine callK_pk rfl c5 ?_)
          conv => whnf
          repeat' ((first | refine brP_t (by assumption) ?_ | refine brP_f (by assumption) ?_ | refine brP_t (decide_eq_true (by omega)) ?_ | refine brP_f (decide_eq_false (by omega)) ?_ | refine brP_t (nd_t (by omega)) ?_ | refine brP_f (nd_f (by omega)) ?_ | refine wpfS_seq1 ?_ | refine wpfS_go ?_ | fail) <;> conv => whnf)
          (first | refine callK_p c6 ?_ | refine callM_p c6 rfl ?_ | refine callK_pf rfl c6 ?_ | refine callK_pk rfl c6 ?_)
          conv => whnf
          repeat' ((first | refine brP_t (by assumption) ?_ | refine brP_f (by assumption) ?_ | refine brP_t (decide_eq_true (by omega)) ?_ | refine brP_f (decide_eq_false (by omega)) ?_ | refine brP_t (nd_t (by omega)) ?_ | refine brP_f (nd_f (by omega)) ?_ | refine wpfS_seq1 ?_ | refine wpfS_go ?_ | fail) <;> conv => whnf)
          rfl
end Go.Ab.S
