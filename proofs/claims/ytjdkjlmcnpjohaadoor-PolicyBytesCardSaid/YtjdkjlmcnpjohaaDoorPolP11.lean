/- Part of a proof; no condition. -/
import Derived.Test.YtjdkjlmcnpjohaaDoorPolP10
set_option linter.unusedSimpArgs false
set_option linter.unusedVariables false
namespace Go.Ab.S
open Go Go.Ab Go.Proofs
attribute [local irreducible] SemS
set_option maxRecDepth 100000
/-! ### A policy without some roles -/
theorem actsR_ext {f g : Nat → Nat} (h4 : ∀ r, r < 16 → f r = g r) : actsR f = actsR g := by
  simp only [actsR]
  rw [h4 0 (by omega), h4 1 (by omega), h4 2 (by omega), h4 3 (by omega), h4 4 (by omega), h4 5 (by omega), h4 6 (by omega), h4 7 (by omega), h4 8 (by omega), h4 9 (by omega), h4 10 (by omega), h4 11 (by omega), h4 12 (by omega), h4 13 (by omega), h4 14 (by omega), h4 15 (by omega)]
def cutA (W : Nat) (g : Nat → Nat) (a : Nat) : Nat := setOf (succB W g a) 16
def cutAt (W : Nat) (g : Nat → Nat) (i b a : Nat) : Nat := if a < i then cutA W g a else if a = i then setOf (succB W g a) b else 0
theorem cutAt_same (W : Nat) (g : Nat → Nat) (i b : Nat) : cutAt W g i b i = setOf (succB W g i) b := by unfold cutAt; rw [if_neg (by omega), if_pos rfl]
theorem cutAt_up (W : Nat) (g : Nat → Nat) (i b v : Nat) (hv : v = setOf (succB W g i) (b + 1)) : actsR (updF (cutAt W g i b) i v) = actsR (cutAt W g i (b + 1)) := by
  refine actsR_ext fun r _ => ?_
  by_cases e : r = i
  · subst e; rw [upd_at, cutAt_same, hv]
  · rw [upd_ne _ e]; unfold cutAt; rw [if_neg e, if_neg e]
theorem cutAt_eq (W : Nat) (g : Nat → Nat) (i b : Nat) (hv : setOf (succB W g i) b = setOf (succB W g i) (b + 1)) : actsR (cutAt W g i b) = actsR (cutAt W g i (b + 1)) := by
  refine actsR_ext fun r _ => ?_
  by_cases e : r = i
  · subst e; rw [cutAt_same, cutAt_same, hv]
  · unfold cutAt; rw [if_neg e, if_neg e]
theorem cutAt_row (W : Nat) (g : Nat → Nat) (i : Nat) : actsR (cutAt W g i 16) = actsR (cutAt W g (i + 1) 0) := by
  refine actsR_ext fun r _ => ?_
  unfold cutAt
  by_cases e : r < i
  · rw [if_pos e, if_pos (by omega)]
  · rw [if_neg e]
    by_cases e2 : r = i
    · subst e2; rw [if_pos rfl, if_pos (by omega)]; rfl
    · rw [if_neg e2, if_neg (by omega)]; split <;> rfl
theorem R11_Cut_ok (g : Nat → Nat) (hg : ∀ r, r < 16 → g r < 65536) (W : Nat) (hW : W < 65536) : EvP PR G f_R11_Cut [actsV g, uv W] (actsV (cutA W g)) := by
  refine EvP.of_wpf false hm c_R11_Cut rfl ?_
  refine wpf_seq1 ?_
  conv => whnf
  repeat' ((first | refine brP_t (by assumption) ?_ | refine brP_f (by assumption) ?_ | refine brP_t (decide_eq_true (by omega)) ?_ | refine brP_f (decide_eq_false (by omega)) ?_ | refine brP_t (nd_t (by omega)) ?_ | refine brP_f (nd_f (by omega)) ?_ | refine wpfS_seq1 ?_ | refine wpfS_go ?_ | fail) <;> conv => whnf)
  refine SemS.loopF false hm (σ := Nat) (fun i => [(1, uv W), (2, .c (.ptr (.loc 0) 0)), (4, .c (.ptr (.loc 1) 0)), (5, .c (.ptr (.loc 2) 0)), (6, iv i)]) (fun i => ⟨[], [.row (actsR g), .row (actsR zeroM), .row (actsR (cutAt W g i 0))]⟩) (fun i => 16 - i) (fun i => i ≤ 16) 0 (Nat.zero_le _) ⟨rfl, rfl, rfl, rfl, rfl, trivial⟩ ?_ ?_
  · show (⟨[], [.row (actsR g), .row (actsR zeroM), .row (actsR zeroM)]⟩ : Hp) = _
    rw [actsR_ext (f := cutAt W g 0 0) (g := zeroM) fun r _ => ?_]
    unfold cutAt
    rw [if_neg (by omega)]; split <;> rfl
  intro i hi
  refine wpf_seq1 ?_
  conv => whnf
  try (refine wpfS_seq1 ?_; conv => whnf)
  refine brP_mk (fun h => ?_) (fun h => ?_)
  · have hi' : i < 16 := by have := of_decide_eq_true h; omega
    clear h
    have hw2 : IntKind.i64.wrap ((i : Int) + 1) = ((i + 1 : Nat) : Int) := by rw [wrap64 (by omega)]; rfl
    repeat' ((first | refine brP_t (by assumption) ?_ | refine brP_f (by assumption) ?_ | refine brP_t (decide_eq_true (by omega)) ?_ | refine brP_f (decide_eq_false (by omega)) ?_ | refine brP_t (nd_t (by omega)) ?_ | refine brP_f (nd_f (by omega)) ?_ | refine wpfS_seq1 ?_ | refine wpfS_go ?_ | fail) <;> conv => whnf)
    refine SemS.loopF false hm (σ := Nat) (fun b => [(1, uv W), (2, .c (.ptr (.loc 0) 0)), (4, .c (.ptr (.loc 1) 0)), (5, .c (.ptr (.loc 2) 0)), (6, iv i), (7, iv b)]) (fun b => ⟨[], [.row (actsR g), .row (actsR zeroM), .row (actsR (cutAt W g i b))]⟩) (fun b => 16 - b) (fun b => b ≤ 16) 0 (Nat.zero_le _) ⟨rfl, rfl, rfl, rfl, rfl, rfl, trivial⟩ rfl ?_
    intro b hb
    have hso := setOf_lt (succB W g i) hb
    have hup := cutAt_up W g i b
    have heq := cutAt_eq W g i b
    have hst := setOf_step (succB W g i) b
    have hsm := cutAt_same W g i b
    generalize hfe : cutAt W g i b = f at *
    generalize setOf (succB W g i) b = o at *
    refine wpf_seq1 ?_
    conv => whnf
    try (refine wpfS_seq1 ?_; conv => whnf)
    refine brP_mk (fun h => ?_) (fun h => ?_)
    · have hb' : b < 16 := by have := of_decide_eq_true h; omega
      clear h
      have hwb : IntKind.i64.wrap ((b : Int) + 1) = ((b + 1 : Nat) : Int) := by rw [wrap64 (by omega)]; rfl
      have e2 := R11_at_ok g hg W hW i b hi' hb'
      have e3 := R01_With_ok (f i) b (by rw [hsm]; exact hso)
      rw [withN_nat hb'] at e3
      have hget := acts_at f hi'
      have hput := acts_put f hi' (f i ||| 2 ^ b)
      cases q2 : succB W g i b with
      | false =>
        rw [q2] at e2
        rw [q2, if_neg (by simp)] at hst
        repeat' ((first | refine brP_t (by assumption) ?_ | refine brP_f (by assumption) ?_ | refine brP_t (decide_eq_true (by omega)) ?_ | refine brP_f (decide_eq_false (by omega)) ?_ | refine brP_t (nd_t (by omega)) ?_ | refine brP_f (nd_f (by omega)) ?_ | refine callK_p e2 ?_ | refine callM_p e2 rfl ?_ | refine callK_pf rfl e2 ?_ | refine wpfS_seq1 ?_ | refine wpfS_go ?_ | fail) <;> conv => whnf)
        rw [hwb]
        refine ⟨b + 1, hb', (show 16 - (b + 1) < 16 - b by omega), ⟨rfl, rfl, rfl, rfl, rfl, rfl, trivial⟩, ?_⟩
        show (⟨[], [.row (actsR g), .row (actsR zeroM), .row (actsR f)]⟩ : Hp) = _
        rw [heq hst.symm]
      | true =>
        rw [q2] at e2
        rw [q2, if_pos rfl] at hst
        repeat' ((first | (refine gd_mk ?_ ?_; (focus (first | exact decide_eq_true (by rw [pol_len]; omega) | exact decide_eq_true (And.intro rfl (by rw [pol_len]; simp only [List.length_cons, List.length_nil]; omega)) | exact decide_eq_true (And.intro rfl (by rw [pol_len]; omega)) | exact decide_eq_true (by rw [pol_len]; simp only [List.length_cons, List.length_nil]; omega) | exact decide_eq_true (by show _ ≤ 16; omega) | exact decide_eq_true (And.intro rfl (by show _ ≤ 16; omega)) | exact decide_eq_true (And.intro rfl (by show _ ≤ 16; simp only [List.length_cons, List.length_nil]; omega)))); rw [Int.toNat_natCast, hput]) | refine brP_t (by assumption) ?_ | refine brP_f (by assumption) ?_ | refine brP_t (decide_eq_true (by omega)) ?_ | refine brP_f (decide_eq_false (by omega)) ?_ | refine brP_t (nd_t (by omega)) ?_ | refine brP_f (nd_f (by omega)) ?_ | refine callK_p e2 ?_ | refine callM_p e2 rfl ?_ | refine callK_pf rfl e2 ?_ | ((conv in (opS _ _ _ _) => whnf); rw [Int.toNat_natCast, hget]) | ((conv in (opM _ _ _ _ _) => whnf); (conv in (opS _ _ _ _) => whnf); rw [Int.toNat_natCast, hget]) | refine callK_p e3 ?_ | refine callM_p e3 rfl ?_ | refine callK_pf rfl e3 ?_ | refine wpfS_seq1 ?_ | refine wpfS_go ?_ | fail) <;> conv => whnf)
        rw [hwb]
        refine ⟨b + 1, hb', (show 16 - (b + 1) < 16 - b by omega), ⟨rfl, rfl, rfl, rfl, rfl, rfl, trivial⟩, ?_⟩
        show (⟨[], [.row (actsR g), .row (actsR zeroM), .row (actsR (updF f i (f i ||| 2 ^ b)))]⟩ : Hp) = _
        rw [hup _ (by rw [hst, hsm])]
    · have hb' : b = 16 := by have := of_decide_eq_false h; omega
      subst hb'
      clear h hup heq hst
      have hrow := cutAt_row W g i
      rw [hfe] at hrow
      conv => whnf
      repeat' ((first | refine brP_t (by assumption) ?_ | refine brP_f (by assumption) ?_ | refine brP_t (decide_eq_true (by omega)) ?_ | refine brP_f (decide_eq_false (by omega)) ?_ | refine brP_t (nd_t (by omega)) ?_ | refine brP_f (nd_f (by omega)) ?_ | refine wpfS_seq1 ?_ | refine wpfS_go ?_ | fail) <;> conv => whnf)
      rw [hw2]
      refine ⟨i + 1, hi', (show 16 - (i + 1) < 16 - i by omega), ⟨rfl, rfl, rfl, rfl, rfl, trivial⟩, ?_⟩
      show (⟨[], [.row (actsR g), .row (actsR zeroM), .row (actsR f)]⟩ : Hp) = _
      rw [hrow]
  · have hi' : i = 16 := by have := of_decide_eq_false h; omega
    subst hi'
    clear h
    have : actsR (cutAt W g 16 0) = actsR (cutA W g) := actsR_ext fun r hr => by unfold cutAt; rw [if_pos hr]
    rw [this]
    generalize cutA W g = f
    conv => whnf
    repeat' ((first | refine brP_t (by assumption) ?_ | refine brP_f (by assumption) ?_ | refine brP_t (decide_eq_true (by omega)) ?_ | refine brP_f (decide_eq_false (by omega)) ?_ | refine brP_t (nd_t (by omega)) ?_ | refine brP_f (nd_f (by omega)) ?_ | refine wpfS_seq1 ?_ | refine wpfS_go ?_ | fail) <;> conv => whnf)
    rfl
/-- Roles outside the set go; their tags are nobody's. -/
def cutS (p : Pol) (S : Nat) : Pol := { p with
  live := S
  ls := fun r => if S.testBit r then p.ls r else 0
  li := fun r => if S.testBit r then p.li r else 0
  acts := cutA S p.acts
  own := fun t => if hasN S (p.own t) then p.own t else 16 }
def cutTo (p : Pol) (S i j : Nat) : Pol := { p with
  ls := fun r => if r < i then (cutS p S).ls r else p.ls r
  li := fun r => if r < i then (cutS p S).li r else p.li r
  acts := cutA S p.acts
  own := fun t => if t < j then (cutS p S).own t else p.own t }
theorem to_up {f g : Nat → Nat} {i v : Nat} (hv : v = f i) (r : Nat) : updF (fun r => if r < i then f r else g r) i v r = if r < i + 1 then f r else g r := by
  by_cases e : r = i
  · subst e; rw [upd_at, if_pos (by omega), hv]
  · rw [upd_ne _ e]
    by_cases h : r < i
    · rw [if_pos h, if_pos (by omega)]
    · rw [if_neg h, if_neg (by omega)]
theorem to_skip {f g : Nat → Nat} {i : Nat} (hv : f i = g i) (r : Nat) : (if r < i then f r else g r) = if r < i + 1 then f r else g r := by
  by_cases e : r = i
  · subst e; rw [if_neg (by omega), if_pos (by omega), hv]
  · by_cases h : r < i
    · rw [if_pos h, if_pos (by omega)]
    · rw [if_neg h, if_neg (by omega)]
theorem cutTo_lab (p : Pol) (S i : Nat) (h : S.testBit i = false) : (setLab (cutTo p S i 0) i 0 0).row = (cutTo p S (i + 1) 0).row :=
  Pol.row_ext rfl (fun r _ => to_up (f := (cutS p S).ls) (by show 0 = if _ then _ else _; rw [h]; rfl) r) (fun r _ => to_up (f := (cutS p S).li) (by show 0 = if _ then _ else _; rw [h]; rfl) r) (fun _ _ => rfl) (fun _ _ => rfl) rfl
theorem cutTo_labS (p : Pol) (S i : Nat) (h : S.testBit i = true) : (cutTo p S i 0).row = (cutTo p S (i + 1) 0).row :=
  Pol.row_ext rfl (fun r _ => to_skip (f := (cutS p S).ls) (by show (if _ then _ else _) = _; rw [h]; rfl) r) (fun r _ => to_skip (f := (cutS p S).li) (by show (if _ then _ else _) = _; rw [h]; rfl) r) (fun _ _ => rfl) (fun _ _ => rfl) rfl
theorem cutTo_own (p : Pol) (S j : Nat) (h : hasN S (p.own j) = false) : (setOwn (cutTo p S 16 j) j 16).row = (cutTo p S 16 (j + 1)).row :=
  Pol.row_ext rfl (fun _ _ => rfl) (fun _ _ => rfl) (fun _ _ => rfl) (fun r _ => to_up (f := (cutS p S).own) (by show 16 = if _ then _ else _; rw [h]; rfl) r) rfl
theorem cutTo_ownS (p : Pol) (S j : Nat) (h : hasN S (p.own j) = true) : (cutTo p S 16 j).row = (cutTo p S 16 (j + 1)).row :=
  Pol.row_ext rfl (fun _ _ => rfl) (fun _ _ => rfl) (fun _ _ => rfl) (fun r _ => to_skip (f := (cutS p S).own) (by show (if _ then _ else _) = _; rw [h]; rfl) r) rfl
theorem R12_Cut_ok (p : Pol) (hp : p.Ok) (s i : Nat) (hs : s < 65536) (hi0 : i < 65536) : EvP PR G f_R12_Cut [p.v, lab s i] (cutS p (seenN p s i)).v := by
  have c0 := R12_Seen_ok p hp s i hs hi0
  have hS : seenN p s i < 65536 := seenN_lt
  generalize seenN p s i = S at *
  have c1 := R11_Cut_ok p.acts hp.acts S hS
  refine EvP.of_wpf false hm c_R12_Cut rfl ?_
  refine wpf_seq1 ?_
  conv => whnf
  repeat' ((first | refine brP_t (by assumption) ?_ | refine brP_f (by assumption) ?_ | refine brP_t (decide_eq_true (by omega)) ?_ | refine brP_f (decide_eq_false (by omega)) ?_ | refine brP_t (nd_t (by omega)) ?_ | refine brP_f (nd_f (by omega)) ?_ | refine callK_p c0 ?_ | refine callM_p c0 rfl ?_ | refine callK_pf rfl c0 ?_ | refine callK_p c1 ?_ | refine callM_p c1 rfl ?_ | refine callK_pf rfl c1 ?_ | refine wpfS_seq1 ?_ | refine wpfS_go ?_ | fail) <;> conv => whnf)
  refine SemS.loopF false hm (σ := Nat) (fun k => [(2, .c (.ptr (.loc 0) 0)), (4, .c (.ptr (.loc 2) 0)), (5, uv S), (6, iv k)]) (fun k => ⟨[], [.row (cutTo p S k 0).row, .row [.int .u16 s, .int .u16 i], .row zeroP.row]⟩) (fun k => 16 - k) (fun k => k ≤ 16) 0 (Nat.zero_le _) ⟨rfl, rfl, rfl, rfl, trivial⟩ rfl ?_
  intro k hk
  have hu := cutTo_lab p S k
  have hsk := cutTo_labS p S k
  generalize hqe : cutTo p S k 0 = q at *
  refine wpf_seq1 ?_
  conv => whnf
  try (refine wpfS_seq1 ?_; conv => whnf)
  refine brP_mk (fun h => ?_) (fun h => ?_)
  · have hk' : k < 16 := by have := of_decide_eq_true h; omega
    clear h
    have hw2 : IntKind.i64.wrap ((k : Int) + 1) = ((k + 1 : Nat) : Int) := by rw [wrap64 (by omega)]; rfl
    have e0 := R01_Has_ok S k hS
    rw [hasN_nat hk'] at e0
    cases h1 : S.testBit k with
    | false =>
      rw [h1] at e0
      repeat' ((first | (refine gd_mk ?_ ?_; (focus (first | exact decide_eq_true (by rw [pol_len]; omega) | exact decide_eq_true (And.intro rfl (by rw [pol_len]; simp only [List.length_cons, List.length_nil]; omega)) | exact decide_eq_true (And.intro rfl (by rw [pol_len]; omega)) | exact decide_eq_true (by rw [pol_len]; simp only [List.length_cons, List.length_nil]; omega) | exact decide_eq_true (by show _ ≤ 16; omega) | exact decide_eq_true (And.intro rfl (by show _ ≤ 16; omega)) | exact decide_eq_true (And.intro rfl (by show _ ≤ 16; simp only [List.length_cons, List.length_nil]; omega)))); rw [Int.toNat_natCast, put_lab0 _ hk']) | refine brP_t (by assumption) ?_ | refine brP_f (by assumption) ?_ | refine brP_t (decide_eq_true (by omega)) ?_ | refine brP_f (decide_eq_false (by omega)) ?_ | refine brP_t (nd_t (by omega)) ?_ | refine brP_f (nd_f (by omega)) ?_ | refine callK_p e0 ?_ | refine callM_p e0 rfl ?_ | refine callK_pf rfl e0 ?_ | refine wpfS_seq1 ?_ | refine wpfS_go ?_ | fail) <;> conv => whnf)
      rw [hw2]
      refine ⟨k + 1, hk', (show 16 - (k + 1) < 16 - k by omega), ⟨rfl, rfl, rfl, rfl, trivial⟩, ?_⟩
      show (⟨[], [.row (setLab q k 0 0).row, .row [.int .u16 s, .int .u16 i], .row zeroP.row]⟩ : Hp) = _
      rw [hu h1]
    | true =>
      rw [h1] at e0
      repeat' ((first | refine brP_t (by assumption) ?_ | refine brP_f (by assumption) ?_ | refine brP_t (decide_eq_true (by omega)) ?_ | refine brP_f (decide_eq_false (by omega)) ?_ | refine brP_t (nd_t (by omega)) ?_ | refine brP_f (nd_f (by omega)) ?_ | refine callK_p e0 ?_ | refine callM_p e0 rfl ?_ | refine callK_pf rfl e0 ?_ | refine wpfS_seq1 ?_ | refine wpfS_go ?_ | fail) <;> conv => whnf)
      rw [hw2]
      refine ⟨k + 1, hk', (show 16 - (k + 1) < 16 - k by omega), ⟨rfl, rfl, rfl, rfl, trivial⟩, ?_⟩
      show (⟨[], [.row q.row, .row [.int .u16 s, .int .u16 i], .row zeroP.row]⟩ : Hp) = _
      rw [hsk h1]
  · have hk' : k = 16 := by have := of_decide_eq_false h; omega
    subst hk'
    subst hqe
    clear h hu hsk
    conv => whnf
    repeat' ((first | refine brP_t (by assumption) ?_ | refine brP_f (by assumption) ?_ | refine brP_t (decide_eq_true (by omega)) ?_ | refine brP_f (decide_eq_false (by omega)) ?_ | refine brP_t (nd_t (by omega)) ?_ | refine brP_f (nd_f (by omega)) ?_ | refine wpfS_seq1 ?_ | refine wpfS_go ?_ | fail) <;> conv => whnf)
    refine SemS.loopF false hm (σ := Nat) (fun j => [(2, .c (.ptr (.loc 0) 0)), (4, .c (.ptr (.loc 2) 0)), (5, uv S), (7, iv j)]) (fun j => ⟨[], [.row (cutTo p S 16 j).row, .row [.int .u16 s, .int .u16 i], .row zeroP.row]⟩) (fun j => 16 - j) (fun j => j ≤ 16) 0 (Nat.zero_le _) ⟨rfl, rfl, rfl, rfl, trivial⟩ rfl ?_
    intro j hj
    have hu := cutTo_own p S j
    have hsk := cutTo_ownS p S j
    have q1 : (cutTo p S 16 j).own j = p.own j := if_neg (Nat.lt_irrefl j)
    generalize hqe : cutTo p S 16 j = q at *
    refine wpf_seq1 ?_
    conv => whnf
    try (refine wpfS_seq1 ?_; conv => whnf)
    refine brP_mk (fun h => ?_) (fun h => ?_)
    · have hj' : j < 16 := by have := of_decide_eq_true h; omega
      clear h
      have hw2 : IntKind.i64.wrap ((j : Int) + 1) = ((j + 1 : Nat) : Int) := by rw [wrap64 (by omega)]; rfl
      have e0 := R01_Has_ok S (p.own j) hS
      have hget := pol_own q hj'
      rw [q1] at hget
      have hw := wrapU8 (p.own j) (hp.own j hj')
      cases h1 : hasN S (p.own j) with
      | false =>
        rw [h1] at e0
        repeat' ((first | (refine gd_mk ?_ ?_; (focus (first | exact decide_eq_true (by rw [pol_len]; omega) | exact decide_eq_true (And.intro rfl (by rw [pol_len]; simp only [List.length_cons, List.length_nil]; omega)) | exact decide_eq_true (And.intro rfl (by rw [pol_len]; omega)) | exact decide_eq_true (by rw [pol_len]; simp only [List.length_cons, List.length_nil]; omega) | exact decide_eq_true (by show _ ≤ 16; omega) | exact decide_eq_true (And.intro rfl (by show _ ≤ 16; omega)) | exact decide_eq_true (And.intro rfl (by show _ ≤ 16; simp only [List.length_cons, List.length_nil]; omega)))); rw [Int.toNat_natCast, put_own16 _ hj']) | refine brP_t (by assumption) ?_ | refine brP_f (by assumption) ?_ | refine brP_t (decide_eq_true (by omega)) ?_ | refine brP_f (decide_eq_false (by omega)) ?_ | refine brP_t (nd_t (by omega)) ?_ | refine brP_f (nd_f (by omega)) ?_ | ((conv in (opS _ _ _ _) => whnf); rw [Int.toNat_natCast, hget]) | ((conv in (opM _ _ _ _ _) => whnf); (conv in (opS _ _ _ _) => whnf); rw [Int.toNat_natCast, hget]) | ((rw [hw])) | refine callK_p e0 ?_ | refine callM_p e0 rfl ?_ | refine callK_pf rfl e0 ?_ | refine wpfS_seq1 ?_ | refine wpfS_go ?_ | fail) <;> conv => whnf)
        rw [hw2]
        refine ⟨j + 1, hj', (show 16 - (j + 1) < 16 - j by omega), ⟨rfl, rfl, rfl, rfl, trivial⟩, ?_⟩
        show (⟨[], [.row (setOwn q j 16).row, .row [.int .u16 s, .int .u16 i], .row zeroP.row]⟩ : Hp) = _
        rw [hu h1]
      | true =>
        rw [h1] at e0
        repeat' ((first | refine brP_t (by assumption) ?_ | refine brP_f (by assumption) ?_ | refine brP_t (decide_eq_true (by omega)) ?_ | refine brP_f (decide_eq_false (by omega)) ?_ | refine brP_t (nd_t (by omega)) ?_ | refine brP_f (nd_f (by omega)) ?_ | ((conv in (opS _ _ _ _) => whnf); rw [Int.toNat_natCast, hget]) | ((conv in (opM _ _ _ _ _) => whnf); (conv in (opS _ _ _ _) => whnf); rw [Int.toNat_natCast, hget]) | ((rw [hw])) | refine callK_p e0 ?_ | refine callM_p e0 rfl ?_ | refine callK_pf rfl e0 ?_ | refine wpfS_seq1 ?_ | refine wpfS_go ?_ | fail) <;> conv => whnf)
        rw [hw2]
        refine ⟨j + 1, hj', (show 16 - (j + 1) < 16 - j by omega), ⟨rfl, rfl, rfl, rfl, trivial⟩, ?_⟩
        show (⟨[], [.row q.row, .row [.int .u16 s, .int .u16 i], .row zeroP.row]⟩ : Hp) = _
        rw [hsk h1]
    · have hj' : j = 16 := by have := of_decide_eq_false h; omega
      subst hj'
      subst hqe
      clear h hu hsk q1
      have hend : ({ cutTo p S 16 16 with live := S } : Pol).row = (cutS p S).row := Pol.row_ext rfl (fun r h => if_pos h) (fun r h => if_pos h) (fun r h => rfl) (fun r h => if_pos h) rfl
      show _
      conv => whnf
      repeat' ((first | refine brP_t (by assumption) ?_ | refine brP_f (by assumption) ?_ | refine brP_t (decide_eq_true (by omega)) ?_ | refine brP_f (decide_eq_false (by omega)) ?_ | refine brP_t (nd_t (by omega)) ?_ | refine brP_f (nd_f (by omega)) ?_ | refine wpfS_seq1 ?_ | refine wpfS_go ?_ | fail) <;> conv => whnf)
      exact congrArg AV.agg hend
end Go.Ab.S
