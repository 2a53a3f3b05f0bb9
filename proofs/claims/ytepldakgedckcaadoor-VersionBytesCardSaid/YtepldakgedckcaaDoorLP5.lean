/- Part of a proof; no condition. Two ways to what can be come to: the search's and the document's. No condition. Part of a proof; no condition. Part of a proof; no condition. -/
import Derived.Test.YtepldakgedckcaaDoorLP1
set_option linter.unusedSimpArgs false
set_option linter.unusedVariables false
namespace Go.Ab.S
open Go Go.Ab Go.Proofs
attribute [local irreducible] SemS
set_option maxRecDepth 100000
def actsV (g : Nat → Nat) : AV := .agg (actsR g)
def succB (W : Nat) (g : Nat → Nat) (a b : Nat) : Bool := W.testBit a && (W.testBit b && (g a).testBit b)
def stepD (W : Nat) (g : Nat → Nat) (o a b : Nat) : Nat := if o.testBit a && succB W g a b then o ||| 2 ^ b else o
def foldTo (f : Nat → Nat → Nat) (o : Nat) : Nat → Nat
  | 0 => o
  | n + 1 => f (foldTo f o n) n
def rowD (W : Nat) (g : Nat → Nat) (o a : Nat) : Nat := foldTo (fun o b => stepD W g o a b) o 16
def passD (W : Nat) (g : Nat → Nat) (o : Nat) : Nat := foldTo (rowD W g) o 16
def downR (W : Nat) (g : Nat → Nat) (s : Nat) : Nat := foldTo (fun o _ => passD W g o) (s &&& W) 16
theorem foldTo_lt {f : Nat → Nat → Nat} (hf : ∀ o n, o < 65536 → n < 16 → f o n < 65536) {o : Nat} (ho : o < 65536) : ∀ n, n ≤ 16 → foldTo f o n < 65536
  | 0, _ => ho
  | n + 1, h => hf _ _ (foldTo_lt hf ho n (by omega)) (by omega)
theorem stepD_lt {W : Nat} {g : Nat → Nat} {o a b : Nat} (ho : o < 65536) (hb : b < 16) : stepD W g o a b < 65536 := by
  unfold stepD
  have := pow16 (t := b) (by omega)
  split
  · exact or_lt ho (by omega)
  · exact ho
theorem rowD_lt {W : Nat} {g : Nat → Nat} {o a : Nat} (ho : o < 65536) : rowD W g o a < 65536 := foldTo_lt (fun _ _ h1 h2 => stepD_lt h1 h2) ho 16 (Nat.le_refl 16)
theorem passD_lt {W : Nat} {g : Nat → Nat} {o : Nat} (ho : o < 65536) : passD W g o < 65536 := foldTo_lt (fun _ _ h1 _ => rowD_lt h1) ho 16 (Nat.le_refl 16)
/-! ### The program's search -/
def dfs (W : Nat) (g : Nat → Nat) : Nat → Nat → Nat → Nat
  | 0, o, _ => o
  | n + 1, o, r => if W.testBit r && !o.testBit r then (bitsN (g r)).foldl (fun o q => dfs W g n o q) (o ||| 2 ^ r) else o
def cntB (W o : Nat) : Nat := (List.range 16).countP fun i => W.testBit i && !o.testBit i
theorem countP_lt {p q : Nat → Bool} : ∀ {l : List Nat} {r : Nat}, r ∈ l → (∀ x ∈ l, p x = true → q x = true) → q r = true → p r = false → l.countP p < l.countP q
  | x :: l, r, hr, hpq, hq, hp => by
    rw [List.countP_cons, List.countP_cons]
    rcases List.mem_cons.1 hr with rfl | hr
    · rw [hp, hq]
      have : l.countP p ≤ l.countP q := List.countP_mono_left fun x hx => hpq x (by simp [hx])
      simp
      omega
    · have := countP_lt (l := l) hr (fun x hx => hpq x (by simp [hx])) hq hp
      have h2 : (if p x = true then 1 else 0) ≤ (if q x = true then 1 else 0) := by
        split
        · rename_i h; rw [if_pos (hpq x (by simp) h)]; exact Nat.le_refl 1
        · exact Nat.zero_le _
      omega
theorem Each0_ok (s : Int) : EvR PR G f_tagset_Each [uv s] ⟨[], []⟩ (.c (.fn f_tagset_Each_1 [.loc 0])) ⟨[], [.row [.int .u16 s]]⟩ := by
  refine EvR.of_wpf false false hm c_tagset_Each rfl ?_
  conv => whnf
  exact ⟨rfl, rfl⟩
/-- What the search finds from some roles on. -/
def downN (W : Nat) (g : Nat → Nat) (s : Nat) : Nat := (bitsN s).foldl (fun o q => dfs W g 16 o q) 0
end Go.Ab.S

namespace Go.Ab.S
open Go Go.Ab Go.Proofs
/-- What can be come to. -/
inductive Rch (W : Nat) (g : Nat → Nat) (s : Nat) : Nat → Prop
  | start {r : Nat} (hr : r < 16) (hs : s.testBit r = true) (hW : W.testBit r = true) : Rch W g s r
  | step {a b : Nat} (h : Rch W g s a) (hb : b < 16) (hs : succB W g a b = true) : Rch W g s b
theorem Rch.lt {W : Nat} {g : Nat → Nat} {s r : Nat} (h : Rch W g s r) : r < 16 := by cases h <;> assumption
section
variable {W : Nat} {g : Nat → Nat}
/-! ### The search -/
/-- The set is closed, but for what stood there. -/
def Clo (W : Nat) (g : Nat → Nat) (o o' : Nat) : Prop := ∀ a b, b < 16 → o'.testBit a = true → o.testBit a = false → succB W g a b = true → o'.testBit b = true
/-! ### The document's passes -/
theorem foldTo_sub {f : Nat → Nat → Nat} {j : Nat} (hf : ∀ o n, o.testBit j = true → (f o n).testBit j = true) {o : Nat} (h : o.testBit j = true) : ∀ n, (foldTo f o n).testBit j = true
  | 0 => h
  | n + 1 => hf _ _ (foldTo_sub hf h n)
theorem stepD_sub {o a b j : Nat} (h : o.testBit j = true) : (stepD W g o a b).testBit j = true := by
  unfold stepD
  split
  · rw [Nat.testBit_or, h]; rfl
  · exact h
theorem rowD_sub {o a j : Nat} (h : o.testBit j = true) : (rowD W g o a).testBit j = true := foldTo_sub (fun _ _ h => stepD_sub h) h 16
theorem passD_sub {o j : Nat} (h : o.testBit j = true) : (passD W g o).testBit j = true := foldTo_sub (fun _ _ h => rowD_sub h) h 16
/-- How many are in a set. -/
def size16 (o : Nat) : Nat := (List.range 16).countP fun i => o.testBit i
theorem size_lt {o o' : Nat} (h : ∀ j, o.testBit j = true → o'.testBit j = true) {j : Nat} (hj : j < 16) (h1 : o'.testBit j = true) (h2 : o.testBit j = false) : size16 o < size16 o' := by
  unfold size16
  exact countP_lt (r := j) (by simpa using hj) (fun x _ hx => h x hx) h1 h2
/-- A set to which a pass adds nothing stays. -/
theorem pass_grow {o : Nat} (ho : o < 65536) : passD W g o = o ∨ size16 o < size16 (passD W g o) := by
  by_cases h : ∃ j, j < 16 ∧ (passD W g o).testBit j = true ∧ o.testBit j = false
  · obtain ⟨j, hj, h1, h2⟩ := h
    exact .inr (size_lt (fun j h => passD_sub h) hj h1 h2)
  · refine .inl (set_ext (passD_lt ho) ho fun j hj => ?_)
    cases h1 : (passD W g o).testBit j with
    | false =>
      cases h2 : o.testBit j with
      | false => rfl
      | true => rw [passD_sub h2] at h1; cases h1
    | true =>
      cases h2 : o.testBit j with
      | true => rfl
      | false => exact absurd ⟨j, hj, h1, h2⟩ h
theorem passes {o : Nat} (ho : o < 65536) : ∀ n, n ≤ 16 → passD W g (foldTo (fun o _ => passD W g o) o n) = foldTo (fun o _ => passD W g o) o n ∨ n + 1 ≤ size16 (passD W g (foldTo (fun o _ => passD W g o) o n))
  | 0, _ => by
    rcases pass_grow (W := W) (g := g) ho with h | h
    · exact .inl h
    · exact .inr (by show 1 ≤ _; exact Nat.lt_of_le_of_lt (Nat.zero_le _) h)
  | n + 1, hn => by
    have hlt := foldTo_lt (f := fun o _ => passD W g o) (fun _ _ h1 _ => passD_lt h1) ho n (by omega)
    rcases passes ho n (by omega) with h | h
    · refine .inl ?_
      show passD W g (passD W g (foldTo (fun o _ => passD W g o) o n)) = passD W g (foldTo (fun o _ => passD W g o) o n)
      rw [h, h]
    · rcases pass_grow (W := W) (g := g) (o := passD W g (foldTo (fun o _ => passD W g o) o n)) (passD_lt hlt) with h' | h'
      · exact .inl h'
      · refine .inr ?_
        show n + 1 + 1 ≤ size16 (passD W g (passD W g (foldTo (fun o _ => passD W g o) o n)))
        omega
end
end Go.Ab.S

namespace Go.Ab.S
open Go Go.Ab Go.Proofs
attribute [local irreducible] SemS
set_option maxRecDepth 100000
theorem Pol.row_ext {p q : Pol} (h1 : p.live = q.live) (h2 : ∀ r, r < 16 → p.ls r = q.ls r) (h3 : ∀ r, r < 16 → p.li r = q.li r) (h4 : ∀ r, r < 16 → p.acts r = q.acts r) (h5 : ∀ r, r < 16 → p.own r = q.own r) (h6 : p.active = q.active) : p.row = q.row := by
  have e1 : labsR p.ls p.li = labsR q.ls q.li := by
    simp only [labsR]
    rw [h2 0 (by omega), h2 1 (by omega), h2 2 (by omega), h2 3 (by omega), h2 4 (by omega), h2 5 (by omega), h2 6 (by omega), h2 7 (by omega), h2 8 (by omega), h2 9 (by omega), h2 10 (by omega), h2 11 (by omega), h2 12 (by omega), h2 13 (by omega), h2 14 (by omega), h2 15 (by omega),
      h3 0 (by omega), h3 1 (by omega), h3 2 (by omega), h3 3 (by omega), h3 4 (by omega), h3 5 (by omega), h3 6 (by omega), h3 7 (by omega), h3 8 (by omega), h3 9 (by omega), h3 10 (by omega), h3 11 (by omega), h3 12 (by omega), h3 13 (by omega), h3 14 (by omega), h3 15 (by omega)]
  have e2 : actsR p.acts = actsR q.acts := by
    simp only [actsR]
    rw [h4 0 (by omega), h4 1 (by omega), h4 2 (by omega), h4 3 (by omega), h4 4 (by omega), h4 5 (by omega), h4 6 (by omega), h4 7 (by omega), h4 8 (by omega), h4 9 (by omega), h4 10 (by omega), h4 11 (by omega), h4 12 (by omega), h4 13 (by omega), h4 14 (by omega), h4 15 (by omega)]
  unfold Pol.row
  rw [h1, e1, e2, mrow_ext h5, h6]
def roleB (p : Pol) (r : Nat) : Bool := if p.live.testBit r then subB (p.ls r ||| p.li r) p.active && (subB (p.acts r) p.live && !(p.acts r).testBit r) else decide (p.ls r = 0) && (decide (p.li r = 0) && decide (p.acts r = 0))
theorem int_dec0 {a : Nat} : decide ((a : Int) = 0) = decide (a = 0) := decide_eq_decide.2 (by omega)
theorem policy_role_ok (p : Pol) (hp : p.Ok) (r : Nat) (hr : r < 16) : EvP PR G f_policy_role [p.v, iv r] (bv (roleB p r)) := by
  have e1 := tagset_Has_ok p.live r hp.live
  rw [hasN_nat hr] at e1
  have g2 := pol_act p hr
  have e2 := label_Tags_ok (p.ls r) (p.li r) (hp.ls r hr) (hp.li r hr)
  have e3 := tagset_Sub_ok (p.ls r ||| p.li r) p.active (or_lt (hp.ls r hr) (hp.li r hr)) hp.active
  have e4 := tagset_Sub_ok (p.acts r) p.live (hp.acts r hr) hp.live
  have e5 := tagset_Has_ok (p.acts r) r (hp.acts r hr)
  rw [hasN_nat hr] at e5
  have i1 := int_dec0 (a := p.ls r)
  have i2 := int_dec0 (a := p.li r)
  have i3 := int_dec0 (a := p.acts r)
  have g1 := pol_labL p hr
  unfold roleB
  refine EvP.of_wpf false hm c_policy_role rfl ?_
  refine wpf_seq1 ?_
  conv => whnf
  generalize hx : p.ls r = x at *
  generalize hy : p.li r = y at *
  generalize hz : p.acts r = z at *
  cases h1 : p.live.testBit r with
  | false =>
    rw [h1] at e1
    rw [if_neg (by simp)]
    have hq : (decide ((x : Int) = 0) && (decide ((y : Int) = 0) && true)) = (decide (x = 0) && decide (y = 0)) := by rw [i1, i2, Bool.and_true]
    rw [← Bool.and_assoc]
    generalize (decide (x = 0) && decide (y = 0)) = b at *
    cases b with
    | false =>
      repeat' ((first | (refine gd_mk ?_ ?_; (focus (first | exact decide_eq_true (by rw [pol_len]; omega) | exact decide_eq_true (And.intro rfl (by rw [pol_len]; simp only [List.length_cons, List.length_nil]; omega)) | exact decide_eq_true (And.intro rfl (by rw [pol_len]; omega)) | exact decide_eq_true (by rw [pol_len]; simp only [List.length_cons, List.length_nil]; omega) | exact decide_eq_true (by show _ ≤ 16; omega) | exact decide_eq_true (And.intro rfl (by show _ ≤ 16; omega)) | exact decide_eq_true (And.intro rfl (by show _ ≤ 16; simp only [List.length_cons, List.length_nil]; omega)))); rw [Int.toNat_natCast, g1]) | refine brP_t (by assumption) ?_ | refine brP_f (by assumption) ?_ | refine brP_t (decide_eq_true (by omega)) ?_ | refine brP_f (decide_eq_false (by omega)) ?_ | refine brP_t (nd_t (by omega)) ?_ | refine brP_f (nd_f (by omega)) ?_ | refine callK_p e1 ?_ | refine callM_p e1 rfl ?_ | refine callK_pf rfl e1 ?_ | ((conv in (opS _ _ _ _) => whnf); rw [Int.toNat_natCast, g2]) | ((conv in (opM _ _ _ _ _) => whnf); (conv in (opS _ _ _ _) => whnf); rw [Int.toNat_natCast, g2]) | ((rw [hq])) | refine wpfS_seq1 ?_ | refine wpfS_go ?_ | fail) <;> conv => whnf)
      rfl
    | true =>
      repeat' ((first | (refine gd_mk ?_ ?_; (focus (first | exact decide_eq_true (by rw [pol_len]; omega) | exact decide_eq_true (And.intro rfl (by rw [pol_len]; simp only [List.length_cons, List.length_nil]; omega)) | exact decide_eq_true (And.intro rfl (by rw [pol_len]; omega)) | exact decide_eq_true (by rw [pol_len]; simp only [List.length_cons, List.length_nil]; omega) | exact decide_eq_true (by show _ ≤ 16; omega) | exact decide_eq_true (And.intro rfl (by show _ ≤ 16; omega)) | exact decide_eq_true (And.intro rfl (by show _ ≤ 16; simp only [List.length_cons, List.length_nil]; omega)))); rw [Int.toNat_natCast, g1]) | refine brP_t (by assumption) ?_ | refine brP_f (by assumption) ?_ | refine brP_t (decide_eq_true (by omega)) ?_ | refine brP_f (decide_eq_false (by omega)) ?_ | refine brP_t (nd_t (by omega)) ?_ | refine brP_f (nd_f (by omega)) ?_ | refine callK_p e1 ?_ | refine callM_p e1 rfl ?_ | refine callK_pf rfl e1 ?_ | ((conv in (opS _ _ _ _) => whnf); rw [Int.toNat_natCast, g2]) | ((conv in (opM _ _ _ _ _) => whnf); (conv in (opS _ _ _ _) => whnf); rw [Int.toNat_natCast, g2]) | ((rw [hq])) | refine wpfS_seq1 ?_ | refine wpfS_go ?_ | fail) <;> conv => whnf)
      exact congrArg bv i3
  | true =>
    rw [h1] at e1
    rw [if_pos rfl]
    generalize subB (x ||| y) p.active = b1 at *
    generalize subB z p.live = b2 at *
    generalize z.testBit r = b3 at *
    cases b1 with
    | false =>
      repeat' ((first | (refine gd_mk ?_ ?_; (focus (first | exact decide_eq_true (by rw [pol_len]; omega) | exact decide_eq_true (And.intro rfl (by rw [pol_len]; simp only [List.length_cons, List.length_nil]; omega)) | exact decide_eq_true (And.intro rfl (by rw [pol_len]; omega)) | exact decide_eq_true (by rw [pol_len]; simp only [List.length_cons, List.length_nil]; omega) | exact decide_eq_true (by show _ ≤ 16; omega) | exact decide_eq_true (And.intro rfl (by show _ ≤ 16; omega)) | exact decide_eq_true (And.intro rfl (by show _ ≤ 16; simp only [List.length_cons, List.length_nil]; omega)))); rw [Int.toNat_natCast, g1]) | refine brP_t (by assumption) ?_ | refine brP_f (by assumption) ?_ | refine brP_t (decide_eq_true (by omega)) ?_ | refine brP_f (decide_eq_false (by omega)) ?_ | refine brP_t (nd_t (by omega)) ?_ | refine brP_f (nd_f (by omega)) ?_ | refine callK_p e1 ?_ | refine callM_p e1 rfl ?_ | refine callK_pf rfl e1 ?_ | ((conv in (opS _ _ _ _) => whnf); rw [Int.toNat_natCast, g2]) | ((conv in (opM _ _ _ _ _) => whnf); (conv in (opS _ _ _ _) => whnf); rw [Int.toNat_natCast, g2]) | refine callK_p e2 ?_ | refine callM_p e2 rfl ?_ | refine callK_pf rfl e2 ?_ | refine callK_p e3 ?_ | refine callM_p e3 rfl ?_ | refine callK_pf rfl e3 ?_ | refine wpfS_seq1 ?_ | refine wpfS_go ?_ | fail) <;> conv => whnf)
      rfl
    | true =>
      cases b2 with
      | false =>
        repeat' ((first | (refine gd_mk ?_ ?_; (focus (first | exact decide_eq_true (by rw [pol_len]; omega) | exact decide_eq_true (And.intro rfl (by rw [pol_len]; simp only [List.length_cons, List.length_nil]; omega)) | exact decide_eq_true (And.intro rfl (by rw [pol_len]; omega)) | exact decide_eq_true (by rw [pol_len]; simp only [List.length_cons, List.length_nil]; omega) | exact decide_eq_true (by show _ ≤ 16; omega) | exact decide_eq_true (And.intro rfl (by show _ ≤ 16; omega)) | exact decide_eq_true (And.intro rfl (by show _ ≤ 16; simp only [List.length_cons, List.length_nil]; omega)))); rw [Int.toNat_natCast, g1]) | refine brP_t (by assumption) ?_ | refine brP_f (by assumption) ?_ | refine brP_t (decide_eq_true (by omega)) ?_ | refine brP_f (decide_eq_false (by omega)) ?_ | refine brP_t (nd_t (by omega)) ?_ | refine brP_f (nd_f (by omega)) ?_ | refine callK_p e1 ?_ | refine callM_p e1 rfl ?_ | refine callK_pf rfl e1 ?_ | ((conv in (opS _ _ _ _) => whnf); rw [Int.toNat_natCast, g2]) | ((conv in (opM _ _ _ _ _) => whnf); (conv in (opS _ _ _ _) => whnf); rw [Int.toNat_natCast, g2]) | refine callK_p e2 ?_ | refine callM_p e2 rfl ?_ | refine callK_pf rfl e2 ?_ | refine callK_p e3 ?_ | refine callM_p e3 rfl ?_ | refine callK_pf rfl e3 ?_ | refine callK_p e4 ?_ | refine callM_p e4 rfl ?_ | refine callK_pf rfl e4 ?_ | refine wpfS_seq1 ?_ | refine wpfS_go ?_ | fail) <;> conv => whnf)
        rfl
      | true =>
        repeat' ((first | (refine gd_mk ?_ ?_; (focus (first | exact decide_eq_true (by rw [pol_len]; omega) | exact decide_eq_true (And.intro rfl (by rw [pol_len]; simp only [List.length_cons, List.length_nil]; omega)) | exact decide_eq_true (And.intro rfl (by rw [pol_len]; omega)) | exact decide_eq_true (by rw [pol_len]; simp only [List.length_cons, List.length_nil]; omega) | exact decide_eq_true (by show _ ≤ 16; omega) | exact decide_eq_true (And.intro rfl (by show _ ≤ 16; omega)) | exact decide_eq_true (And.intro rfl (by show _ ≤ 16; simp only [List.length_cons, List.length_nil]; omega)))); rw [Int.toNat_natCast, g1]) | refine brP_t (by assumption) ?_ | refine brP_f (by assumption) ?_ | refine brP_t (decide_eq_true (by omega)) ?_ | refine brP_f (decide_eq_false (by omega)) ?_ | refine brP_t (nd_t (by omega)) ?_ | refine brP_f (nd_f (by omega)) ?_ | refine callK_p e1 ?_ | refine callM_p e1 rfl ?_ | refine callK_pf rfl e1 ?_ | ((conv in (opS _ _ _ _) => whnf); rw [Int.toNat_natCast, g2]) | ((conv in (opM _ _ _ _ _) => whnf); (conv in (opS _ _ _ _) => whnf); rw [Int.toNat_natCast, g2]) | refine callK_p e2 ?_ | refine callM_p e2 rfl ?_ | refine callK_pf rfl e2 ?_ | refine callK_p e3 ?_ | refine callM_p e3 rfl ?_ | refine callK_pf rfl e3 ?_ | refine callK_p e4 ?_ | refine callM_p e4 rfl ?_ | refine callK_pf rfl e4 ?_ | refine callK_p e5 ?_ | refine callM_p e5 rfl ?_ | refine callK_pf rfl e5 ?_ | refine wpfS_seq1 ?_ | refine wpfS_go ?_ | fail) <;> conv => whnf)
        rfl
end Go.Ab.S

namespace Go.Ab.S
open Go Go.Ab Go.Proofs
attribute [local irreducible] SemS
set_option maxRecDepth 100000
/-! ### Which policies may be -/
def all16 (f : Nat → Bool) : Bool := (List.range 16).all f
theorem all16_iff {f : Nat → Bool} : all16 f = true ↔ ∀ r, r < 16 → f r = true := by
  unfold all16
  rw [List.all_eq_true]
  exact ⟨fun h r hr => h r (by simpa using hr), fun h r hr => h r (by simpa using hr)⟩
theorem all16_t {f : Nat → Bool} (h : ∀ r, r < 16 → f r = true) : all16 f = true := all16_iff.2 h
theorem all16_f {f : Nat → Bool} {r : Nat} (hr : r < 16) (h : f r = false) : all16 f = false := by
  cases hh : all16 f with
  | false => rfl
  | true => rw [all16_iff.1 hh r hr] at h; cases h
theorem all16_at {f : Nat → Bool} (h : all16 f = true) {r : Nat} (hr : r < 16) : f r = true := all16_iff.1 h r hr
def ownB (p : Pol) (t : Nat) : Bool := decide (p.own t = 16) || (hasN p.live (p.own t) && p.active.testBit t)
def fineP (p : Pol) : Bool := all16 (roleB p) && all16 (ownB p)
theorem policy_Fine_ok (p : Pol) (hp : p.Ok) : EvP PR G f_policy_Fine [p.v] (bv (fineP p)) := by
  refine EvP.of_wpf false hm c_policy_Fine rfl ?_
  refine wpf_seq1 ?_
  conv => whnf
  repeat' ((first | refine brP_t (by assumption) ?_ | refine brP_f (by assumption) ?_ | refine brP_t (decide_eq_true (by omega)) ?_ | refine brP_f (decide_eq_false (by omega)) ?_ | refine brP_t (nd_t (by omega)) ?_ | refine brP_f (nd_f (by omega)) ?_ | refine wpfS_seq1 ?_ | refine wpfS_go ?_ | fail) <;> conv => whnf)
  refine SemS.loopF false hm (σ := Nat) (fun i => [(1, .c (.ptr (.loc 0) 0)), (6, iv i)]) (fun _ => ⟨[], [.row p.row]⟩) (fun i => 16 - i) (fun i => i ≤ 16 ∧ ∀ j, j < i → roleB p j = true) 0 ⟨Nat.zero_le _, fun j h => absurd h (Nat.not_lt_zero j)⟩ ⟨rfl, rfl, trivial⟩ rfl ?_
  rintro i ⟨hi, hall⟩
  refine wpf_seq1 ?_
  conv => whnf
  refine wpfS_seq1 ?_
  conv => whnf
  refine brP_mk (fun h => ?_) (fun h => ?_)
  · have hi' : i < 16 := by have := of_decide_eq_true h; omega
    clear h
    have hw2 : IntKind.i64.wrap ((i : Int) + 1) = ((i + 1 : Nat) : Int) := by rw [wrap64 (by omega)]; rfl
    have e1 := policy_role_ok p hp i hi'
    cases h1 : roleB p i with
    | false =>
      rw [h1] at e1
      have hf : fineP p = false := by unfold fineP; rw [all16_f hi' h1]; rfl
      rw [hf]
      repeat' ((first | refine brP_t (by assumption) ?_ | refine brP_f (by assumption) ?_ | refine brP_t (decide_eq_true (by omega)) ?_ | refine brP_f (decide_eq_false (by omega)) ?_ | refine brP_t (nd_t (by omega)) ?_ | refine brP_f (nd_f (by omega)) ?_ | refine callK_p e1 ?_ | refine callM_p e1 rfl ?_ | refine callK_pf rfl e1 ?_ | refine wpfS_seq1 ?_ | refine wpfS_go ?_ | fail) <;> conv => whnf)
      rfl
    | true =>
      rw [h1] at e1
      repeat' ((first | refine brP_t (by assumption) ?_ | refine brP_f (by assumption) ?_ | refine brP_t (decide_eq_true (by omega)) ?_ | refine brP_f (decide_eq_false (by omega)) ?_ | refine brP_t (nd_t (by omega)) ?_ | refine brP_f (nd_f (by omega)) ?_ | refine callK_p e1 ?_ | refine callM_p e1 rfl ?_ | refine callK_pf rfl e1 ?_ | refine wpfS_seq1 ?_ | refine wpfS_go ?_ | fail) <;> conv => whnf)
      rw [hw2]
      refine ⟨i + 1, ⟨hi', fun j hj => ?_⟩, (show 16 - (i + 1) < 16 - i by omega), ⟨rfl, rfl, trivial⟩, rfl⟩
      by_cases e : j = i
      · subst e; exact h1
      · exact hall j (by omega)
  · have hi' : i = 16 := by have := of_decide_eq_false h; omega
    subst hi'
    clear h
    conv => whnf
    repeat' ((first | refine brP_t (by assumption) ?_ | refine brP_f (by assumption) ?_ | refine brP_t (decide_eq_true (by omega)) ?_ | refine brP_f (decide_eq_false (by omega)) ?_ | refine brP_t (nd_t (by omega)) ?_ | refine brP_f (nd_f (by omega)) ?_ | refine wpfS_seq1 ?_ | refine wpfS_go ?_ | fail) <;> conv => whnf)
    refine SemS.loopF false hm (σ := Nat) (fun i => [(1, .c (.ptr (.loc 0) 0)), (15, .agg (mrow p.own)), (16, iv i)]) (fun _ => ⟨[], [.row p.row]⟩) (fun i => 16 - i) (fun i => i ≤ 16 ∧ ∀ j, j < i → ownB p j = true) 0 ⟨Nat.zero_le _, fun j h => absurd h (Nat.not_lt_zero j)⟩ ⟨rfl, rfl, rfl, trivial⟩ rfl ?_
    rintro i ⟨hi, hal2⟩
    refine wpf_seq1 ?_
    conv => whnf
    refine wpfS_seq1 ?_
    conv => whnf
    refine brP_mk (fun h => ?_) (fun h => ?_)
    · have hi' : i < 16 := by have := of_decide_eq_true h; omega
      clear h
      have hw2 : IntKind.i64.wrap ((i : Int) + 1) = ((i + 1 : Nat) : Int) := by rw [wrap64 (by omega)]; rfl
      have hget := own_at p.own hi'
      have hw := wrapU8 (p.own i) (hp.own i hi')
      have e1 := tagset_Has_ok p.live (p.own i) hp.live
      have e2 := tagset_Has_ok p.active i hp.active
      rw [hasN_nat hi'] at e2
      have goOn : ownB p i = true → ∀ j, j < i + 1 → ownB p j = true := fun hb j hj => by
        by_cases e : j = i
        · subst e; exact hb
        · exact hal2 j (by omega)
      by_cases h0 : p.own i = 16
      · have hb : ownB p i = true := by unfold ownB; rw [decide_eq_true h0]; rfl
        repeat' ((first | refine brP_t (by assumption) ?_ | refine brP_f (by assumption) ?_ | refine brP_t (decide_eq_true (by omega)) ?_ | refine brP_f (decide_eq_false (by omega)) ?_ | refine brP_t (nd_t (by omega)) ?_ | refine brP_f (nd_f (by omega)) ?_ | ((conv in (opS _ _ _ _) => whnf); rw [Int.toNat_natCast, hget]) | ((conv in (opM _ _ _ _ _) => whnf); (conv in (opS _ _ _ _) => whnf); rw [Int.toNat_natCast, hget]) | refine wpfS_seq1 ?_ | refine wpfS_go ?_ | fail) <;> conv => whnf)
        rw [hw2]
        exact ⟨i + 1, ⟨hi', goOn hb⟩, (show 16 - (i + 1) < 16 - i by omega), ⟨rfl, rfl, rfl, trivial⟩, rfl⟩
      · cases h1 : hasN p.live (p.own i) with
        | false =>
          rw [h1] at e1
          have hb : ownB p i = false := by unfold ownB; rw [decide_eq_false h0, h1]; rfl
          have hf : fineP p = false := by unfold fineP; rw [all16_f hi' hb, Bool.and_false]
          rw [hf]
          repeat' ((first | refine brP_t (by assumption) ?_ | refine brP_f (by assumption) ?_ | refine brP_t (decide_eq_true (by omega)) ?_ | refine brP_f (decide_eq_false (by omega)) ?_ | refine brP_t (nd_t (by omega)) ?_ | refine brP_f (nd_f (by omega)) ?_ | ((conv in (opS _ _ _ _) => whnf); rw [Int.toNat_natCast, hget]) | ((conv in (opM _ _ _ _ _) => whnf); (conv in (opS _ _ _ _) => whnf); rw [Int.toNat_natCast, hget]) | refine callK_p e1 ?_ | refine callM_p e1 rfl ?_ | refine callK_pf rfl e1 ?_ | ((rw [hw])) | refine wpfS_seq1 ?_ | refine wpfS_go ?_ | fail) <;> conv => whnf)
          rfl
        | true =>
          rw [h1] at e1
          cases h2 : p.active.testBit i with
          | false =>
            rw [h2] at e2
            have hb : ownB p i = false := by unfold ownB; rw [decide_eq_false h0, h1, h2]; rfl
            have hf : fineP p = false := by unfold fineP; rw [all16_f hi' hb, Bool.and_false]
            rw [hf]
            repeat' ((first | refine brP_t (by assumption) ?_ | refine brP_f (by assumption) ?_ | refine brP_t (decide_eq_true (by omega)) ?_ | refine brP_f (decide_eq_false (by omega)) ?_ | refine brP_t (nd_t (by omega)) ?_ | refine brP_f (nd_f (by omega)) ?_ | ((conv in (opS _ _ _ _) => whnf); rw [Int.toNat_natCast, hget]) | ((conv in (opM _ _ _ _ _) => whnf); (conv in (opS _ _ _ _) => whnf); rw [Int.toNat_natCast, hget]) | refine callK_p e1 ?_ | refine callM_p e1 rfl ?_ | refine callK_pf rfl e1 ?_ | ((rw [hw])) | refine callK_p e2 ?_ | refine callM_p e2 rfl ?_ | refine callK_pf rfl e2 ?_ | refine wpfS_seq1 ?_ | refine wpfS_go ?_ | fail) <;> conv => whnf)
            rfl
          | true =>
            rw [h2] at e2
            have hb : ownB p i = true := by unfold ownB; rw [h1, h2, Bool.and_self, Bool.or_true]
            repeat' ((first | refine brP_t (by assumption) ?_ | refine brP_f (by assumption) ?_ | refine brP_t (decide_eq_true (by omega)) ?_ | refine brP_f (decide_eq_false (by omega)) ?_ | refine brP_t (nd_t (by omega)) ?_ | refine brP_f (nd_f (by omega)) ?_ | ((conv in (opS _ _ _ _) => whnf); rw [Int.toNat_natCast, hget]) | ((conv in (opM _ _ _ _ _) => whnf); (conv in (opS _ _ _ _) => whnf); rw [Int.toNat_natCast, hget]) | refine callK_p e1 ?_ | refine callM_p e1 rfl ?_ | refine callK_pf rfl e1 ?_ | ((rw [hw])) | refine callK_p e2 ?_ | refine callM_p e2 rfl ?_ | refine callK_pf rfl e2 ?_ | refine wpfS_seq1 ?_ | refine wpfS_go ?_ | fail) <;> conv => whnf)
            rw [hw2]
            exact ⟨i + 1, ⟨hi', goOn hb⟩, (show 16 - (i + 1) < 16 - i by omega), ⟨rfl, rfl, rfl, trivial⟩, rfl⟩
    · have hi' : i = 16 := by have := of_decide_eq_false h; omega
      subst hi'
      clear h
      have hf : fineP p = true := by unfold fineP; rw [all16_t hall, all16_t hal2]; rfl
      rw [hf]
      conv => whnf
      repeat' ((first | refine brP_t (by assumption) ?_ | refine brP_f (by assumption) ?_ | refine brP_t (decide_eq_true (by omega)) ?_ | refine brP_f (decide_eq_false (by omega)) ?_ | refine brP_t (nd_t (by omega)) ?_ | refine brP_f (nd_f (by omega)) ?_ | refine wpfS_seq1 ?_ | refine wpfS_go ?_ | fail) <;> conv => whnf)
      rfl
end Go.Ab.S
