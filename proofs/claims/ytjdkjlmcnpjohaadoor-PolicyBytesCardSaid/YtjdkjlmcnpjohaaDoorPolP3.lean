/- Two ways to what can be come to: the search's and the document's. No condition. -/
import Derived.Test.YtjdkjlmcnpjohaaDoorPolP2
set_option linter.unusedSimpArgs false
set_option linter.unusedVariables false
namespace Go.Ab.S
open Go Go.Ab Go.Proofs
/-- What can be come to. -/
inductive Rch (W : Nat) (g : Nat → Nat) (s : Nat) : Nat → Prop
  | start {r : Nat} (hr : r < 16) (hs : s.testBit r = true) (hW : W.testBit r = true) : Rch W g s r
  | step {a b : Nat} (h : Rch W g s a) (hb : b < 16) (hs : succB W g a b = true) : Rch W g s b
theorem Rch.lt {W : Nat} {g : Nat → Nat} {s r : Nat} (h : Rch W g s r) : r < 16 := by cases h <;> assumption
theorem Rch.inW {W : Nat} {g : Nat → Nat} {s r : Nat} (h : Rch W g s r) : W.testBit r = true := by
  cases h with
  | start hr hs hW => exact hW
  | step h hb hs => simp only [succB, Bool.and_eq_true] at hs; exact hs.2.1
section
variable {W : Nat} {g : Nat → Nat}
/-! ### The search -/
/-- The set is closed, but for what stood there. -/
def Clo (W : Nat) (g : Nat → Nat) (o o' : Nat) : Prop := ∀ a b, b < 16 → o'.testBit a = true → o.testBit a = false → succB W g a b = true → o'.testBit b = true
theorem dfs_has : ∀ (n : Nat) {o r : Nat}, r < 16 → cntB W o ≤ n → W.testBit r = true → (dfs W g n o r).testBit r = true
  | 0, o, r, hr, hc, hW => show o.testBit r = true from cnt_zero (by omega) hr hW
  | n + 1, o, r, hr, hc, hW => by
    simp only [dfs]
    split
    · exact dfsL_sub _ (by rw [Nat.testBit_or, Nat.testBit_two_pow]; simp)
    · rename_i h
      rw [hW, Bool.true_and] at h
      simpa using h
theorem dfs_clo (hg : ∀ r, r < 16 → g r < 65536) : ∀ (n : Nat) {o r : Nat}, o < 65536 → r < 16 → cntB W o ≤ n → Clo W g o (dfs W g n o r)
  | 0, o, r, ho, hr, hc => fun a b hb h1 h2 => by rw [show dfs W g 0 o r = o from rfl, h2] at h1; cases h1
  | n + 1, o, r, ho, hr, hc => by
    intro a b hb h1 h2 hs
    simp only [dfs] at h1 ⊢
    split at h1
    · rename_i hcond
      rw [if_pos hcond]
      simp only [Bool.and_eq_true, Bool.not_eq_true'] at hcond
      have hp := pow16 (t := r) (by omega)
      have ho1 : o ||| 2 ^ r < 65536 := or_lt ho (by omega)
      have hc1 : cntB W (o ||| 2 ^ r) ≤ n := by have := cnt_step hr hcond.1 hcond.2; omega
      -- over a list of roles
      have key : ∀ (l : List Nat) (o1 : Nat), (∀ q ∈ l, q < 16) → o1 < 65536 → cntB W o1 ≤ n →
          (∀ q ∈ l, W.testBit q = true → (l.foldl (fun o q => dfs W g n o q) o1).testBit q = true) ∧ Clo W g o1 (l.foldl (fun o q => dfs W g n o q) o1) := by
        intro l
        induction l with
        | nil => intro o1 _ _ _; exact ⟨fun q hq => (by cases hq), fun a b hb h1 h2 => by rw [show List.foldl (fun o q => dfs W g n o q) o1 [] = o1 from rfl, h2] at h1; cases h1⟩
        | cons q l ih =>
          intro o1 hq h1 h2
          have hq16 := hq q (by simp)
          have hlt := dfs_lt (W := W) (g := g) n h1 hq16
          have hcc : cntB W (dfs W g n o1 q) ≤ n := Nat.le_trans (cnt_mono fun j hj => dfs_sub n hj) h2
          obtain ⟨k1, k2⟩ := ih (dfs W g n o1 q) (fun x hx => hq x (by simp [hx])) hlt hcc
          refine ⟨fun x hx hxW => ?_, fun a b hb ha hna hs => ?_⟩
          · rcases List.mem_cons.1 hx with rfl | hx
            · exact dfsL_sub l (dfs_has n hq16 h2 hxW)
            · exact k1 x hx hxW
          · cases hm : (dfs W g n o1 q).testBit a with
            | true => exact dfsL_sub l (dfs_clo hg n h1 hq16 h2 a b hb hm hna hs)
            | false => exact k2 a b hb ha hm hs
      obtain ⟨k1, k2⟩ := key (bitsN (g r)) (o ||| 2 ^ r) (fun q hq => (mem_bitsN.1 hq).1) ho1 hc1
      by_cases har : a = r
      · subst har
        simp only [succB, Bool.and_eq_true] at hs
        exact k1 b (mem_bitsN.2 ⟨hb, hs.2.2⟩) hs.2.1
      · refine k2 a b hb h1 ?_ hs
        rw [Nat.testBit_or, h2, Nat.testBit_two_pow]
        simpa using fun e => har e.symm
    · rw [h2] at h1; cases h1
theorem dfs_rch {s : Nat} (hg : ∀ r, r < 16 → g r < 65536) : ∀ (n : Nat) {o r : Nat}, r < 16 → (W.testBit r = true → Rch W g s r) → (∀ j, o.testBit j = true → Rch W g s j) → ∀ j, (dfs W g n o r).testBit j = true → Rch W g s j
  | 0, _, _, _, _, h, j, hj => h j hj
  | n + 1, o, r, hr, hrr, h, j, hj => by
    simp only [dfs] at hj
    split at hj
    · rename_i hcond
      simp only [Bool.and_eq_true, Bool.not_eq_true'] at hcond
      have hR := hrr hcond.1
      have key : ∀ (l : List Nat) (o1 : Nat), (∀ q ∈ l, q < 16 ∧ (W.testBit q = true → Rch W g s q)) → (∀ j, o1.testBit j = true → Rch W g s j) → ∀ j, (l.foldl (fun o q => dfs W g n o q) o1).testBit j = true → Rch W g s j := by
        intro l
        induction l with
        | nil => intro o1 _ h; exact h
        | cons q l ih => intro o1 hq h; exact ih _ (fun x hx => hq x (by simp [hx])) (dfs_rch hg n (hq q (by simp)).1 (hq q (by simp)).2 h)
      refine key _ _ (fun q hq => ?_) (fun j hj => ?_) j hj
      · obtain ⟨h1, h2⟩ := mem_bitsN.1 hq
        exact ⟨h1, fun hqW => .step hR h1 (by simp [succB, hcond.1, hqW, h2])⟩
      · rw [Nat.testBit_or, Nat.testBit_two_pow, Bool.or_eq_true] at hj
        rcases hj with hj | hj
        · exact h j hj
        · have : r = j := by simpa using hj
          subst this; exact hR
    · exact h j hj
theorem downN_lt {s : Nat} : downN W g s < 65536 := dfsL_lt _ (fun q hq => (mem_bitsN.1 hq).1) (by omega)
theorem downN_iff (hg : ∀ r, r < 16 → g r < 65536) {s j : Nat} : (downN W g s).testBit j = true ↔ Rch W g s j := by
  unfold downN
  constructor
  · have key : ∀ (l : List Nat) (o1 : Nat), (∀ q ∈ l, q < 16 ∧ (W.testBit q = true → Rch W g s q)) → (∀ j, o1.testBit j = true → Rch W g s j) → ∀ j, (l.foldl (fun o q => dfs W g 16 o q) o1).testBit j = true → Rch W g s j := by
      intro l
      induction l with
      | nil => intro o1 _ h; exact h
      | cons q l ih => intro o1 hq h; exact ih _ (fun x hx => hq x (by simp [hx])) (dfs_rch hg 16 (hq q (by simp)).1 (hq q (by simp)).2 h)
    refine key _ _ (fun q hq => ?_) (fun j hj => ?_) j
    · obtain ⟨h1, h2⟩ := mem_bitsN.1 hq
      exact ⟨h1, fun hW => .start h1 h2 hW⟩
    · rw [Nat.zero_testBit] at hj; cases hj
  · have key : ∀ (l : List Nat) (o1 : Nat), (∀ q ∈ l, q < 16) → o1 < 65536 →
        (∀ q ∈ l, W.testBit q = true → (l.foldl (fun o q => dfs W g 16 o q) o1).testBit q = true) ∧ Clo W g o1 (l.foldl (fun o q => dfs W g 16 o q) o1) := by
      intro l
      induction l with
      | nil => intro o1 _ _; exact ⟨fun q hq => (by cases hq), fun a b hb h1 h2 => by rw [show List.foldl (fun o q => dfs W g 16 o q) o1 [] = o1 from rfl, h2] at h1; cases h1⟩
      | cons q l ih =>
        intro o1 hq h1
        have hq16 := hq q (by simp)
        have hlt := dfs_lt (W := W) (g := g) 16 h1 hq16
        obtain ⟨k1, k2⟩ := ih (dfs W g 16 o1 q) (fun x hx => hq x (by simp [hx])) hlt
        refine ⟨fun x hx hxW => ?_, fun a b hb ha hna hs => ?_⟩
        · rcases List.mem_cons.1 hx with rfl | hx
          · exact dfsL_sub l (dfs_has 16 hq16 cnt_le hxW)
          · exact k1 x hx hxW
        · cases hm : (dfs W g 16 o1 q).testBit a with
          | true => exact dfsL_sub l (dfs_clo hg 16 h1 hq16 cnt_le a b hb hm hna hs)
          | false => exact k2 a b hb ha hm hs
    obtain ⟨k1, k2⟩ := key (bitsN s) 0 (fun q hq => (mem_bitsN.1 hq).1) (by omega)
    intro h
    induction h with
    | start hr hs hW => exact k1 _ (mem_bitsN.2 ⟨hr, hs⟩) hW
    | step h hb hs ih => exact k2 _ _ hb ih (Nat.zero_testBit _) hs
/-! ### The document's passes -/
theorem foldTo_sub {f : Nat → Nat → Nat} {j : Nat} (hf : ∀ o n, o.testBit j = true → (f o n).testBit j = true) {o : Nat} (h : o.testBit j = true) : ∀ n, (foldTo f o n).testBit j = true
  | 0 => h
  | n + 1 => hf _ _ (foldTo_sub hf h n)
theorem stepD_sub {o a b j : Nat} (h : o.testBit j = true) : (stepD W g o a b).testBit j = true := by
  unfold stepD
  split
  · rw [Nat.testBit_or, h]; rfl
  · exact h
theorem rowD_sub {o a j : Nat} (h : o.testBit j = true) : (rowD W g o a).testBit j = true := foldTo_sub (fun _ _ h => stepD_sub h) h 16
theorem passD_sub {o j : Nat} (h : o.testBit j = true) : (passD W g o).testBit j = true := foldTo_sub (fun _ _ h => rowD_sub h) h 16
theorem foldTo_from {f : Nat → Nat → Nat} {o : Nat} (hsub : ∀ j o n, o.testBit j = true → (f o n).testBit j = true) : ∀ {n k : Nat}, k ≤ n → ∀ j, (foldTo f o k).testBit j = true → (foldTo f o n).testBit j = true
  | 0, k, hk, j, h => by rw [show k = 0 by omega] at h; exact h
  | n + 1, k, hk, j, h => by
    by_cases e : k = n + 1
    · subst e; exact h
    · exact hsub _ _ _ (foldTo_from hsub (show k ≤ n by omega) j h)
/-- A pass adds what lies one step on. -/
theorem passD_step {o a b : Nat} (ha : a < 16) (hb : b < 16) (h : o.testBit a = true) (hs : succB W g a b = true) : (passD W g o).testBit b = true := by
  unfold passD
  refine foldTo_from (fun j o n h => rowD_sub h) (show a + 1 ≤ 16 by omega) b ?_
  show (rowD W g (foldTo (rowD W g) o a) a).testBit b = true
  have h1 : (foldTo (rowD W g) o a).testBit a = true := foldTo_sub (fun _ _ h => rowD_sub h) h a
  unfold rowD
  refine foldTo_from (fun j o n h => stepD_sub h) (show b + 1 ≤ 16 by omega) b ?_
  show (stepD W g (foldTo (fun o b => stepD W g o a b) (foldTo (rowD W g) o a) b) a b).testBit b = true
  have h2 : (foldTo (fun o b => stepD W g o a b) (foldTo (rowD W g) o a) b).testBit a = true := foldTo_sub (fun _ _ h => stepD_sub h) h1 b
  revert h2
  generalize foldTo (fun o b => stepD W g o a b) (foldTo (rowD W g) o a) b = o3
  intro h2
  unfold stepD
  rw [h2, hs]
  simp
theorem foldTo_rch {s : Nat} {f : Nat → Nat → Nat} {m : Nat} (hf : ∀ o n, n < m → (∀ j, o.testBit j = true → Rch W g s j) → ∀ j, (f o n).testBit j = true → Rch W g s j) {o : Nat} (h : ∀ j, o.testBit j = true → Rch W g s j) : ∀ n, n ≤ m → ∀ j, (foldTo f o n).testBit j = true → Rch W g s j
  | 0, _ => h
  | n + 1, hn => hf _ _ (by omega) (foldTo_rch hf h n (by omega))
theorem stepD_rch {s o a b : Nat} (hb : b < 16) (h : ∀ j, o.testBit j = true → Rch W g s j) : ∀ j, (stepD W g o a b).testBit j = true → Rch W g s j := by
  intro j hj
  unfold stepD at hj
  split at hj
  · rename_i hc
    simp only [Bool.and_eq_true] at hc
    rw [Nat.testBit_or, Nat.testBit_two_pow, Bool.or_eq_true] at hj
    rcases hj with hj | hj
    · exact h j hj
    · have : b = j := by simpa using hj
      subst this
      exact .step (h a hc.1) hb hc.2
  · exact h j hj
theorem rowD_rch {s o a : Nat} (h : ∀ j, o.testBit j = true → Rch W g s j) : ∀ j, (rowD W g o a).testBit j = true → Rch W g s j :=
  foldTo_rch (m := 16) (fun _ _ hn h => stepD_rch hn h) h 16 (Nat.le_refl 16)
theorem passD_rch {s o : Nat} (h : ∀ j, o.testBit j = true → Rch W g s j) : ∀ j, (passD W g o).testBit j = true → Rch W g s j :=
  foldTo_rch (m := 16) (fun _ _ _ h => rowD_rch h) h 16 (Nat.le_refl 16)
/-- How many are in a set. -/
def size16 (o : Nat) : Nat := (List.range 16).countP fun i => o.testBit i
theorem size_le {o : Nat} : size16 o ≤ 16 := by
  have := List.countP_le_length (p := fun i => o.testBit i) (l := List.range 16)
  simpa [size16] using this
theorem size_lt {o o' : Nat} (h : ∀ j, o.testBit j = true → o'.testBit j = true) {j : Nat} (hj : j < 16) (h1 : o'.testBit j = true) (h2 : o.testBit j = false) : size16 o < size16 o' := by
  unfold size16
  exact countP_lt (r := j) (by simpa using hj) (fun x _ hx => h x hx) h1 h2
/-- A set to which a pass adds nothing stays. -/
theorem pass_grow {o : Nat} (ho : o < 65536) : passD W g o = o ∨ size16 o < size16 (passD W g o) := by
  by_cases h : ∃ j, j < 16 ∧ (passD W g o).testBit j = true ∧ o.testBit j = false
  · obtain ⟨j, hj, h1, h2⟩ := h
    exact .inr (size_lt (fun j h => passD_sub h) hj h1 h2)
  · refine .inl (set_ext (passD_lt ho) ho fun j hj => ?_)
    cases h1 : (passD W g o).testBit j with
    | false =>
      cases h2 : o.testBit j with
      | false => rfl
      | true => rw [passD_sub h2] at h1; cases h1
    | true =>
      cases h2 : o.testBit j with
      | true => rfl
      | false => exact absurd ⟨j, hj, h1, h2⟩ h
theorem passes {o : Nat} (ho : o < 65536) : ∀ n, n ≤ 16 → passD W g (foldTo (fun o _ => passD W g o) o n) = foldTo (fun o _ => passD W g o) o n ∨ n + 1 ≤ size16 (passD W g (foldTo (fun o _ => passD W g o) o n))
  | 0, _ => by
    rcases pass_grow (W := W) (g := g) ho with h | h
    · exact .inl h
    · exact .inr (by show 1 ≤ _; exact Nat.lt_of_le_of_lt (Nat.zero_le _) h)
  | n + 1, hn => by
    have hlt := foldTo_lt (f := fun o _ => passD W g o) (fun _ _ h1 _ => passD_lt h1) ho n (by omega)
    rcases passes ho n (by omega) with h | h
    · refine .inl ?_
      show passD W g (passD W g (foldTo (fun o _ => passD W g o) o n)) = passD W g (foldTo (fun o _ => passD W g o) o n)
      rw [h, h]
    · rcases pass_grow (W := W) (g := g) (o := passD W g (foldTo (fun o _ => passD W g o) o n)) (passD_lt hlt) with h' | h'
      · exact .inl h'
      · refine .inr ?_
        show n + 1 + 1 ≤ size16 (passD W g (passD W g (foldTo (fun o _ => passD W g o) o n)))
        omega
theorem downR_lt {s : Nat} (hs : s < 65536) : downR W g s < 65536 := foldTo_lt (f := fun o _ => passD W g o) (fun _ _ h1 _ => passD_lt h1) (and_lt hs) 16 (Nat.le_refl 16)
theorem downR_iff {s j : Nat} (hs : s < 65536) : (downR W g s).testBit j = true ↔ Rch W g s j := by
  unfold downR
  constructor
  · refine foldTo_rch (m := 16) (fun _ _ _ h => passD_rch h) (fun j hj => ?_) 16 (Nat.le_refl 16) j
    rw [Nat.testBit_and, Bool.and_eq_true] at hj
    exact .start (bit_lt hs hj.1) hj.1 hj.2
  · intro h
    have hfix : passD W g (foldTo (fun o _ => passD W g o) (s &&& W) 16) = foldTo (fun o _ => passD W g o) (s &&& W) 16 := by
      rcases passes (W := W) (g := g) (and_lt hs) 16 (Nat.le_refl 16) with h | h
      · exact h
      · have := size_le (o := passD W g (foldTo (fun o _ => passD W g o) (s &&& W) 16)); omega
    induction h with
    | start hr hs' hW => exact foldTo_sub (fun _ _ h => passD_sub h) (by rw [Nat.testBit_and, hs', hW]; rfl) 16
    | step h hb hs' ih =>
      rw [← hfix]
      exact passD_step h.lt hb ih hs'
theorem down_same (hg : ∀ r, r < 16 → g r < 65536) {s : Nat} (hs : s < 65536) : downN W g s = downR W g s := by
  refine set_ext downN_lt (downR_lt hs) fun j _ => ?_
  rw [Bool.eq_iff_iff, downN_iff hg, downR_iff hs]
end
end Go.Ab.S
