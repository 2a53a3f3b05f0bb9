/- Part of a proof; no condition. Two ways to what can be come to: the search's and the document's. No condition. Part of a proof; no condition. Part of a proof; no condition. -/
import Derived.Test.YtidmpmdhgiopgaaDoorLP1
set_option linter.unusedSimpArgs false
set_option linter.unusedVariables false
namespace Go.Ab.S
open Go Go.Ab Go.Proofs
attribute [local irreducible] SemS
set_option maxRecDepth 100000
def actsV (g : Nat → Nat) : AV := .agg (actsR g)
def succB (W : Nat) (g : Nat → Nat) (a b : Nat) : Bool := W.testBit a && (W.testBit b && (g a).testBit b)
def stepD (W : Nat) (g : Nat → Nat) (o a b : Nat) : Nat := if o.testBit a && succB W g a b then o ||| 2 ^ b else o
def foldTo (f : Nat → Nat → Nat) (o : Nat) : Nat → Nat
  | 0 => o
  | n + 1 => f (foldTo f o n) n
def rowD (W : Nat) (g : Nat → Nat) (o a : Nat) : Nat := foldTo (fun o b => stepD W g o a b) o 16
def passD (W : Nat) (g : Nat → Nat) (o : Nat) : Nat := foldTo (rowD W g) o 16
def downR (W : Nat) (g : Nat → Nat) (s : Nat) : Nat := foldTo (fun o _ => passD W g o) (s &&& W) 16
theorem foldTo_lt {f : Nat → Nat → Nat} (hf : ∀ o n, o < 65536 → n < 16 → f o n < 65536) {o : Nat} (ho : o < 65536) : ∀ n, n ≤ 16 → foldTo f o n < 65536
  | 0, _ => ho
  | n + 1, h => hf _ _ (foldTo_lt hf ho n (by omega)) (by omega)
theorem stepD_lt {W : Nat} {g : Nat → Nat} {o a b : Nat} (ho : o < 65536) (hb : b < 16) : stepD W g o a b < 65536 := by
  unfold stepD
  have := pow16 (t := b) (by omega)
  split
  · exact or_lt ho (by omega)
  · exact ho
theorem rowD_lt {W : Nat} {g : Nat → Nat} {o a : Nat} (ho : o < 65536) : rowD W g o a < 65536 := foldTo_lt (fun _ _ h1 h2 => stepD_lt h1 h2) ho 16 (Nat.le_refl 16)
theorem passD_lt {W : Nat} {g : Nat → Nat} {o : Nat} (ho : o < 65536) : passD W g o < 65536 := foldTo_lt (fun _ _ h1 _ => rowD_lt h1) ho 16 (Nat.le_refl 16)
/-! ### The program's search -/
def dfs (W : Nat) (g : Nat → Nat) : Nat → Nat → Nat → Nat
  | 0, o, _ => o
  | n + 1, o, r => if W.testBit r && !o.testBit r then (bitsN (g r)).foldl (fun o q => dfs W g n o q) (o ||| 2 ^ r) else o
theorem dfs_lt {W : Nat} {g : Nat → Nat} : ∀ (n : Nat) {o r : Nat}, o < 65536 → r < 16 → dfs W g n o r < 65536
  | 0, _, _, h, _ => h
  | n + 1, o, r, h, hr => by
    simp only [dfs]
    split
    · have hp := pow16 (t := r) (by omega)
      have key : ∀ (l : List Nat) (o : Nat), (∀ q ∈ l, q < 16) → o < 65536 → l.foldl (fun o q => dfs W g n o q) o < 65536 := by
        intro l
        induction l with
        | nil => intro o _ h; exact h
        | cons q l ih => intro o hq h; exact ih _ (fun x hx => hq x (by simp [hx])) (dfs_lt n h (hq q (by simp)))
      exact key _ _ (fun q hq => (mem_bitsN.1 hq).1) (or_lt h (by omega))
    · exact h
theorem dfsL_lt {W : Nat} {g : Nat → Nat} {n : Nat} : ∀ (l : List Nat) {o : Nat}, (∀ q ∈ l, q < 16) → o < 65536 → l.foldl (fun o q => dfs W g n o q) o < 65536
  | [], _, _, h => h
  | q :: l, _, hq, h => dfsL_lt l (fun x hx => hq x (by simp [hx])) (dfs_lt n h (hq q (by simp)))
theorem dfs_sub {W : Nat} {g : Nat → Nat} : ∀ (n : Nat) {o r : Nat} {j : Nat}, o.testBit j = true → (dfs W g n o r).testBit j = true
  | 0, _, _, _, h => h
  | n + 1, o, r, j, h => by
    simp only [dfs]
    split
    · have key : ∀ (l : List Nat) (o : Nat), o.testBit j = true → (l.foldl (fun o q => dfs W g n o q) o).testBit j = true := by
        intro l
        induction l with
        | nil => intro o h; exact h
        | cons q l ih => intro o h; exact ih _ (dfs_sub n h)
      exact key _ _ (by rw [Nat.testBit_or, h]; rfl)
    · exact h
theorem dfsL_sub {W : Nat} {g : Nat → Nat} {n j : Nat} : ∀ (l : List Nat) {o : Nat}, o.testBit j = true → (l.foldl (fun o q => dfs W g n o q) o).testBit j = true
  | [], _, h => h
  | q :: l, _, h => dfsL_sub l (dfs_sub n h)
def cntB (W o : Nat) : Nat := (List.range 16).countP fun i => W.testBit i && !o.testBit i
theorem cnt_zero {W o r : Nat} (h : cntB W o = 0) (hr : r < 16) (hW : W.testBit r = true) : o.testBit r = true := by
  unfold cntB at h
  rw [List.countP_eq_zero] at h
  have := h r (by simpa using hr)
  rw [hW] at this
  simpa using this
theorem cnt_mono {W o o' : Nat} (h : ∀ j, o.testBit j = true → o'.testBit j = true) : cntB W o' ≤ cntB W o := by
  unfold cntB
  refine List.countP_mono_left fun x _ hx => ?_
  simp only [Bool.and_eq_true, Bool.not_eq_true'] at hx ⊢
  refine ⟨hx.1, ?_⟩
  cases hb : o.testBit x with
  | false => rfl
  | true => rw [h x hb] at hx; exact absurd hx.2 (by simp)
theorem countP_lt {p q : Nat → Bool} : ∀ {l : List Nat} {r : Nat}, r ∈ l → (∀ x ∈ l, p x = true → q x = true) → q r = true → p r = false → l.countP p < l.countP q
  | x :: l, r, hr, hpq, hq, hp => by
    rw [List.countP_cons, List.countP_cons]
    rcases List.mem_cons.1 hr with rfl | hr
    · rw [hp, hq]
      have : l.countP p ≤ l.countP q := List.countP_mono_left fun x hx => hpq x (by simp [hx])
      simp
      omega
    · have := countP_lt (l := l) hr (fun x hx => hpq x (by simp [hx])) hq hp
      have h2 : (if p x = true then 1 else 0) ≤ (if q x = true then 1 else 0) := by
        split
        · rename_i h; rw [if_pos (hpq x (by simp) h)]; exact Nat.le_refl 1
        · exact Nat.zero_le _
      omega
theorem cnt_step {W o r : Nat} (hr : r < 16) (hW : W.testBit r = true) (ho : o.testBit r = false) : cntB W (o ||| 2 ^ r) < cntB W o := by
  unfold cntB
  refine countP_lt (r := r) (by simpa using hr) (fun x _ hx => ?_) (by rw [hW, ho]; rfl) (by rw [Nat.testBit_or, Nat.testBit_two_pow]; simp)
  simp only [Bool.and_eq_true, Bool.not_eq_true'] at hx ⊢
  refine ⟨hx.1, ?_⟩
  have := hx.2
  rw [Nat.testBit_or] at this
  exact (Bool.or_eq_false_iff.1 this).1
theorem Each0_ok (s : Int) : EvR PR G f_tagset_Each [uv s] ⟨[], []⟩ (.c (.fn f_tagset_Each_1 [.loc 0])) ⟨[], [.row [.int .u16 s]]⟩ := by
  refine EvR.of_wpf false false hm c_tagset_Each rfl ?_
  conv => whnf
  exact ⟨rfl, rfl⟩
/-- The search's blocks. -/
def visH (W : Nat) (g : Nat → Nat) (o : Nat) : List Blk := [.row [.int .u16 W], .row [.int .u16 o], .row (actsR g), .mrow [.fn f_graph_Down_1 [.par 0, .par 1, .par 2, .par 3]]]
theorem visit_ok (W : Nat) (hW : W < 65536) (g : Nat → Nat) (hg : ∀ r, r < 16 → g r < 65536) : ∀ (n o r : Nat), o < 65536 → r < 16 → cntB W o ≤ n →
    EvR PR G f_graph_Down_1 [iv r, .c (.ptr (.par 0) 0), .c (.ptr (.par 1) 0), .c (.ptr (.par 2) 0), .c (.ptr (.par 3) 0)] ⟨visH W g o, []⟩ (.tup []) ⟨visH W g (dfs W g n o r), []⟩ := by
  intro n
  induction n with
  | zero =>
    intro o r ho hr hc
    have e1 := tagset_Has_ok W r hW
    have e2 := tagset_Has_ok o r ho
    rw [hasN_nat hr] at e1 e2
    show EvR PR G _ _ _ _ ⟨visH W g o, []⟩
    refine EvR.of_wpfC false false hm c_graph_Down_1 rfl rfl ?_
    refine wpf_seq1 ?_
    conv => whnf
    cases h1 : W.testBit r with
    | false =>
      rw [h1] at e1
      repeat' ((first | refine brP_t (by assumption) ?_ | refine brP_f (by assumption) ?_ | refine brP_t (decide_eq_true (by omega)) ?_ | refine brP_f (decide_eq_false (by omega)) ?_ | refine brP_t (nd_t (by omega)) ?_ | refine brP_f (nd_f (by omega)) ?_ | refine callK_p e1 ?_ | refine callM_p e1 rfl ?_ | refine callK_pf rfl e1 ?_ | refine callK_p e2 ?_ | refine callM_p e2 rfl ?_ | refine callK_pf rfl e2 ?_ | refine wpfS_seq1 ?_ | refine wpfS_go ?_ | fail) <;> conv => whnf)
      exact ⟨rfl, rfl⟩
    | true =>
      rw [h1] at e1
      rw [cnt_zero (by omega) hr h1] at e2
      repeat' ((first | refine brP_t (by assumption) ?_ | refine brP_f (by assumption) ?_ | refine brP_t (decide_eq_true (by omega)) ?_ | refine brP_f (decide_eq_false (by omega)) ?_ | refine brP_t (nd_t (by omega)) ?_ | refine brP_f (nd_f (by omega)) ?_ | refine callK_p e1 ?_ | refine callM_p e1 rfl ?_ | refine callK_pf rfl e1 ?_ | refine callK_p e2 ?_ | refine callM_p e2 rfl ?_ | refine callK_pf rfl e2 ?_ | refine wpfS_seq1 ?_ | refine wpfS_go ?_ | fail) <;> conv => whnf)
      exact ⟨rfl, rfl⟩
  | succ n ih =>
    intro o r ho hr hc
    have e1 := tagset_Has_ok W r hW
    have e2 := tagset_Has_ok o r ho
    rw [hasN_nat hr] at e1 e2
    refine EvR.of_wpfC false false hm c_graph_Down_1 rfl rfl ?_
    refine wpf_seq1 ?_
    conv => whnf
    cases h1 : W.testBit r with
    | false =>
      rw [h1] at e1
      have : dfs W g (n + 1) o r = o := by simp only [dfs]; rw [h1]; rfl
      rw [this]
      repeat' ((first | refine brP_t (by assumption) ?_ | refine brP_f (by assumption) ?_ | refine brP_t (decide_eq_true (by omega)) ?_ | refine brP_f (decide_eq_false (by omega)) ?_ | refine brP_t (nd_t (by omega)) ?_ | refine brP_f (nd_f (by omega)) ?_ | refine callK_p e1 ?_ | refine callM_p e1 rfl ?_ | refine callK_pf rfl e1 ?_ | refine callK_p e2 ?_ | refine callM_p e2 rfl ?_ | refine callK_pf rfl e2 ?_ | refine wpfS_seq1 ?_ | refine wpfS_go ?_ | fail) <;> conv => whnf)
      exact ⟨rfl, rfl⟩
    | true =>
      rw [h1] at e1
      cases h2 : o.testBit r with
      | true =>
        rw [h2] at e2
        have : dfs W g (n + 1) o r = o := by simp only [dfs]; rw [h2, Bool.not_true, Bool.and_false]; rfl
        rw [this]
        repeat' ((first | refine brP_t (by assumption) ?_ | refine brP_f (by assumption) ?_ | refine brP_t (decide_eq_true (by omega)) ?_ | refine brP_f (decide_eq_false (by omega)) ?_ | refine brP_t (nd_t (by omega)) ?_ | refine brP_f (nd_f (by omega)) ?_ | refine callK_p e1 ?_ | refine callM_p e1 rfl ?_ | refine callK_pf rfl e1 ?_ | refine callK_p e2 ?_ | refine callM_p e2 rfl ?_ | refine callK_pf rfl e2 ?_ | refine wpfS_seq1 ?_ | refine wpfS_go ?_ | fail) <;> conv => whnf)
        exact ⟨rfl, rfl⟩
      | false =>
        rw [h2] at e2
        have hd : dfs W g (n + 1) o r = (bitsN (g r)).foldl (fun o q => dfs W g n o q) (o ||| 2 ^ r) := by simp only [dfs]; rw [h1, h2]; rfl
        rw [hd]
        have hp := pow16 (t := r) (by omega)
        have hor := or16 ho (show 2 ^ r < 65536 by omega)
        have hsh := shl16 hr
        have ho1 : o ||| 2 ^ r < 65536 := or_lt ho (by omega)
        have hc1 : cntB W (o ||| 2 ^ r) ≤ n := by have := cnt_step hr h1 h2; omega
        have hget := acts_at g hr
        have e3 := Each0_ok (g r)
        repeat' ((first | refine brP_t (by assumption) ?_ | refine brP_f (by assumption) ?_ | refine brP_t (decide_eq_true (by omega)) ?_ | refine brP_f (decide_eq_false (by omega)) ?_ | refine brP_t (nd_t (by omega)) ?_ | refine brP_f (nd_f (by omega)) ?_ | refine callK_p e1 ?_ | refine callM_p e1 rfl ?_ | refine callK_pf rfl e1 ?_ | refine callK_p e2 ?_ | refine callM_p e2 rfl ?_ | refine callK_pf rfl e2 ?_ | ((rw [hsh, hor])) | ((conv in (opS _ _ _ _) => whnf); rw [Int.toNat_natCast, hget]) | ((conv in (opM _ _ _ _ _) => whnf); (conv in (opS _ _ _ _) => whnf); rw [Int.toNat_natCast, hget]) | refine callK_r (EvR.fr [] e3 rfl rfl trivial rfl) ?_ | refine callM_l (LEv.fr [] e3 rfl rfl trivial rfl rfl) ?_ | refine callK_rt (EvR.fr [] e3 rfl rfl trivial rfl) ?_ | refine callK_rf rfl (EvR.fr [] e3 rfl rfl trivial rfl) ?_ | refine callK_rft rfl (EvR.fr [] e3 rfl rfl trivial rfl) ?_ | refine wpfS_seq1 ?_ | refine wpfS_go ?_ | fail) <;> conv => whnf)
        have hpre : ∀ {pre : List Int} {x : Int}, pre ++ [x] <+: bitsL (g r) → (∀ q ∈ pre.map Int.toNat, q < 16) ∧ ∃ q : Nat, x = q ∧ q < 16 := by
          intro pre x h
          refine ⟨fun q hq => ?_, ?_⟩
          · obtain ⟨y, hy, rfl⟩ := List.mem_map.1 hq
            obtain ⟨z, hz, rfl⟩ := List.mem_map.1 (h.subset (show y ∈ pre ++ [x] by simp [hy]))
            exact (mem_bitsN.1 hz).1
          · obtain ⟨z, hz, rfl⟩ := List.mem_map.1 (h.subset (show x ∈ pre ++ [x] by simp))
            exact ⟨z, rfl, (mem_bitsN.1 hz).1⟩
        refine SemS.rf false hm (s := g r) (xs := bitsL (g r)) rfl each_callable rfl (fun F w r' hG hF hc => each1 (g r) (hg r hr) F w r' hG hF hc)
          (fun pre H => H = ⟨visH W g ((pre.map Int.toNat).foldl (fun o q => dfs W g n o q) (o ||| 2 ^ r)), [.row [.int .u16 (g r)]]⟩) (fun _ _ => False) rfl ?_ ?_ ?_
        · rintro pre x H1 hpx rfl
          obtain ⟨hp1, q, rfl, hq⟩ := hpre hpx
          have hlt := dfsL_lt (W := W) (g := g) (n := n) _ hp1 ho1
          have hcn : cntB W ((pre.map Int.toNat).foldl (fun o q => dfs W g n o q) (o ||| 2 ^ r)) ≤ n := Nat.le_trans (cnt_mono fun j hj => dfsL_sub _ hj) hc1
          have hfold : ((pre ++ [(q : Int)]).map Int.toNat).foldl (fun o q => dfs W g n o q) (o ||| 2 ^ r) = dfs W g n ((pre.map Int.toNat).foldl (fun o q => dfs W g n o q) (o ||| 2 ^ r)) q := by
            rw [List.map_append, List.foldl_append]; rfl
          rw [hfold]
          generalize (pre.map Int.toNat).foldl (fun o q => dfs W g n o q) (o ||| 2 ^ r) = o' at *
          have e4 := ih o' q hlt hq hcn
          conv => whnf
          refine ⟨rfl, ?_⟩
          conv => whnf
          repeat' ((first | refine brP_t (by assumption) ?_ | refine brP_f (by assumption) ?_ | refine brP_t (decide_eq_true (by omega)) ?_ | refine brP_f (decide_eq_false (by omega)) ?_ | refine brP_t (nd_t (by omega)) ?_ | refine brP_f (nd_f (by omega)) ?_ | refine callK_r (EvR.fr [_, _, _, _] e4 rfl rfl ⟨rfl, rfl, rfl, rfl, trivial⟩ rfl) ?_ | refine callM_l (LEv.fr [_, _, _, _] e4 rfl rfl ⟨rfl, rfl, rfl, rfl, trivial⟩ rfl rfl) ?_ | refine callK_rt (EvR.fr [_, _, _, _] e4 rfl rfl ⟨rfl, rfl, rfl, rfl, trivial⟩ rfl) ?_ | refine callK_rf rfl (EvR.fr [_, _, _, _] e4 rfl rfl ⟨rfl, rfl, rfl, rfl, trivial⟩ rfl) ?_ | refine callK_rft rfl (EvR.fr [_, _, _, _] e4 rfl rfl ⟨rfl, rfl, rfl, rfl, trivial⟩ rfl) ?_ | refine wpfS_seq1 ?_ | refine wpfS_go ?_ | fail) <;> conv => whnf)
          rfl
        · rintro H1 rfl
          have : (bitsL (g r)).map Int.toNat = bitsN (g r) := by
            unfold bitsL
            rw [List.map_map]
            conv => rhs; rw [← List.map_id (bitsN (g r))]
            rfl
          rw [this]
          exact ⟨rfl, rfl⟩
        · intro e H1 _ h
          exact h.elim
/-- What the search finds from some roles on. -/
def downN (W : Nat) (g : Nat → Nat) (s : Nat) : Nat := (bitsN s).foldl (fun o q => dfs W g 16 o q) 0
theorem cnt_le {W o : Nat} : cntB W o ≤ 16 := by
  have := List.countP_le_length (p := fun i => W.testBit i && !o.testBit i) (l := List.range 16)
  simpa [cntB] using this
theorem graph_Down_ok (g : Nat → Nat) (hg : ∀ r, r < 16 → g r < 65536) (s W : Nat) (hs : s < 65536) (hW : W < 65536) : EvP PR G f_graph_Down [actsV g, uv s, uv W] (uv (downN W g s)) := by
  have e3 := Each0_ok s
  refine EvP.of_wpf false hm c_graph_Down rfl ?_
  refine wpf_seq1 ?_
  conv => whnf
  repeat' ((first | refine brP_t (by assumption) ?_ | refine brP_f (by assumption) ?_ | refine brP_t (decide_eq_true (by omega)) ?_ | refine brP_f (decide_eq_false (by omega)) ?_ | refine brP_t (nd_t (by omega)) ?_ | refine brP_f (nd_f (by omega)) ?_ | refine callK_r (EvR.fr [] e3 rfl rfl trivial rfl) ?_ | refine callM_l (LEv.fr [] e3 rfl rfl trivial rfl rfl) ?_ | refine callK_rt (EvR.fr [] e3 rfl rfl trivial rfl) ?_ | refine callK_rf rfl (EvR.fr [] e3 rfl rfl trivial rfl) ?_ | refine callK_rft rfl (EvR.fr [] e3 rfl rfl trivial rfl) ?_ | refine wpfS_seq1 ?_ | refine wpfS_go ?_ | fail) <;> conv => whnf)
  have hpre : ∀ {pre : List Int} {x : Int}, pre ++ [x] <+: bitsL s → (∀ q ∈ pre.map Int.toNat, q < 16) ∧ ∃ q : Nat, x = q ∧ q < 16 := by
    intro pre x h
    refine ⟨fun q hq => ?_, ?_⟩
    · obtain ⟨y, hy, rfl⟩ := List.mem_map.1 hq
      obtain ⟨z, hz, rfl⟩ := List.mem_map.1 (h.subset (show y ∈ pre ++ [x] by simp [hy]))
      exact (mem_bitsN.1 hz).1
    · obtain ⟨z, hz, rfl⟩ := List.mem_map.1 (h.subset (show x ∈ pre ++ [x] by simp))
      exact ⟨z, rfl, (mem_bitsN.1 hz).1⟩
  refine SemS.rf false hm (s := s) (xs := bitsL s) rfl each_callable rfl (fun F w r' hG hF hc => each1 s hs F w r' hG hF hc)
    (fun pre H => H = ⟨[], [.row (actsR g), .row [.int .u16 W], .row [.int .u16 (((pre.map Int.toNat).foldl (fun o q => dfs W g 16 o q) 0 : Nat) : Int)], .mrow [.fn f_graph_Down_1 [.loc 1, .loc 2, .loc 0, .loc 3]], .row [.int .u16 s]]⟩) (fun _ _ => False) rfl ?_ ?_ ?_
  · rintro pre x H1 hpx rfl
    obtain ⟨hp1, q, rfl, hq⟩ := hpre hpx
    have hlt := dfsL_lt (W := W) (g := g) (n := 16) (o := 0) _ hp1 (by omega)
    have hfold : ((pre ++ [(q : Int)]).map Int.toNat).foldl (fun o q => dfs W g 16 o q) 0 = dfs W g 16 ((pre.map Int.toNat).foldl (fun o q => dfs W g 16 o q) 0) q := by
      rw [List.map_append, List.foldl_append]; rfl
    rw [hfold]
    generalize (pre.map Int.toNat).foldl (fun o q => dfs W g 16 o q) 0 = o' at *
    have e4 := visit_ok W hW g hg 16 o' q hlt hq cnt_le
    conv => whnf
    refine ⟨rfl, ?_⟩
    conv => whnf
    repeat' ((first | refine brP_t (by assumption) ?_ | refine brP_f (by assumption) ?_ | refine brP_t (decide_eq_true (by omega)) ?_ | refine brP_f (decide_eq_false (by omega)) ?_ | refine brP_t (nd_t (by omega)) ?_ | refine brP_f (nd_f (by omega)) ?_ | refine callK_r (EvR.fr [_, _, _, _] e4 rfl rfl ⟨rfl, rfl, rfl, rfl, trivial⟩ rfl) ?_ | refine callM_l (LEv.fr [_, _, _, _] e4 rfl rfl ⟨rfl, rfl, rfl, rfl, trivial⟩ rfl rfl) ?_ | refine callK_rt (EvR.fr [_, _, _, _] e4 rfl rfl ⟨rfl, rfl, rfl, rfl, trivial⟩ rfl) ?_ | refine callK_rf rfl (EvR.fr [_, _, _, _] e4 rfl rfl ⟨rfl, rfl, rfl, rfl, trivial⟩ rfl) ?_ | refine callK_rft rfl (EvR.fr [_, _, _, _] e4 rfl rfl ⟨rfl, rfl, rfl, rfl, trivial⟩ rfl) ?_ | refine wpfS_seq1 ?_ | refine wpfS_go ?_ | fail) <;> conv => whnf)
    rfl
  · rintro H1 rfl
    have : (bitsL s).map Int.toNat = bitsN s := by
      unfold bitsL
      rw [List.map_map]
      conv => rhs; rw [← List.map_id (bitsN s)]
      rfl
    rw [this]
    conv => whnf
    repeat' ((first | refine brP_t (by assumption) ?_ | refine brP_f (by assumption) ?_ | refine brP_t (decide_eq_true (by omega)) ?_ | refine brP_f (decide_eq_false (by omega)) ?_ | refine brP_t (nd_t (by omega)) ?_ | refine brP_f (nd_f (by omega)) ?_ | refine wpfS_seq1 ?_ | refine wpfS_go ?_ | fail) <;> conv => whnf)
    rfl
  · intro e H1 _ h
    exact h.elim
end Go.Ab.S

namespace Go.Ab.S
open Go Go.Ab Go.Proofs
/-- What can be come to. -/
inductive Rch (W : Nat) (g : Nat → Nat) (s : Nat) : Nat → Prop
  | start {r : Nat} (hr : r < 16) (hs : s.testBit r = true) (hW : W.testBit r = true) : Rch W g s r
  | step {a b : Nat} (h : Rch W g s a) (hb : b < 16) (hs : succB W g a b = true) : Rch W g s b
theorem Rch.lt {W : Nat} {g : Nat → Nat} {s r : Nat} (h : Rch W g s r) : r < 16 := by cases h <;> assumption
section
variable {W : Nat} {g : Nat → Nat}
/-! ### The search -/
/-- The set is closed, but for what stood there. -/
def Clo (W : Nat) (g : Nat → Nat) (o o' : Nat) : Prop := ∀ a b, b < 16 → o'.testBit a = true → o.testBit a = false → succB W g a b = true → o'.testBit b = true
theorem dfs_has : ∀ (n : Nat) {o r : Nat}, r < 16 → cntB W o ≤ n → W.testBit r = true → (dfs W g n o r).testBit r = true
  | 0, o, r, hr, hc, hW => show o.testBit r = true from cnt_zero (by omega) hr hW
  | n + 1, o, r, hr, hc, hW => by
    simp only [dfs]
    split
    · exact dfsL_sub _ (by rw [Nat.testBit_or, Nat.testBit_two_pow]; simp)
    · rename_i h
      rw [hW, Bool.true_and] at h
      simpa using h
theorem dfs_clo (hg : ∀ r, r < 16 → g r < 65536) : ∀ (n : Nat) {o r : Nat}, o < 65536 → r < 16 → cntB W o ≤ n → Clo W g o (dfs W g n o r)
  | 0, o, r, ho, hr, hc => fun a b hb h1 h2 => by rw [show dfs W g 0 o r = o from rfl, h2] at h1; cases h1
  | n + 1, o, r, ho, hr, hc => by
    intro a b hb h1 h2 hs
    simp only [dfs] at h1 ⊢
    split at h1
    · rename_i hcond
      rw [if_pos hcond]
      simp only [Bool.and_eq_true, Bool.not_eq_true'] at hcond
      have hp := pow16 (t := r) (by omega)
      have ho1 : o ||| 2 ^ r < 65536 := or_lt ho (by omega)
      have hc1 : cntB W (o ||| 2 ^ r) ≤ n := by have := cnt_step hr hcond.1 hcond.2; omega
      -- over a list of roles
      have key : ∀ (l : List Nat) (o1 : Nat), (∀ q ∈ l, q < 16) → o1 < 65536 → cntB W o1 ≤ n →
          (∀ q ∈ l, W.testBit q = true → (l.foldl (fun o q => dfs W g n o q) o1).testBit q = true) ∧ Clo W g o1 (l.foldl (fun o q => dfs W g n o q) o1) := by
        intro l
        induction l with
        | nil => intro o1 _ _ _; exact ⟨fun q hq => (by cases hq), fun a b hb h1 h2 => by rw [show List.foldl (fun o q => dfs W g n o q) o1 [] = o1 from rfl, h2] at h1; cases h1⟩
        | cons q l ih =>
          intro o1 hq h1 h2
          have hq16 := hq q (by simp)
          have hlt := dfs_lt (W := W) (g := g) n h1 hq16
          have hcc : cntB W (dfs W g n o1 q) ≤ n := Nat.le_trans (cnt_mono fun j hj => dfs_sub n hj) h2
          obtain ⟨k1, k2⟩ := ih (dfs W g n o1 q) (fun x hx => hq x (by simp [hx])) hlt hcc
          refine ⟨fun x hx hxW => ?_, fun a b hb ha hna hs => ?_⟩
          · rcases List.mem_cons.1 hx with rfl | hx
            · exact dfsL_sub l (dfs_has n hq16 h2 hxW)
            · exact k1 x hx hxW
          · cases hm : (dfs W g n o1 q).testBit a with
            | true => exact dfsL_sub l (dfs_clo hg n h1 hq16 h2 a b hb hm hna hs)
            | false => exact k2 a b hb ha hm hs
      obtain ⟨k1, k2⟩ := key (bitsN (g r)) (o ||| 2 ^ r) (fun q hq => (mem_bitsN.1 hq).1) ho1 hc1
      by_cases har : a = r
      · subst har
        simp only [succB, Bool.and_eq_true] at hs
        exact k1 b (mem_bitsN.2 ⟨hb, hs.2.2⟩) hs.2.1
      · refine k2 a b hb h1 ?_ hs
        rw [Nat.testBit_or, h2, Nat.testBit_two_pow]
        simpa using fun e => har e.symm
    · rw [h2] at h1; cases h1
theorem dfs_rch {s : Nat} (hg : ∀ r, r < 16 → g r < 65536) : ∀ (n : Nat) {o r : Nat}, r < 16 → (W.testBit r = true → Rch W g s r) → (∀ j, o.testBit j = true → Rch W g s j) → ∀ j, (dfs W g n o r).testBit j = true → Rch W g s j
  | 0, _, _, _, _, h, j, hj => h j hj
  | n + 1, o, r, hr, hrr, h, j, hj => by
    simp only [dfs] at hj
    split at hj
    · rename_i hcond
      simp only [Bool.and_eq_true, Bool.not_eq_true'] at hcond
      have hR := hrr hcond.1
      have key : ∀ (l : List Nat) (o1 : Nat), (∀ q ∈ l, q < 16 ∧ (W.testBit q = true → Rch W g s q)) → (∀ j, o1.testBit j = true → Rch W g s j) → ∀ j, (l.foldl (fun o q => dfs W g n o q) o1).testBit j = true → Rch W g s j := by
        intro l
        induction l with
        | nil => intro o1 _ h; exact h
        | cons q l ih => intro o1 hq h; exact ih _ (fun x hx => hq x (by simp [hx])) (dfs_rch hg n (hq q (by simp)).1 (hq q (by simp)).2 h)
      refine key _ _ (fun q hq => ?_) (fun j hj => ?_) j hj
      · obtain ⟨h1, h2⟩ := mem_bitsN.1 hq
        exact ⟨h1, fun hqW => .step hR h1 (by simp [succB, hcond.1, hqW, h2])⟩
      · rw [Nat.testBit_or, Nat.testBit_two_pow, Bool.or_eq_true] at hj
        rcases hj with hj | hj
        · exact h j hj
        · have : r = j := by simpa using hj
          subst this; exact hR
    · exact h j hj
theorem downN_lt {s : Nat} : downN W g s < 65536 := dfsL_lt _ (fun q hq => (mem_bitsN.1 hq).1) (by omega)
theorem downN_iff (hg : ∀ r, r < 16 → g r < 65536) {s j : Nat} : (downN W g s).testBit j = true ↔ Rch W g s j := by
  unfold downN
  constructor
  · have key : ∀ (l : List Nat) (o1 : Nat), (∀ q ∈ l, q < 16 ∧ (W.testBit q = true → Rch W g s q)) → (∀ j, o1.testBit j = true → Rch W g s j) → ∀ j, (l.foldl (fun o q => dfs W g 16 o q) o1).testBit j = true → Rch W g s j := by
      intro l
      induction l with
      | nil => intro o1 _ h; exact h
      | cons q l ih => intro o1 hq h; exact ih _ (fun x hx => hq x (by simp [hx])) (dfs_rch hg 16 (hq q (by simp)).1 (hq q (by simp)).2 h)
    refine key _ _ (fun q hq => ?_) (fun j hj => ?_) j
    · obtain ⟨h1, h2⟩ := mem_bitsN.1 hq
      exact ⟨h1, fun hW => .start h1 h2 hW⟩
    · rw [Nat.zero_testBit] at hj; cases hj
  · have key : ∀ (l : List Nat) (o1 : Nat), (∀ q ∈ l, q < 16) → o1 < 65536 →
        (∀ q ∈ l, W.testBit q = true → (l.foldl (fun o q => dfs W g 16 o q) o1).testBit q = true) ∧ Clo W g o1 (l.foldl (fun o q => dfs W g 16 o q) o1) := by
      intro l
      induction l with
      | nil => intro o1 _ _; exact ⟨fun q hq => (by cases hq), fun a b hb h1 h2 => by rw [show List.foldl (fun o q => dfs W g 16 o q) o1 [] = o1 from rfl, h2] at h1; cases h1⟩
      | cons q l ih =>
        intro o1 hq h1
        have hq16 := hq q (by simp)
        have hlt := dfs_lt (W := W) (g := g) 16 h1 hq16
        obtain ⟨k1, k2⟩ := ih (dfs W g 16 o1 q) (fun x hx => hq x (by simp [hx])) hlt
        refine ⟨fun x hx hxW => ?_, fun a b hb ha hna hs => ?_⟩
        · rcases List.mem_cons.1 hx with rfl | hx
          · exact dfsL_sub l (dfs_has 16 hq16 cnt_le hxW)
          · exact k1 x hx hxW
        · cases hm : (dfs W g 16 o1 q).testBit a with
          | true => exact dfsL_sub l (dfs_clo hg 16 h1 hq16 cnt_le a b hb hm hna hs)
          | false => exact k2 a b hb ha hm hs
    obtain ⟨k1, k2⟩ := key (bitsN s) 0 (fun q hq => (mem_bitsN.1 hq).1) (by omega)
    intro h
    induction h with
    | start hr hs hW => exact k1 _ (mem_bitsN.2 ⟨hr, hs⟩) hW
    | step h hb hs ih => exact k2 _ _ hb ih (Nat.zero_testBit _) hs
/-! ### The document's passes -/
theorem foldTo_sub {f : Nat → Nat → Nat} {j : Nat} (hf : ∀ o n, o.testBit j = true → (f o n).testBit j = true) {o : Nat} (h : o.testBit j = true) : ∀ n, (foldTo f o n).testBit j = true
  | 0 => h
  | n + 1 => hf _ _ (foldTo_sub hf h n)
theorem stepD_sub {o a b j : Nat} (h : o.testBit j = true) : (stepD W g o a b).testBit j = true := by
  unfold stepD
  split
  · rw [Nat.testBit_or, h]; rfl
  · exact h
theorem rowD_sub {o a j : Nat} (h : o.testBit j = true) : (rowD W g o a).testBit j = true := foldTo_sub (fun _ _ h => stepD_sub h) h 16
theorem passD_sub {o j : Nat} (h : o.testBit j = true) : (passD W g o).testBit j = true := foldTo_sub (fun _ _ h => rowD_sub h) h 16
/-- How many are in a set. -/
def size16 (o : Nat) : Nat := (List.range 16).countP fun i => o.testBit i
theorem size_lt {o o' : Nat} (h : ∀ j, o.testBit j = true → o'.testBit j = true) {j : Nat} (hj : j < 16) (h1 : o'.testBit j = true) (h2 : o.testBit j = false) : size16 o < size16 o' := by
  unfold size16
  exact countP_lt (r := j) (by simpa using hj) (fun x _ hx => h x hx) h1 h2
/-- A set to which a pass adds nothing stays. -/
theorem pass_grow {o : Nat} (ho : o < 65536) : passD W g o = o ∨ size16 o < size16 (passD W g o) := by
  by_cases h : ∃ j, j < 16 ∧ (passD W g o).testBit j = true ∧ o.testBit j = false
  · obtain ⟨j, hj, h1, h2⟩ := h
    exact .inr (size_lt (fun j h => passD_sub h) hj h1 h2)
  · refine .inl (set_ext (passD_lt ho) ho fun j hj => ?_)
    cases h1 : (passD W g o).testBit j with
    | false =>
      cases h2 : o.testBit j with
      | false => rfl
      | true => rw [passD_sub h2] at h1; cases h1
    | true =>
      cases h2 : o.testBit j with
      | true => rfl
      | false => exact absurd ⟨j, hj, h1, h2⟩ h
theorem passes {o : Nat} (ho : o < 65536) : ∀ n, n ≤ 16 → passD W g (foldTo (fun o _ => passD W g o) o n) = foldTo (fun o _ => passD W g o) o n ∨ n + 1 ≤ size16 (passD W g (foldTo (fun o _ => passD W g o) o n))
  | 0, _ => by
    rcases pass_grow (W := W) (g := g) ho with h | h
    · exact .inl h
    · exact .inr (by show 1 ≤ _; exact Nat.lt_of_le_of_lt (Nat.zero_le _) h)
  | n + 1, hn => by
    have hlt := foldTo_lt (f := fun o _ => passD W g o) (fun _ _ h1 _ => passD_lt h1) ho n (by omega)
    rcases passes ho n (by omega) with h | h
    · refine .inl ?_
      show passD W g (passD W g (foldTo (fun o _ => passD W g o) o n)) = passD W g (foldTo (fun o _ => passD W g o) o n)
      rw [h, h]
    · rcases pass_grow (W := W) (g := g) (o := passD W g (foldTo (fun o _ => passD W g o) o n)) (passD_lt hlt) with h' | h'
      · exact .inl h'
      · refine .inr ?_
        show n + 1 + 1 ≤ size16 (passD W g (passD W g (foldTo (fun o _ => passD W g o) o n)))
        omega
end
end Go.Ab.S

namespace Go.Ab.S
open Go Go.Ab Go.Proofs
attribute [local irreducible] SemS
set_option maxRecDepth 100000
theorem Pol.row_ext {p q : Pol} (h1 : p.live = q.live) (h2 : ∀ r, r < 16 → p.ls r = q.ls r) (h3 : ∀ r, r < 16 → p.li r = q.li r) (h4 : ∀ r, r < 16 → p.acts r = q.acts r) (h5 : ∀ r, r < 16 → p.own r = q.own r) (h6 : p.active = q.active) : p.row = q.row := by
  have e1 : labsR p.ls p.li = labsR q.ls q.li := by
    simp only [labsR]
    rw [h2 0 (by omega), h2 1 (by omega), h2 2 (by omega), h2 3 (by omega), h2 4 (by omega), h2 5 (by omega), h2 6 (by omega), h2 7 (by omega), h2 8 (by omega), h2 9 (by omega), h2 10 (by omega), h2 11 (by omega), h2 12 (by omega), h2 13 (by omega), h2 14 (by omega), h2 15 (by omega),
      h3 0 (by omega), h3 1 (by omega), h3 2 (by omega), h3 3 (by omega), h3 4 (by omega), h3 5 (by omega), h3 6 (by omega), h3 7 (by omega), h3 8 (by omega), h3 9 (by omega), h3 10 (by omega), h3 11 (by omega), h3 12 (by omega), h3 13 (by omega), h3 14 (by omega), h3 15 (by omega)]
  have e2 : actsR p.acts = actsR q.acts := by
    simp only [actsR]
    rw [h4 0 (by omega), h4 1 (by omega), h4 2 (by omega), h4 3 (by omega), h4 4 (by omega), h4 5 (by omega), h4 6 (by omega), h4 7 (by omega), h4 8 (by omega), h4 9 (by omega), h4 10 (by omega), h4 11 (by omega), h4 12 (by omega), h4 13 (by omega), h4 14 (by omega), h4 15 (by omega)]
  unfold Pol.row
  rw [h1, e1, e2, mrow_ext h5, h6]
def roleB (p : Pol) (r : Nat) : Bool := if p.live.testBit r then subB (p.ls r ||| p.li r) p.active && (subB (p.acts r) p.live && !(p.acts r).testBit r) else decide (p.ls r = 0) && (decide (p.li r = 0) && decide (p.acts r = 0))
end Go.Ab.S

namespace Go.Ab.S
open Go Go.Ab Go.Proofs
attribute [local irreducible] SemS
set_option maxRecDepth 100000
/-! ### Which policies may be -/
def all16 (f : Nat → Bool) : Bool := (List.range 16).all f
theorem all16_iff {f : Nat → Bool} : all16 f = true ↔ ∀ r, r < 16 → f r = true := by
  unfold all16
  rw [List.all_eq_true]
  exact ⟨fun h r hr => h r (by simpa using hr), fun h r hr => h r (by simpa using hr)⟩
theorem all16_t {f : Nat → Bool} (h : ∀ r, r < 16 → f r = true) : all16 f = true := all16_iff.2 h
theorem all16_at {f : Nat → Bool} (h : all16 f = true) {r : Nat} (hr : r < 16) : f r = true := all16_iff.1 h r hr
def ownB (p : Pol) (t : Nat) : Bool := decide (p.own t = 16) || (hasN p.live (p.own t) && p.active.testBit t)
def fineP (p : Pol) : Bool := all16 (roleB p) && all16 (ownB p)
end Go.Ab.S
