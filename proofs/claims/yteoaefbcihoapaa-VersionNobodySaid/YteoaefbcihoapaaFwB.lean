/- Literals, appends, conversions, slicings, held against the model's. No condition. Appends, held against the model's. No condition. Appends, ended. No condition. Appends, makes, slicings, conversions: the operations whole. No condition. Makes, slicings, conversions, lengths; then every operation. No condition. Every operation of the abstract evaluator, held against the model's. No condition. Every operation of the abstract evaluator but calls, held against the model's. No condition. What a piece of code does, said abstractly; each construct's rule. No condition. -/
import Derived.Test.YteoaefbcihoapaaFwA
import Derived.Laws.Concat
set_option linter.unusedSimpArgs false
set_option linter.unusedVariables false
namespace Go.Ab
open Go

section
variable {P : Program} {G : Gl} {φ : Pl} {H : Hp} {F : Cl} {w : World}

/-! ### Literals of structs and arrays -/

theorem fold_set : ∀ (us : List Value) (k off : Nat) (cs : Array Value), off + k + us.length ≤ cs.size →
    ((us.zipIdx k).foldl (fun cs (q : Value × Nat) => cs.setIfInBounds (off + q.2) q.1) cs).toList = putAt cs.toList (off + k) us
  | [], k, off, cs, _ => by simp [putAt]
  | u :: us, k, off, cs, h => by
    simp only [List.length_cons] at h
    rw [List.zipIdx_cons, List.foldl_cons, fold_set us (k + 1) off _ (by simp; omega)]
    have := list_seg_step cs.toList (off + k) u us (by simp; omega)
    simp only [Array.toList_setIfInBounds, putAt, List.length_cons]
    rw [show off + (k + 1) = off + k + 1 by omega, this]

theorem fill_step {place : Nat → Option (Nat × Nat)} {cells : Array Value} {i o n : Nat} {v : Value} {rest : List (Nat × Value)} (hp : place i = some (o, n)) (hn : v.cells.size = n) (hl : o + n ≤ cells.size) :
    Instr.fill place cells ((i, v) :: rest) = Instr.fill place (putAt cells.toList o v.cells.toList).toArray rest := by
  subst hn
  have hc : ¬ (o + v.cells.size > cells.size) := by omega
  simp only [Instr.fill, hp, ne_eq, not_true, decide_false, Bool.false_or, decide_eq_true_eq, hc, if_false]
  have := fold_set v.cells.toList 0 o cells (by simp; omega)
  rw [Nat.add_zero] at this
  rw [← this, if_neg (by simp)]
  congr 1
  rw [← Array.foldl_toList]
  simp

/-- Parts, one by one. -/
theorem fill_run {place : Nat → Option (Nat × Nat)} : ∀ {ps : List (Nat × Nat × AV)} {qs : List (Nat × Value)} {cs out : List C} {p : Bool} {cells : Array Value},
    F2 (fun (a : Nat × Nat × AV) (q : Nat × Value) => place q.1 = some (a.1, a.2.1) ∧ AR φ H F w a.2.2 q.2) ps qs → F2 (fun c x => CR φ H F w c x ∧ Flat x) cs cells.toList →
    fillS ps cs = some (p, out) → p = true → ∃ r, Instr.fill place cells qs = some r ∧ F2 (fun c x => CR φ H F w c x ∧ Flat x) out r.toList
  | [], _, cs, out, p, cells, .nil, hc, h, hp => by
    simp only [fillS, Option.some.injEq, Prod.mk.injEq] at h
    obtain ⟨_, rfl⟩ := h
    exact ⟨cells, rfl, hc⟩
  | (o, n, v) :: ps, _, cs, out, p, cells, .cons (b := (i, x)) ⟨hpl, hv⟩ ht, hc, h, hp => by
    simp only [fillS] at h
    split at h
    · rename_i us hu
      split at h
      · rename_i b o' hr
        simp only [Option.some.injEq, Prod.mk.injEq] at h
        obtain ⟨rfl, rfl⟩ := h
        simp only [Bool.and_eq_true, decide_eq_true_eq] at hp
        have hvc := hv.cells hu
        have h1 := hvc.len
        have h2 := hc.len
        simp only [Array.length_toList] at h1 h2
        have hpl' : place i = some (o, n) := hpl
        obtain ⟨r, hr1, hr2⟩ := fill_run (cells := (putAt cells.toList o x.cells.toList).toArray) ht (putAt_f2 hc hvc o) hr hp.1
        exact ⟨r, by rw [fill_step hpl' (by omega) (by omega)]; exact hr1, hr2⟩
      · cases h
    · cases h

theorem constC_rel {v : Value} {c : C} (h : constC v = some c) : CR φ H F w c v ∧ Flat v := by
  unfold constC at h
  split at h <;> simp only [Option.some.injEq, reduceCtorEq] at h <;> subst h
  · exact ⟨Rp.int _ _, rfl⟩
  · exact ⟨Rp.bool _, rfl⟩
  · exact ⟨Rp.str _, rfl⟩
  · exact ⟨rfl, rfl⟩
  · exact ⟨rfl, rfl⟩
  · exact ⟨Rp.nilf, rfl⟩

theorem constCs_rel : ∀ {vs : List Value} {cs : List C}, constCs vs = some cs → F2 (fun c x => CR φ H F w c x ∧ Flat x) cs vs
  | [], cs, h => by simp only [constCs, Option.some.injEq] at h; subst h; exact .nil
  | v :: vs, cs, h => by
    simp only [constCs] at h
    split at h
    · rename_i c cs' h1 h2
      simp only [Option.some.injEq] at h
      subst h
      exact .cons (constC_rel h1) (constCs_rel h2)
    · cases h

theorem constA_rel {v : Value} {a : AV} (h : constA v = some a) : AR φ H F w a v := by
  unfold constA at h
  split at h
  · rename_i cs
    split at h
    · rename_i l hl
      simp only [Option.some.injEq] at h
      subst h
      have := mkAgg_rel (constCs_rel (φ := φ) (H := H) (F := F) (w := w) hl)
      simpa using this
    · cases h
  · split at h
    · rename_i c hc
      simp only [Option.some.injEq] at h
      subst h
      have := constC_rel (φ := φ) (H := H) (F := F) (w := w) hc
      exact .ofCR this.1 this.2
    · cases h

theorem zeroCs_spec {t : TypeId} {z : List C} (h : zeroCs P t = some z) : ∃ i v, P.info? t = some i ∧ i.zero = some v ∧ constCs v.cells.toList = some z := by
  unfold zeroCs at h
  split at h
  · rename_i i hi
    split at h
    · rename_i v hv
      exact ⟨i, v, hi, hv, h⟩
    · cases h
  · cases h

theorem compParts_rel {place : Nat → Option (Nat × Nat)} {T : Tm} {ρ : Operand → Value} (hρ : ∀ a s, compA a = some s → AR φ H F w (evS G T s) (ρ a)) : ∀ {l : List (Nat × Operand)} {ps : List (Nat × Nat × SA)}, compParts place l = some ps →
    F2 (fun (a : Nat × Nat × AV) (q : Nat × Value) => place q.1 = some (a.1, a.2.1) ∧ AR φ H F w a.2.2 q.2) (ps.map fun q => (q.1, q.2.1, evS G T q.2.2)) (l.map fun q => (q.1, ρ q.2))
  | [], ps, h => by simp only [compParts, Option.some.injEq] at h; subst h; exact .nil
  | (i, a) :: l, ps, h => by
    simp only [compParts] at h
    split at h
    · rename_i o n x l' h1 h2 h3
      simp only [Option.some.injEq] at h
      subst h
      exact .cons ⟨h1, hρ _ _ h2⟩ (compParts_rel hρ h3)
    · cases h

theorem fieldPlaces_mapM : ∀ {fs : List Field} {pl : List (Nat × Nat)}, fieldPlaces P fs = some pl → fs.mapM (fun f => (P.info? f.type).map fun i => (f.offset, i.size)) = some pl
  | [], pl, h => by simp only [fieldPlaces, Option.some.injEq] at h; subst h; rfl
  | f :: fs, pl, h => by
    simp only [fieldPlaces] at h
    split at h
    · rename_i j l h1 h2
      simp only [Option.some.injEq] at h
      subst h
      simp [List.mapM_cons, h1, fieldPlaces_mapM h2]
    · cases h

theorem build_run {t : TypeId} {ps : Array (Nat × Operand)} {T : Tm} {ρ : Operand → Value} (hρ : ∀ a s, compA a = some s → AR φ H F w (evS G T s) (ρ a)) {z : List C} {l : List (Nat × Nat × SA)} (hc : compBuild P t ps.toList = some (.build z l)) {p : Bool} {out : List C}
    (h : fillS (l.map fun q => (q.1, q.2.1, evS G T q.2.2)) z = some (p, out)) (hp : p = true) :
    ∃ xv, (Instr.build t (ps.map fun (i, x) => (i, ρ x))).run P w = .ok xv w ∧ AR φ H F w (mkAgg out) xv := by
  have fin : ∀ (place : Nat → Option (Nat × Nat)) (i : TypeInfo) (v : Value), P.info? t = some i → i.zero = some v → constCs v.cells.toList = some z → compParts place ps.toList = some l →
      (∀ r, Instr.fill place v.cells (ps.toList.map fun q => (q.1, ρ q.2)) = some r → P.built t (ps.toList.map fun q => (q.1, ρ q.2)) = some r) →
      ∃ xv, (Instr.build t (ps.map fun (i, x) => (i, ρ x))).run P w = .ok xv w ∧ AR φ H F w (mkAgg out) xv := by
    intro place i v hi hz hcs hl hb
    obtain ⟨r, hr, hrel⟩ := fill_run (compParts_rel hρ hl) (constCs_rel hcs) h hp
    refine ⟨.agg r, run_build w t _ r ?_, by simpa using mkAgg_rel hrel⟩
    have := hb r hr
    simpa using this
  unfold compBuild at hc
  split at hc
  · rename_i z' fs hz hu
    split at hc
    · rename_i pl hpl
      split at hc
      · rename_i l' hl
        simp only [Option.some.injEq, SOp.build.injEq] at hc
        obtain ⟨rfl, rfl⟩ := hc
        obtain ⟨i, v, hi, hzv, hcs⟩ := zeroCs_spec hz
        refine fin _ i v hi hzv hcs hl fun r hr => ?_
        unfold Program.built
        simp only [hi, hu, hzv, fieldPlaces_mapM hpl]
        simpa using hr
      · cases hc
    · cases hc
  · rename_i z' n e hz hu
    split at hc
    · rename_i j hj
      split at hc
      · rename_i l' hl
        simp only [Option.some.injEq, SOp.build.injEq] at hc
        obtain ⟨rfl, rfl⟩ := hc
        obtain ⟨i, v, hi, hzv, hcs⟩ := zeroCs_spec hz
        refine fin _ i v hi hzv hcs hl fun r hr => ?_
        unfold Program.built
        simp only [hi, hu, hzv, hj]
        exact hr
      · cases hc
    · cases hc
  · cases hc

/-! ### A slice's literal -/

theorem litS_run {n : Nat} : ∀ {as : List AV} {es : List (List PV)} {H H' : Hp} {F : Cl} {p : Bool} {xs : List Value}, SRel G φ H F w → F2 (AR φ H F w) as xs → litS n H as = some (p, es, H') → p = true →
    ∃ F', Evo φ H F w φ H' F' w ∧ SRel G φ H' F' w ∧ F2 (fun r (x : Value) => F2 (Rp F' w) r x.cells.toList ∧ x.cells.size = n) es xs
  | [], es, H, H', F, p, xs, hS, hc, h, hp => by
    simp only [litS, Option.some.injEq, Prod.mk.injEq] at h
    obtain ⟨_, rfl, rfl⟩ := h
    cases hc
    exact ⟨F, Evo.refl φ H F w, hS, .nil⟩
  | c :: cs, es, H, H', F, p, _, hS, .cons hc ht, h, hp => by
    simp only [litS] at h
    split at h
    · rename_i b1 c1 H1 h1
      split at h
      · rename_i cs1 b2 r2 H2 hpu h2
        simp only [Option.some.injEq, Prod.mk.injEq] at h
        obtain ⟨rfl, rfl, rfl⟩ := h
        simp only [Bool.and_eq_true, decide_eq_true_eq] at hp
        obtain ⟨F1, E1, S1, C1⟩ := freezeA_run hS hc h1 hp.1.1
        obtain ⟨F2', E2, S2, C2⟩ := litS_run S1 (ht.imp fun _ _ q => q.evo E1) h2 hp.1.2
        have hr := pureA_rel C1 hpu
        refine ⟨F2', E1.trans E2, S2, .cons ⟨hr.imp fun _ _ q => q.keeps E2.kp, ?_⟩ C2⟩
        have := hr.len
        simp only [Array.length_toList] at this
        omega
      · cases h
    · cases h

/-- Parts side by side. -/
theorem fill_rows {n : Nat} (hn : 0 < n) : ∀ (xs : List Value) (k : Nat) (cells : Array Value), (∀ x ∈ xs, x.cells.size = n) → cells.size = (k + xs.length) * n →
    Instr.fill (fun i => some (i * n, n)) cells ((List.range' k xs.length).zip xs) = some ((cells.toList.take (k * n)) ++ xs.flatMap (fun x => x.cells.toList)).toArray
  | [], k, cells, _, hs => by
    simp only [List.length_nil, List.range'_zero, List.zip_nil_left, Instr.fill, List.flatMap_nil, List.append_nil, Option.some.injEq]
    rw [List.take_of_length_le (by simp [hs])]
  | x :: xs, k, cells, hx, hs => by
    have hx0 := hx x (by simp)
    simp only [List.length_cons] at hs
    have e1 : (k + (xs.length + 1)) * n = k * n + n + xs.length * n := by rw [Nat.add_mul, Nat.succ_mul]; omega
    have hpl : putAt cells.toList (k * n) x.cells.toList = cells.toList.take (k * n) ++ x.cells.toList ++ cells.toList.drop (k * n + n) := by simp [putAt, hx0]
    rw [List.length_cons, List.range'_succ, List.zip_cons_cons, fill_step (o := k * n) (n := n) rfl hx0 (by omega)]
    rw [fill_rows hn xs (k + 1) _ (fun y hy => hx y (by simp [hy])) (by
      have := putAt_len (cs := cells.toList) (us := x.cells.toList) (o := k * n) (by simp; omega)
      simp only [List.size_toArray, this, Array.length_toList, hs]
      congr 1
      omega)]
    have ht : (cells.toList.take (k * n)).length = k * n := by simp; omega
    have hl2 : (cells.toList.take (k * n) ++ x.cells.toList).length = (k + 1) * n := by rw [List.length_append, ht, Nat.succ_mul]; simp [hx0]
    rw [hpl, List.toList_toArray, ← hl2, List.take_left, List.flatMap_cons, List.append_assoc]

theorem compLit_spec {T : Tm} {ρ : Operand → Value} (hρ : ∀ a s, compA a = some s → AR φ H F w (evS G T s) (ρ a)) : ∀ {l : List (Nat × Operand)} {k : Nat} {ps : List SA}, compLit k l = some ps →
    (l.map fun q => (q.1, ρ q.2)) = (List.range' k ps.length).zip (l.map fun q => ρ q.2) ∧ F2 (AR φ H F w) (ps.map (evS G T)) (l.map fun q => ρ q.2)
  | [], k, ps, h => by simp only [compLit, Option.some.injEq] at h; subst h; exact ⟨rfl, .nil⟩
  | (i, a) :: l, k, ps, h => by
    simp only [compLit] at h
    split at h
    · rename_i x l' h1 h2 h3
      simp only [Option.some.injEq] at h
      subst h
      have hik : k = i := by simpa using h1
      subst hik
      obtain ⟨e1, e2⟩ := compLit_spec hρ h3
      refine ⟨?_, .cons (hρ _ _ h2) e2⟩
      simp only [List.map_cons, List.length_cons, List.range'_succ, List.zip_cons_cons, e1]
    · cases h

theorem rows_at {n : Nat} (hn : 0 < n) {es : List (List PV)} {xs : List Value} (h : F2 (fun r (x : Value) => F2 (Rp F w) r x.cells.toList ∧ x.cells.size = n) es xs) :
    ∀ {i : Nat} {r : List PV}, es[i]? = some r → r.length = n ∧ ∀ (j : Nat) (u : PV), r[j]? = some u → ∃ v, (xs.flatMap (fun x => x.cells.toList))[i * n + j]? = some v ∧ Rp F w u v := by
  induction h with
  | nil => intro i r h; simp at h
  | cons h t ih =>
    rename_i a b as bs
    intro i r hi
    have hbl : b.cells.toList.length = n := by simp [h.2]
    cases i with
    | zero =>
      simp at hi
      subst hi
      refine ⟨by rw [h.1.len, hbl], fun j u hj => ?_⟩
      obtain ⟨v, hv, hr⟩ := h.1.get hj
      refine ⟨v, ?_, hr⟩
      have : j < b.cells.toList.length := (List.getElem?_eq_some_iff.1 hv).1
      rw [List.flatMap_cons, List.getElem?_append_left (by omega), Nat.zero_mul, Nat.zero_add]
      exact hv
    | succ i =>
      obtain ⟨h1, h2⟩ := ih (by simpa using hi)
      refine ⟨h1, fun j u hj => ?_⟩
      obtain ⟨v, hv, hr⟩ := h2 j u hj
      refine ⟨v, ?_, hr⟩
      rw [List.flatMap_cons, List.getElem?_append_right (by rw [hbl, Nat.succ_mul]; omega), hbl, show (i + 1) * n + j - n = i * n + j by rw [Nat.succ_mul]; omega]
      exact hv

theorem litZ_spec {z : List C} {k : Nat} {pre : List SA} (h : litZ z k = some pre) : ∃ zs : List PV, pre = List.replicate k (.v (.agg zs)) ∧ (0 < k → pureZ z = some zs) := by
  cases k with
  | zero =>
    simp only [litZ, Option.some.injEq] at h
    exact ⟨[], by rw [← h]; rfl, fun h => by omega⟩
  | succ k =>
    simp only [litZ] at h
    split at h
    · rename_i zs hzs
      simp only [Option.some.injEq] at h
      exact ⟨zs, h.symm, fun _ => hzs⟩
    · cases h
theorem f2_rep {α β : Type} {R : α → β → Prop} {a : α} {b : β} (h : R a b) : ∀ k, F2 R (List.replicate k a) (List.replicate k b)
  | 0 => .nil
  | k + 1 => .cons h (f2_rep h k)
theorem zero_rows {v : Array Value} {n k m : Nat} (hn : 0 < n) (hv : v.size = n) (hk : k ≤ m) :
    ((Array.range (m * n)).map (v[· % v.size]!)).toList.take (k * n) = (List.replicate k (Value.agg v)).flatMap (fun x => x.cells.toList) := by
  have hlen : ∀ k, ((List.replicate k (Value.agg v)).flatMap (fun x => x.cells.toList)).length = k * n := by
    intro k
    induction k with
    | zero => simp
    | succ k ih => rw [List.replicate_succ, List.flatMap_cons, List.length_append, ih, Nat.succ_mul]; simp [Value.cells, hv]; omega
  have hget : ∀ k j, j < k * n → ((List.replicate k (Value.agg v)).flatMap (fun x => x.cells.toList))[j]? = v.toList[j % n]? := by
    intro k
    induction k with
    | zero => intro j h; simp at h
    | succ k ih =>
      intro j h
      rw [List.replicate_succ, List.flatMap_cons]
      have hcl : (Value.agg v).cells.toList.length = n := by simp [Value.cells, hv]
      by_cases hj : j < n
      · rw [List.getElem?_append_left (by omega), Nat.mod_eq_of_lt hj]; rfl
      · rw [List.getElem?_append_right (by omega), hcl, ih (j - n) (by rw [Nat.succ_mul] at h; omega)]
        rw [Nat.mod_eq_sub_mod (a := j) (by omega)]
  refine List.ext_getElem? fun j => ?_
  by_cases hj : j < k * n
  · rw [hget k j hj, List.getElem?_take_of_lt hj]
    have hm : j < m * n := Nat.lt_of_lt_of_le hj (Nat.mul_le_mul_right _ hk)
    have hmod : j % n < v.size := by rw [hv]; exact Nat.mod_lt _ hn
    simp [hm, hv]
    rw [Array.getElem!_eq_getD, Array.getD_eq_getD_getElem?, Array.getElem?_eq_getElem (by omega)]
    rfl
  · rw [List.getElem?_eq_none (by rw [List.length_take]; omega), List.getElem?_eq_none (by rw [hlen]; omega)]

theorem lit_run (hS : SRel G φ H F w) {t e : TypeId} {i : TypeInfo} {z : List C} {len : Nat} {ps : Array (Nat × Operand)} {T : Tm} {ρ : Operand → Value} (hρ : ∀ a s, compA a = some s → AR φ H F w (evS G T s) (ρ a)) {l pre : List SA}
    (ht : P.underlying t = some (.slice e)) (hi : P.info? e = some i) (hz : zeroCs P e = some z) (hl : compLit (litK ps.toList) ps.toList = some l) (hpre : litZ z (litK ps.toList) = some pre) (hd : 0 < i.size ∧ (pre ++ l).length = len ∧ len * i.size ≤ 2 ^ 24 ∧ z.length = i.size)
    {p : Bool} {es : List (List PV)} {H' : Hp} (h : litS i.size H ((pre ++ l).map (evS G T)) = some (p, es, H')) (hp : p = true) :
    ∃ xv w' F', (Instr.buildSlice t len (ps.map fun (i, x) => (i, ρ x))).run P w = .ok xv w' ∧ Evo φ H F w φ H' F' w' ∧ SRel G φ H' F' w' ∧ AR φ H' F' w' (.c (.ti es)) xv := by
  obtain ⟨h0, h1, h2, h3⟩ := hd
  obtain ⟨zs, rfl, hzs⟩ := litZ_spec hpre
  generalize hk : litK ps.toList = k at *
  obtain ⟨e1, e2⟩ := compLit_spec hρ hl
  obtain ⟨i', v, hi', hzv, hcs⟩ := zeroCs_spec hz
  rw [hi] at hi'
  cases hi'
  have hzr := constCs_rel (φ := φ) (H := H) (F := F) (w := w) hcs
  have hvs : v.cells.size = i.size := by have := hzr.len; simp at this; omega
  have hpr : F2 (AR φ H F w) ((List.replicate k (SA.v (.agg zs))).map (evS G T)) (List.replicate k (Value.agg v.cells)) := by
    rw [List.map_replicate]
    cases k with
    | zero => exact .nil
    | succ k =>
      have := pureZ_f2 (hzs (by omega)) hzr
      have ha : AR φ H F w (.agg zs) (.agg v.cells) := by
        have := AR.one (φ := φ) (H := H) (F := F) (w := w) (AR1.agg this)
        simpa using this
      exact f2_rep ha _
  have e2' : F2 (AR φ H F w) ((List.replicate k (SA.v (.agg zs)) ++ l).map (evS G T)) (List.replicate k (Value.agg v.cells) ++ ps.toList.map fun q => ρ q.2) := by
    rw [List.map_append]; exact hpr.app e2
  obtain ⟨F1, E1, S1, C1⟩ := litS_run hS e2' h hp
  have hxl : (ps.toList.map fun q => ρ q.2).length = l.length := by have := e2.len; simp only [List.length_map] at this ⊢; omega
  have hlen : k + l.length = len := by simpa using h1
  have hall : ∀ x ∈ (ps.toList.map fun q => ρ q.2), x.cells.size = i.size := by
    intro x hx
    obtain ⟨j, hj⟩ := List.getElem?_of_mem hx
    have hlt := (List.getElem?_eq_some_iff.1 hj).1
    have hj' : (List.replicate k (Value.agg v.cells) ++ ps.toList.map fun q => ρ q.2)[k + j]? = some x := by
      rw [List.getElem?_append_right (by simp), List.length_replicate, show k + j - k = j by omega]; exact hj
    have hes : k + j < es.length := by rw [C1.len, List.length_append, List.length_replicate]; omega
    obtain ⟨b, hb, _, hq⟩ := C1.get (List.getElem?_eq_getElem hes)
    rw [hj'] at hb
    cases hb
    exact hq
  have hsize : ((Array.range (len * i.size)).map (v.cells[· % v.cells.size]!)).size = (k + (ps.toList.map fun q => ρ q.2).length) * i.size := by simp only [Array.size_map, Array.size_range, hxl, hlen]
  have hfill := fill_rows h0 (ps.toList.map fun q => ρ q.2) k _ hall hsize
  rw [zero_rows h0 hvs (by omega), ← List.flatMap_append] at hfill
  rw [hxl, ← e1] at hfill
  generalize hX : (List.replicate k (Value.agg v.cells) ++ ps.toList.map fun q => ρ q.2).flatMap (fun x => x.cells.toList) = X at *
  have hmap : (ps.map fun (i, x) => (i, ρ x)).toList = ps.toList.map fun q => (q.1, ρ q.2) := by simp
  have hbig : ¬ (len * i.size > 2 ^ 24) := by omega
  have hrun : (Instr.buildSlice t len (ps.map fun (i, x) => (i, ρ x))).run P w = .ok (.slice (some ⟨w.heap.size, 0, none⟩) len len) (w.alloc (.cells X.toArray e)) := by
    simp only [Instr.buildSlice, Sem.run_bind, run_underlying ht, Result.andThen_ok, sizeOf, typeInfo, run_program, hi, Sem.run_pure, Sem.run_ite, hbig, if_false, hmap]
    by_cases hc : len * i.size = 0
    · have : ∀ g : Nat → Value, (Array.range (len * i.size)).map g = (Array.range (len * i.size)).map (v.cells[· % v.cells.size]!) := by
        intro g; simp [hc]
      simp only [hc, if_true]
      rw [hc] at this hfill
      rw [this, hfill]
      simp [newRow]
    · simp [hc, zeroValue, typeInfo, hi, hzv, hfill, newRow]
  have G1 : Grown w (w.alloc (.cells X.toArray e)) (.cells X.toArray e (0, 0)) := Grown.alloc w _
  obtain ⟨E2, S2⟩ := snd_frozen S1 G1
  have hes : es.length = len := by have := C1.len; rw [List.length_append, List.length_replicate] at this; omega
  refine ⟨_, _, _, hrun, E1.trans E2, S2, .ofCR ⟨some ⟨w.heap.size, 0, none⟩, by rw [hes], ?_⟩ rfl⟩
  · refine .inr ⟨w.heap.size, 0, i.size, rfl, h0, fun k r hr => ?_⟩
    obtain ⟨q1, q2⟩ := rows_at h0 C1 hr
    rw [hX] at q2
    refine ⟨q1, fun j u hj => ⟨.inr rfl, ?_⟩⟩
    obtain ⟨x, hx, hrel⟩ := q2 j u hj
    exact ⟨x, by rw [Nat.zero_add]; simp only [World.cell?, G1.new]; simpa using hx, hrel.keeps E2.kp⟩
theorem flat_cells {x : Value} (h : Flat x) : x.cells = #[x] := by
  cases x <;> first | rfl | cases h
theorem ptrs1_rel : ∀ {vs : List AV} {xs : List Value} {cs : List C}, F2 (AR φ H F w) vs xs → ptrs1 vs = some cs → F2 (fun c x => CR φ H F w c x ∧ Flat x) cs xs
  | [], _, cs, .nil, h => by
    simp only [ptrs1, Option.some.injEq] at h
    subst h
    exact .nil
  | v :: vs, _, cs, .cons hv ht, h => by
    unfold ptrs1 at h
    split at h
    · cases ‹v :: vs = []›
    · rename_i r e
      cases e
      split at h
      · rename_i l hl
        simp only [Option.some.injEq] at h
        subst h
        exact .cons hv.cc (ptrs1_rel ht hl)
      · cases h
    · rename_i id o r e
      cases e
      split at h
      · rename_i l hl
        simp only [Option.some.injEq] at h
        subst h
        exact .cons hv.cc (ptrs1_rel ht hl)
      · cases h
    · cases h
theorem litP_run (hS : SRel G φ H F w) {t e : TypeId} {i : TypeInfo} {z : List C} {len : Nat} {ps : Array (Nat × Operand)} {T : Tm} {ρ : Operand → Value} (hρ : ∀ a s, compA a = some s → AR φ H F w (evS G T s) (ρ a)) {l pre : List SA}
    (ht : P.underlying t = some (.slice e)) (hi : P.info? e = some i) (hz : zeroCs P e = some z) (hl : compLit (litK ps.toList) ps.toList = some l) (hpre : litZ z (litK ps.toList) = some pre) (hd : 0 < i.size ∧ (pre ++ l).length = len ∧ len * i.size ≤ 2 ^ 24 ∧ z.length = i.size)
    {res : Res} (h : litP i.size H ((pre ++ l).map (evS G T)) = some res) :
    ∃ xv w' φ', (Instr.buildSlice t len (ps.map fun (i, x) => (i, ρ x))).run P w = .ok xv w' ∧ Evo φ H F w φ' res.h F w' ∧ SRel G φ' res.h F w' ∧ AR φ' res.h F w' res.v xv := by
  obtain ⟨h0, h1, h2, h3⟩ := hd
  obtain ⟨zs, rfl, hzs⟩ := litZ_spec hpre
  generalize hk : litK ps.toList = k at *
  obtain ⟨e1, e2⟩ := compLit_spec hρ hl
  obtain ⟨i', v, hi', hzv, hcs⟩ := zeroCs_spec hz
  rw [hi] at hi'
  cases hi'
  have hzr := constCs_rel (φ := φ) (H := H) (F := F) (w := w) hcs
  have hvs : v.cells.size = i.size := by have := hzr.len; simp at this; omega
  unfold litP at h
  split at h
  · rename_i cs hone hp
    have hone : i.size = 1 := by simpa using hone
    simp only [Option.some.injEq] at h
    subst h
    have hk0 : k = 0 := by
      cases k with
      | zero => rfl
      | succ k => simp [List.replicate_succ, evS, ptrs1] at hp
    subst hk0
    rw [List.replicate_zero, List.nil_append] at hp h1
    have C1 := ptrs1_rel e2 hp
    generalize hxs : (ps.toList.map fun q => ρ q.2) = xs at *
    have hxl : xs.length = l.length := by have := e2.len; simp only [List.length_map] at this; omega
    have hcl : cs.length = l.length := by have := C1.len; omega
    have hflat : ∀ x ∈ xs, x.cells = #[x] := by
      intro x hx
      obtain ⟨j, hj⟩ := List.getElem?_of_mem hx
      have hlt := (List.getElem?_eq_some_iff.1 hj).1
      have hes : j < cs.length := by omega
      obtain ⟨b, hb, _, hq⟩ := C1.get (List.getElem?_eq_getElem hes)
      rw [hj] at hb
      cases hb
      exact flat_cells hq
    have hall : ∀ x ∈ xs, x.cells.size = i.size := fun x hx => by rw [hflat x hx, hone]; rfl
    have hX : xs.flatMap (fun x => x.cells.toList) = xs := by
      clear hall C1 hxl hcl hxs e1 e2
      induction xs with
      | nil => rfl
      | cons x xs ih =>
        rw [List.flatMap_cons, hflat x (by simp), ih fun y hy => hflat y (by simp [hy])]
        rfl
    have hsize : ((Array.range (len * i.size)).map (v.cells[· % v.cells.size]!)).size = (0 + xs.length) * i.size := by simp only [Array.size_map, Array.size_range, hxl, h1, Nat.zero_add]
    have hfill := fill_rows h0 xs 0 _ hall hsize
    rw [zero_rows (k := 0) h0 hvs (by omega), ← List.flatMap_append, List.replicate_zero, List.nil_append, hX] at hfill
    rw [hxl, ← e1] at hfill
    have hmap : (ps.map fun (i, x) => (i, ρ x)).toList = ps.toList.map fun q => (q.1, ρ q.2) := by simp
    have hbig : ¬ (len * i.size > 2 ^ 24) := by omega
    have hrun : (Instr.buildSlice t len (ps.map fun (i, x) => (i, ρ x))).run P w = .ok (.slice (some ⟨w.heap.size, 0, none⟩) len len) (w.alloc (.cells xs.toArray e)) := by
      simp only [Instr.buildSlice, Sem.run_bind, run_underlying ht, Result.andThen_ok, sizeOf, typeInfo, run_program, hi, Sem.run_pure, Sem.run_ite, hbig, if_false, hmap]
      by_cases hc : len * i.size = 0
      · have : ∀ g : Nat → Value, (Array.range (len * i.size)).map g = (Array.range (len * i.size)).map (v.cells[· % v.cells.size]!) := by
          intro g; simp [hc]
        simp only [hc, if_true]
        rw [hc] at this hfill
        rw [this, hfill]
        simp [newRow]
      · simp [hc, zeroValue, typeInfo, hi, hzv, hfill, newRow]
    have G1 : Grown w (w.alloc (.cells xs.toArray e)) (.cells xs.toArray e (0, 0)) := Grown.alloc w _
    obtain ⟨E, S, -⟩ := snd_row hS G1 (a := .mg cs) (b := .mrow cs) rfl (.inr (.inl ⟨cs, rfl, C1⟩))
    exact ⟨_, _, _, hrun, E, S, .ofCR ⟨.mrow cs, w.heap.size, Hp.get_add_new, rfl, newφ_new, by rw [hcl, h1]⟩ rfl⟩
  · cases h
end
end Go.Ab

namespace Go.Ab
open Go

section
variable {P : Program} {G : Gl} {φ : Pl} {H : Hp} {F : Cl} {w : World}

theorem allPure_of_map (es : List PV) : allPure (es.map .p) = some es := by
  induction es with
  | nil => rfl
  | cons a es ih => simp [allPure, ih]

/-- The cells of a slice's elements, one after the other. -/
theorem slAt_flat {es : List (List PV)} {a : Option Addr} (h : SlAt F w es a) {sz : Nat} (hsz : ∀ r ∈ es, r.length = sz) (hne : es ≠ []) : ∃ b o, a = some ⟨b, o, none⟩ ∧
    ∃ xs : List Value, F2 (Rp F w) es.flatten xs ∧ xs.length = es.length * sz ∧ ∀ (j : Nat) (v : Value), xs[j]? = some v → w.cell? ⟨b, o + j, none⟩ = some v := by
  rcases h with h | ⟨b, o, s, rfl, hs, hr⟩
  · exact absurd h hne
  · have hss : s = sz := by
      cases es with
      | nil => exact absurd rfl hne
      | cons r es => have := (hr 0 r rfl).1; have := hsz r (by simp); omega
    subst hss
    refine ⟨b, o, rfl, ?_⟩
    clear hne
    induction es generalizing o with
    | nil => exact ⟨[], .nil, by simp, fun j v h => by simp at h⟩
    | cons r es ih =>
      obtain ⟨h1, h2⟩ := hr 0 r rfl
      obtain ⟨xs, x1, x2⟩ := h2.atC.list
      obtain ⟨ys, y1, y2, y3⟩ := ih (o + s) (fun i q hq => by
        have := hr (i + 1) q (by simpa using hq)
        rwa [show o + s + i * s = o + (i + 1) * s by rw [Nat.succ_mul]; omega]) (fun q hq => hsz q (by simp [hq]))
      have hxl : xs.length = s := by rw [← x1.len, h1]
      refine ⟨xs ++ ys, by simpa using x1.app y1, by simp [hxl, y2, Nat.succ_mul]; omega, fun j v hj => ?_⟩
      rw [List.getElem?_append] at hj
      split at hj
      · have := x2 j v hj
        simpa using this
      · have := y3 _ v hj
        rwa [hxl, show o + s + (j - s) = o + j by omega] at this

/-- What an append's source gives. -/
structure Src (P : Program) (w : World) (u : TypeId) (sz : Nat) (x : Value) (n : Nat) (news : List Value) : Prop where
  len : (Builtin.lenOf x).run P w = .ok n w
  cells : (Builtin.firstCells sz n x).run P w = .ok news.toArray w
  cells' : (Builtin.firstCells sz n x).run P w.drew = .ok news.toArray w.drew
  slice : (∃ d, P.underlying u = some (.slice d)) ∨ P.underlying u = some .string

theorem src_slice {u e : TypeId} (hu : P.underlying u = some (.slice e)) {sz : Nat} {es : List (List PV)} {a : Option Addr} {cap : Nat} (h : SlAt F w es a) (hsz : ∀ r ∈ es, r.length = sz) :
    ∃ news, Src P w u sz (.slice a es.length cap) es.length news ∧ F2 (Rp F w) es.flatten news := by
  by_cases hne : es = []
  · subst hne
    refine ⟨[], ⟨by simp [Builtin.lenOf], ?_, ?_, .inl ⟨_, hu⟩⟩, .nil⟩
    · cases a <;> simp [Builtin.firstCells, loadCells, loadCellsFrom]
    · cases a <;> simp [Builtin.firstCells, loadCells, loadCellsFrom]
  · obtain ⟨b, o, rfl, xs, x1, x2, x3⟩ := slAt_flat h hsz hne
    have hc : ∀ (w' : World), (∀ o, w'.cell? ⟨b, o, none⟩ = w.cell? ⟨b, o, none⟩) → (Builtin.firstCells sz es.length (.slice (some ⟨b, o, none⟩) es.length cap)).run P w' = .ok xs.toArray w' := by
      intro w' hw
      have := run_loadCells_list (P := P) w' ⟨b, o, none⟩ xs (fun j v hv => by rw [Addr.add_lit, hw]; exact x3 j v hv)
      rw [x2] at this
      simp only [Builtin.firstCells]
      exact this
    exact ⟨xs, ⟨by simp [Builtin.lenOf], hc w fun _ => rfl, hc w.drew fun _ => rfl, .inl ⟨_, hu⟩⟩, x1⟩

theorem src_str {u : TypeId} (hu : P.underlying u = some .string) (s : ByteArray) :
    ∃ news, Src P w u 1 (.string s) s.size news ∧ F2 (Rp F w) (bytesOf s.data.toList).flatten news := by
  refine ⟨s.data.toList.map fun b => .int .u8 b.toNat, ⟨by simp [Builtin.lenOf], ?_, ?_, .inr hu⟩, ?_⟩
  · simp only [Builtin.firstCells, Sem.run_pure]
    congr 1
    apply Array.ext'
    simp [ByteArray.data_extract]
  · simp only [Builtin.firstCells, Sem.run_pure]
    congr 1
    apply Array.ext'
    simp [ByteArray.data_extract]
  · unfold bytesOf
    induction s.data.toList with
    | nil => exact .nil
    | cons b l ih => simpa using F2.cons (Rp.int _ _) ih

theorem run_app_room {t u ty e : TypeId} {i : TypeInfo} (ht : P.underlying t = some (.slice e)) (hi : P.info? e = some i) {x : Value} {n : Nat} {news : List Value} (hx : Src P w u i.size x n news)
    {g sLen sCap : Nat} {cur : Array Value} {ee : TypeId} (hg : w.heap[g]? = some (.cells cur ee (0, 0))) (hf : ∀ v ∈ news, Flat v) (hroom : sLen + n ≤ sCap) (hfit : sLen * i.size + news.length ≤ cur.size) :
    (Builtin.append_ #[t, u] ty #[.slice (some ⟨g, 0, none⟩) sLen sCap, x]).run P w = .ok (.slice (some ⟨g, 0, none⟩) (sLen + n) sCap) (w.setRow g (putAt cur.toList (sLen * i.size) news).toArray) := by
  have hst := run_storeCells_at P g (sLen * i.size) ee news 0 cur w hg (by simpa using hfit) hf
  simp only [Nat.add_zero] at hst
  obtain ⟨h1, h2, _, ⟨d, hd⟩ | hd⟩ := hx <;> simp [Builtin.append_, run_underlying ht, run_underlying hd, sizeOf, typeInfo, hi, h1, hroom, h2, Addr.add_lit, hst, putAt]

theorem run_app_zero {t u ty e : TypeId} {i : TypeInfo} (ht : P.underlying t = some (.slice e)) (hi : P.info? e = some i) {x : Value} {news : List Value} (hx : Src P w u i.size x 0 news) (hn : news = []) (a : Option Addr) (sLen : Nat) :
    (Builtin.append_ #[t, u] ty #[.slice a sLen sLen, x]).run P w = .ok (.slice a sLen sLen) w := by
  subst hn
  obtain ⟨h1, h2, _, ⟨d, hd⟩ | hd⟩ := hx <;> cases a <;> simp [Builtin.append_, run_underlying ht, run_underlying hd, sizeOf, typeInfo, hi, h1, h2, storeCells]

theorem run_app_grow {t u ty e : TypeId} {i : TypeInfo} {z : Value} (ht : P.underlying t = some (.slice e)) (hi : P.info? e = some i) (hz : i.zero = some z) {x : Value} {n : Nat} {news : List Value} (hx : Src P w u i.size x n news)
    {a : Option Addr} {sLen sCap : Nat} {olds : List Value} (ho : (Builtin.firstCells i.size sLen (.slice a sLen sCap)).run P w.drew = .ok olds.toArray w.drew)
    (hg : sCap < sLen + n) (h63 : ((sLen + n : Nat) : Int) ≤ 9223372036854775807) (hfit : (sLen + n) * i.bytes ≤ 140737488355328) :
    ∃ cap, sLen + n ≤ cap ∧ cap ≤ maxLen ∧ (Builtin.append_ #[t, u] ty #[.slice a sLen sCap, x]).run P w =
      .ok (.slice (some ⟨w.heap.size, 0, none⟩) (sLen + n) cap) (w.drew.alloc (.cells (olds ++ news ++ (Builtin.zeroCells z.cells (cap - (sLen + n))).toList).toArray e)) := by
  have hn : ¬ (sLen + n ≤ sCap) := by omega
  have h63' : ¬ (9223372036854775807 < ((sLen : Int) + (n : Int))) := by omega
  have h48 := growslice_fits (need := sLen + n) (old := sCap) hg hfit
  have h48' : ¬ (281474976710656 < Builtin.nextslicecap (sLen + n) sCap * i.bytes) := by omega
  obtain ⟨h1, _, h2, hdd⟩ := hx
  refine ⟨grownCap w (sLen + n) sCap e, grownCap_ge w _ _ _, grownCap_le_maxLen w _ _ _ (by simp only [maxLen]; omega), ?_⟩
  have hR : (olds ++ news ++ (Builtin.zeroCells z.cells (grownCap w (sLen + n) sCap e - (sLen + n))).toList).toArray = olds.toArray ++ news.toArray ++ Builtin.zeroCells z.cells (grownCap w (sLen + n) sCap e - (sLen + n)) := by
    apply Array.ext'; simp
  rw [hR]
  rcases hdd with ⟨d, hd⟩ | hd <;> simp [Builtin.append_, run_underlying ht, run_underlying hd, sizeOf, typeInfo, zeroValue, hi, hz, h1, hn, h63', h48', Question.forced, h2, ho, newRow, grownCap]
  all_goals
    congr 2
    apply Array.ext'
    simp
end
end Go.Ab

namespace Go.Ab
open Go

section
variable {P : Program} {G : Gl} {φ φ' : Pl} {H H' : Hp} {F F' : Cl} {w w' : World}

/-- One block is made anew; the others stay. -/
theorem srel_upd (hS : SRel G φ H F w) (E : Evo φ H F w φ' H' F' w') (id : Id) (hH : ∀ i b, H'.get i = some b → i ≠ id → H.get i = some b) (hφ : ∀ i, i ≠ id → φ' i = φ i)
    (hdom : ∀ r, φ' id = some r → r < w'.heap.size) (hhas : (H'.get id).isSome) (hw : ∀ i r, i ≠ id → φ i = some r → w'.heap[r]? = w.heap[r]?)
    (hF : ∀ i r o, i ≠ id → φ i = some r → (F' r o ↔ F r o)) (hb : ∀ b, H'.get id = some b → BR φ' H' F' w' id b) (hfin : ∀ b o, F' b o → b < w'.heap.size) : SRel G φ' H' F' w' := by
  refine ⟨fun i j r hi hj => ?_, fun i r h => ?_, fun i r h => ?_, fun i b h => ?_, fun g cs h => (hS.glob g cs h).keeps E.kp, hfin⟩
  · have cross : ∀ i, i ≠ id → φ' i = some r → φ' id = some r → i = id := by
      intro i hne h1 h2
      rw [hφ i hne] at h1
      rcases E.new id r h2 with h | h
      · exact hS.inj i id r h1 h
      · have := hS.dom i r h1; omega
    by_cases h1 : i = id
    · by_cases h2 : j = id
      · rw [h1, h2]
      · subst h1; exact (cross j h2 hj hi).symm
    · by_cases h2 : j = id
      · subst h2; exact cross i h1 hi hj
      · rw [hφ i h1] at hi; rw [hφ j h2] at hj; exact hS.inj i j r hi hj
  · by_cases h1 : i = id
    · subst h1; exact hdom r h
    · rw [hφ i h1] at h; have := hS.dom i r h; have := E.size; omega
  · by_cases h1 : i = id
    · subst h1; exact hhas
    · rw [hφ i h1] at h
      obtain ⟨b, hb⟩ := Option.isSome_iff_exists.1 (hS.has i r h)
      obtain ⟨b', hb', _⟩ := E.be i b hb
      simp [hb']
  · by_cases h1 : i = id
    · subst h1; exact hb b h
    · have h' := hH i b h h1
      exact BR.evo E (hφ i h1) (fun r hr => hw i r h1 hr) (fun r o hr => hF i r o h1 hr) (hS.blk i b h')

theorem f2_at {sz : Nat} {es : List (List PV)} {xs : List Value} (h : F2 (Rp F w) es.flatten xs) (hsz : ∀ r ∈ es, r.length = sz) : ∀ {i : Nat} {q : List PV} {j : Nat} {u : PV}, es[i]? = some q → q[j]? = some u → ∃ x, xs[i * sz + j]? = some x ∧ Rp F w u x := by
  intro i q j u hq hu
  have : es.flatten[i * sz + j]? = some u := by
    clear h
    induction es generalizing i with
    | nil => simp at hq
    | cons r es ih =>
      have hr := hsz r (by simp)
      cases i with
      | zero =>
        simp at hq; subst hq
        have hj : j < r.length := (List.getElem?_eq_some_iff.1 hu).1
        rw [List.flatten_cons, Nat.zero_mul, Nat.zero_add, List.getElem?_append_left hj]
        exact hu
      | succ i =>
        have := ih (fun r hr => hsz r (by simp [hr])) (i := i) (by simpa using hq)
        rw [List.flatten_cons, List.getElem?_append_right (by rw [hr, Nat.succ_mul]; omega), hr, show (i + 1) * sz + j - sz = i * sz + j by rw [Nat.succ_mul]; omega]
        exact this
  exact h.get this

theorem flat_len {sz : Nat} {es : List (List PV)} (hsz : ∀ r ∈ es, r.length = sz) : es.flatten.length = es.length * sz := by
  induction es with
  | nil => simp
  | cons r es ih => rw [List.flatten_cons, List.length_append, hsz r (by simp), ih fun r hr => hsz r (by simp [hr])]; simp [Nat.succ_mul]; omega

theorem rows_of {sz : Nat} {es : List (List PV)} (h : ∀ (i : Nat) (r : List PV), es[i]? = some r → r.length = sz) : ∀ r ∈ es, r.length = sz := fun r hr => by
  obtain ⟨i, hi⟩ := List.getElem?_of_mem hr
  exact h i r hi

theorem of_rows {sz : Nat} {es : List (List PV)} (h : ∀ r ∈ es, r.length = sz) : ∀ (i : Nat) (r : List PV), es[i]? = some r → r.length = sz := fun i r hr => h r (List.mem_of_getElem? hr)

/-- An empty owner without memory. -/
theorem new_virtual (hS : SRel G φ H F w) {sz : Nat} (h0 : 0 < sz) (a : Option Addr) : Evo φ H F w φ (H.add (.arr sz false [])) F w ∧ SRel G φ (H.add (.arr sz false [])) F w ∧ AR φ (H.add (.arr sz false [])) F w (.c (.os H.nid 0)) (.slice a 0 0) := by
  have E : Evo φ H F w φ (H.add (.arr sz false [])) F w := { Evo.refl φ H F w with be := fun id b h => ⟨b, Hp.get_add_old h, BE.refl φ id b⟩, npar := rfl }
  refine ⟨E, srel_upd hS E H.nid (fun i b h hne => ?_) (fun _ _ => rfl) (fun r h => by rw [no_phi_nid hS] at h; cases h) (by rw [Hp.get_add_new]; rfl) (fun _ _ _ _ => rfl) (fun _ _ _ _ _ => Iff.rfl) (fun b h => ?_) hS.fin,
    .ofCR ⟨sz, false, [], Hp.get_add_new, Nat.le_refl _, fun _ => .inl ⟨rfl, a, rfl⟩⟩ rfl⟩
  · rcases Hp.get_add_cases h with h | ⟨h, _⟩
    · exact h
    · exact absurd h hne
  · rw [Hp.get_add_new] at h
    cases h
    exact ⟨h0, fun i r h => by simp at h, .inl ⟨no_phi_nid hS, rfl⟩⟩

/-- An owner with new memory. -/
theorem new_owner (hS : SRel G φ H F w) {w' : World} {e : TypeId} {xs zs : List Value} {sz cap : Nat} {es : List (List PV)} (hG : Grown w w' (.cells (xs ++ zs).toArray e)) (h0 : 0 < sz) (hsz : ∀ r ∈ es, r.length = sz) (hx : F2 (Rp F w) es.flatten xs)
    (hc : es.length ≤ cap) (hm : cap ≤ maxLen) (hz : (xs ++ zs).length = cap * sz) :
    Evo φ H F w (newφ φ H w.heap.size) (H.add (.arr sz false es)) F w' ∧ SRel G (newφ φ H w.heap.size) (H.add (.arr sz false es)) F w' ∧
      AR (newφ φ H w.heap.size) (H.add (.arr sz false es)) F w' (.c (.os H.nid es.length)) (.slice (some ⟨w.heap.size, 0, none⟩) es.length cap) := by
  have E := evo_new hS hG (.arr sz false es) F (fun _ _ h => h) (fun _ _ h => .inl h)
  have hnF : ∀ o, ¬ F w.heap.size o := fun o f => by have := hS.fin _ _ f; omega
  have hxl := hx.len
  rw [flat_len hsz] at hxl
  refine ⟨E, srel_new hS hG _ F (fun _ _ h => h) (fun _ _ h => .inl h) ⟨h0, of_rows hsz, .inr ⟨w.heap.size, (xs ++ zs).toArray, newφ_new, ⟨e, hG.new⟩, ⟨cap, by simpa using hz, hm⟩, ?_, fun o f => absurd f (hnF o), (fun h => by cases h), fun i q j u hq hu => ?_⟩⟩,
    .ofCR ⟨sz, false, es, Hp.get_add_new, Nat.le_refl _, fun _ => .inr ⟨w.heap.size, cap, e, cap * sz, newφ_new, rfl, hc, hm, ?_, rfl⟩⟩ rfl⟩
  · simp only [List.size_toArray, List.length_append]; omega
  · obtain ⟨x, hx', hr⟩ := f2_at hx hsz hq hu
    refine ⟨x, ?_, hr.keeps E.kp⟩
    have := (List.getElem?_eq_some_iff.1 hx').1
    rw [List.getElem?_toArray, List.getElem?_append_left this]
    exact hx'
  · simp only [World.shape?, hG.new, List.size_toArray, hz]

/-- An owner grows in place. -/
theorem grow_here (hS : SRel G φ H F w) {id : Id} {sz : Nat} {fz : Bool} {es new : List (List PV)} (hg : H.get id = some (.arr sz fz es)) {r cap : Nat} {c : Array Value} {e : TypeId} (hφ : φ id = some r) (ho : w.heap[r]? = some (.cells c e (0, 0)))
    (hcap : c.size = cap * sz) (hm : cap ≤ maxLen) (hroom : es.length + new.length ≤ cap) (hsz : ∀ q ∈ new, q.length = sz) {news : List Value} (hn : F2 (Rp F w) new.flatten news) :
    ∃ F', Evo φ H F w φ (H.set id (.arr sz fz (es ++ new))) F' (w.setRow r (putAt c.toList (es.length * sz) news).toArray) ∧
      SRel G φ (H.set id (.arr sz fz (es ++ new))) F' (w.setRow r (putAt c.toList (es.length * sz) news).toArray) ∧
      AR φ (H.set id (.arr sz fz (es ++ new))) F' (w.setRow r (putAt c.toList (es.length * sz) news).toArray) (.c (.os id (es.length + new.length))) (.slice (some ⟨r, 0, none⟩) (es.length + new.length) cap) := by
  obtain ⟨h0, h1, h2⟩ := hS.blk id _ hg
  rcases h2 with ⟨h3, _⟩ | ⟨r', c', h3, ⟨e', h4⟩, _, h6, h7, h8, h9⟩
  · rw [hφ] at h3; cases h3
  obtain rfl : r' = r := by rw [hφ] at h3; exact (Option.some.inj h3).symm
  rw [ho] at h4
  obtain ⟨rfl, rfl⟩ : c' = c ∧ e' = e := by cases h4; exact ⟨rfl, rfl⟩
  clear h4
  have hnl := hn.len
  rw [flat_len hsz] at hnl
  have hmul : (es.length + new.length) * sz ≤ cap * sz := Nat.mul_le_mul_right sz hroom
  rw [Nat.add_mul] at hmul
  have hsize : (putAt c'.toList (es.length * sz) news).toArray.size = c'.size := by
    have := putAt_len (cs := c'.toList) (us := news) (o := es.length * sz) (by simp; omega)
    simpa using this
  have hget : ∀ k, (putAt c'.toList (es.length * sz) news)[k]? = if k < es.length * sz then c'[k]? else if k < es.length * sz + new.length * sz then news[k - es.length * sz]? else c'[k]? := by
    intro k
    have ht1 : (c'.toList.take (es.length * sz)).length = es.length * sz := by simp; omega
    simp only [putAt, List.getElem?_append, List.length_append, ht1, ← hnl]
    by_cases h1 : k < es.length * sz
    · have h3 : k < es.length * sz + new.length * sz := by omega
      simp [h1, h3, List.getElem?_take]
    · by_cases h3 : k < es.length * sz + new.length * sz
      · simp [h1, h3]
      · simp [h1, h3, List.getElem?_drop]
        congr 1
        omega
  let F' : Cl := fun b o => F b o ∨ (b = r' ∧ fz = true ∧ o < (es.length + new.length) * sz)
  have hbe : BE φ φ id (.arr sz fz es) (.arr sz fz (es ++ new)) := by simp [BE]
  have hrow : ∀ k, k ≠ r' → (w.setRow r' (putAt c'.toList (es.length * sz) news).toArray).heap[k]? = w.heap[k]? := fun k hk => setRow_other w r' k _ hk
  have hnew : (w.setRow r' (putAt c'.toList (es.length * sz) news).toArray).heap[r']? = some (.cells (putAt c'.toList (es.length * sz) news).toArray e' (0, 0)) := setRow_heap w r' c' _ e' _ ho
  have E : Evo φ H F w φ (H.set id (.arr sz fz (es ++ new))) F' (w.setRow r' (putAt c'.toList (es.length * sz) news).toArray) :=
    { os := rfl, tape := rfl, output := rfl, size := by simp
      keep := fun k _ hn => hrow k (fun e => hn id (e ▸ hφ))
      kp := ⟨fun b o f => .inl f, fun b o f => by
        by_cases hb : b = r'
        · subst hb
          have := (h7 o f).2
          simp only [World.cell?, hnew, ho]
          rw [List.getElem?_toArray, hget, if_pos this]
        · exact cell_of_heap (hrow b hb)⟩
      newF := fun b o f => by
        rcases f with f | ⟨rfl, _⟩
        · exact .inl f
        · exact .inr (.inl ⟨id, hφ⟩)
      new := fun _ _ h => .inl h
      be := fun id' c hc => by
        by_cases h : id' = id
        · subst h; rw [hg] at hc; cases hc; exact ⟨_, Hp.get_set_self hg, hbe⟩
        · exact ⟨c, by rw [Hp.get_set_other h]; exact hc, BE.refl φ id' c⟩
      shp := fun k _ => by
        by_cases hk : k = r'
        · subst hk; simp only [World.shape?, hnew, ho, hsize]
        · exact shape_of_heap (hrow k hk)
      npar := by cases id <;> simp [Hp.set] }
  have hall : ∀ q ∈ es ++ new, q.length = sz := fun q hq => by
    rcases List.mem_append.1 hq with hq | hq
    · exact rows_of h1 q hq
    · exact hsz q hq
  refine ⟨F', E, srel_upd hS E id (fun i b h hne => by rwa [Hp.get_set_other hne] at h) (fun _ _ => rfl) (fun k hk => by simpa using hS.dom id k hk) (by rw [Hp.get_set_self hg]; rfl)
      (fun i k hne hk => hrow k (fun e => hne (hS.inj i id k hk (e ▸ hφ)))) (fun i k o hne hk => ⟨fun f => ?_, fun f => .inl f⟩) (fun b hb => ?_) (fun b o f => ?_),
    .ofCR ⟨sz, fz, es ++ new, Hp.get_set_self hg, by simp, fun _ => .inr ⟨r', cap, e', cap * sz, hφ, rfl, hroom, hm, ?_, rfl⟩⟩ rfl⟩
  · rcases f with f | ⟨rfl, _⟩
    · exact f
    · exact absurd (hS.inj i id _ hk hφ) hne
  · rw [Hp.get_set_self hg] at hb
    cases hb
    refine ⟨h0, of_rows hall, .inr ⟨r', _, hφ, ⟨e', hnew⟩, ⟨cap, by rw [hsize]; exact hcap, hm⟩, ?_, fun o f => ?_, fun hz o ho => .inr ⟨rfl, hz, by simpa using ho⟩, fun i q j u hq hu => ?_⟩⟩
    · rw [hsize, List.length_append, Nat.add_mul]; omega
    · rcases f with f | ⟨_, f1, f2⟩
      · have := h7 o f
        refine ⟨this.1, ?_⟩
        rw [List.length_append, Nat.add_mul]
        omega
      · exact ⟨f1, by rw [List.length_append]; exact f2⟩
    · have hj : j < sz := by have := (List.getElem?_eq_some_iff.1 hu).1; rw [of_rows hall i q hq] at this; exact this
      rw [List.getElem?_toArray, hget]
      by_cases hi : i < es.length
      · rw [List.getElem?_append_left hi] at hq
        have hb : i * sz + sz ≤ es.length * sz := by
          have : (i + 1) * sz ≤ es.length * sz := Nat.mul_le_mul_right sz hi
          rwa [Nat.succ_mul] at this
        obtain ⟨x, hx, hr⟩ := h9 i q j u hq hu
        exact ⟨x, by rw [if_pos (by omega)]; exact hx, hr.keeps E.kp⟩
      · rw [List.getElem?_append_right (by omega)] at hq
        have hi2 : i - es.length < new.length := (List.getElem?_eq_some_iff.1 hq).1
        obtain ⟨x, hx, hr⟩ := f2_at hn hsz hq hu
        have e1 : i * sz = es.length * sz + (i - es.length) * sz := by rw [← Nat.add_mul]; congr 1; omega
        have hb : (i - es.length) * sz + sz ≤ new.length * sz := by
          have : (i - es.length + 1) * sz ≤ new.length * sz := Nat.mul_le_mul_right sz hi2
          rwa [Nat.succ_mul] at this
        refine ⟨x, ?_, hr.keeps E.kp⟩
        rw [if_neg (by omega), if_pos (by omega), show i * sz + j - es.length * sz = (i - es.length) * sz + j by omega]
        exact hx
  · rcases f with f | ⟨rfl, _⟩
    · simpa using hS.fin b o f
    · simpa using hS.dom id b hφ
  · simp only [World.shape?, hnew, hsize, hcap]

/-- An owner grows into new memory. -/
theorem grow_there (hS : SRel G φ H F w) {w' : World} {id : Id} {sz cap : Nat} {fz : Bool} {es all : List (List PV)} (hg : H.get id = some (.arr sz fz es)) (hlt : es.length < all.length) {e : TypeId} {xs zs : List Value}
    (hG : Grown w w' (.cells (xs ++ zs).toArray e)) (hsz : ∀ r ∈ all, r.length = sz) (hx : F2 (Rp F w) all.flatten xs)
    (hc : all.length ≤ cap) (hm : cap ≤ maxLen) (hz : (xs ++ zs).length = cap * sz) :
    ∃ φ' F', Evo φ H F w φ' (H.set id (.arr sz fz all)) F' w' ∧ SRel G φ' (H.set id (.arr sz fz all)) F' w' ∧
      AR φ' (H.set id (.arr sz fz all)) F' w' (.c (.os id all.length)) (.slice (some ⟨w.heap.size, 0, none⟩) all.length cap) := by
  obtain ⟨h0, h1, h2⟩ := hS.blk id _ hg
  let φ' : Pl := fun i => if i = id then some w.heap.size else φ i
  let F' : Cl := fun b o => F b o ∨ (b = w.heap.size ∧ fz = true ∧ o < all.length * sz)
  have hφ' : φ' id = some w.heap.size := by simp [φ']
  have hφo : ∀ i, i ≠ id → φ' i = φ i := fun i hi => by simp [φ', hi]
  have hxl := hx.len
  rw [flat_len hsz] at hxl
  have E : Evo φ H F w φ' (H.set id (.arr sz fz all)) F' w' :=
    { os := hG.os, tape := hG.tape, output := hG.output, size := by rw [hG.size]; omega
      keep := fun k hk _ => hG.old hk
      kp := ⟨fun b o f => .inl f, fun b o f => cell_of_heap (hG.old (hS.fin b o f))⟩
      newF := fun b o f => by
        rcases f with f | ⟨rfl, _⟩
        · exact .inl f
        · exact .inr (.inr (Nat.le_refl _))
      new := fun i r h => by
        by_cases hi : i = id
        · subst hi; rw [hφ'] at h; cases h; exact .inr (Nat.le_refl _)
        · rw [hφo i hi] at h; exact .inl h
      be := fun id' c hc => by
        by_cases h : id' = id
        · subst h; rw [hg] at hc; cases hc; exact ⟨_, Hp.get_set_self hg, rfl, Nat.le_of_lt hlt, fun e => absurd e (by omega), fun h => h⟩
        · refine ⟨c, by rw [Hp.get_set_other h]; exact hc, ?_⟩
          cases c <;> simp [BE, hφo id' h]
      shp := fun k hk => shape_of_heap (hG.old hk)
      npar := by cases id <;> simp [Hp.set] }
  have hnF : ∀ o, ¬ F w.heap.size o := fun o f => by have := hS.fin _ _ f; omega
  refine ⟨φ', F', E, srel_upd hS E id (fun i b h hne => by rwa [Hp.get_set_other hne] at h) hφo (fun k hk => by rw [hφ'] at hk; cases hk; rw [hG.size]; omega) (by rw [Hp.get_set_self hg]; rfl)
      (fun i k hne hk => hG.old (hS.dom i k hk)) (fun i k o hne hk => ⟨fun f => ?_, fun f => .inl f⟩) (fun b hb => ?_) (fun b o f => ?_),
    .ofCR ⟨sz, fz, all, Hp.get_set_self hg, Nat.le_refl _, fun _ => .inr ⟨w.heap.size, cap, e, cap * sz, hφ', rfl, hc, hm, ?_, rfl⟩⟩ rfl⟩
  · rcases f with f | ⟨rfl, _⟩
    · exact f
    · have := hS.dom i _ hk; omega
  · rw [Hp.get_set_self hg] at hb
    cases hb
    refine ⟨h0, of_rows hsz, .inr ⟨w.heap.size, _, hφ', ⟨e, hG.new⟩, ⟨cap, by simpa using hz, hm⟩, ?_, fun o f => ?_, fun hz o ho => .inr ⟨rfl, hz, ho⟩, fun i q j u hq hu => ?_⟩⟩
    · simp only [List.size_toArray, List.length_append]; omega
    · rcases f with f | ⟨_, f1, f2⟩
      · exact absurd f (hnF o)
      · exact ⟨f1, f2⟩
    · obtain ⟨x, hx', hr⟩ := f2_at hx hsz hq hu
      refine ⟨x, ?_, hr.keeps E.kp⟩
      have := (List.getElem?_eq_some_iff.1 hx').1
      rw [List.getElem?_toArray, List.getElem?_append_left this]
      exact hx'
  · rcases f with f | ⟨rfl, _⟩
    · have := hS.fin b o f; rw [hG.size]; omega
    · rw [hG.size]; omega
  · simp only [World.shape?, hG.new, List.size_toArray, hz]
end
end Go.Ab

namespace Go.Ab
open Go

section
variable {P : Program} {G : Gl} {φ : Pl} {H : Hp} {F : Cl} {w : World}

theorem elemsA_rel (hS : SRel G φ H F w) {c : C} {x : Value} (hc : CR φ H F w c x) {p : Bool} {es : List (List PV)} (h : elemsA H c = some (p, es)) (hp : p = true) :
    ∃ a cap, x = .slice a es.length cap ∧ es.length ≤ cap ∧ ((∃ id n, c = .os id n) ∨ SlAt F w es a) := by
  subst hp
  cases c <;> simp only [elemsA, reduceCtorEq] at h
  case p v =>
    cases v <;> simp only [reduceCtorEq, Option.some.injEq, Prod.mk.injEq, true_and] at h
    subst h
    obtain ⟨a, cap, rfl, h1, h2⟩ := Rp.slAt (show Rp F w (.sl _) x from hc)
    exact ⟨a, cap, rfl, h1, .inr h2⟩
  case os id n =>
    obtain ⟨sz, fz, es', hg, hn, hv⟩ := hc
    simp only [hg, Option.some.injEq, Prod.mk.injEq, decide_eq_true_eq] at h
    obtain ⟨h1, rfl⟩ := h
    rcases hv h1 with ⟨h2, a, rfl⟩ | ⟨r, cap, e, k, _, rfl, h3, _⟩
    · exact ⟨a, 0, by rw [show es'.length = 0 by omega], by omega, .inl ⟨_, _, rfl⟩⟩
    · exact ⟨_, cap, by rw [h1], by omega, .inl ⟨_, _, rfl⟩⟩
  case nils =>
    simp only [Option.some.injEq, Prod.mk.injEq, true_and] at h
    subst h
    have hc : x = .slice none 0 0 := hc
    exact ⟨none, 0, hc, Nat.le_refl _, .inr (.inl rfl)⟩
  case ti es' =>
    simp only [Option.some.injEq, Prod.mk.injEq, true_and] at h
    subst h
    obtain ⟨a, rfl, h1⟩ := hc
    exact ⟨a, _, rfl, Nat.le_refl _, .inr h1⟩

/-- The cells of an owner's elements, as memory holds them now. -/
theorem os_cells (hS : SRel G φ H F w) {id : Id} {sz : Nat} {fz : Bool} {es : List (List PV)} (hg : H.get id = some (.arr sz fz es)) {x : Value} (hx : OsV φ w id sz es.length x) :
    ∃ a cap xs, x = .slice a es.length cap ∧ es.length ≤ cap ∧ F2 (Rp F w) es.flatten xs ∧ xs.length = es.length * sz ∧ (es = [] ∨ ∃ r, a = some ⟨r, 0, none⟩ ∧ ∀ (j : Nat) (v : Value), xs[j]? = some v → w.cell? ⟨r, j, none⟩ = some v) := by
  obtain ⟨h0, h1, h2⟩ := hS.blk id _ hg
  rcases hx with ⟨h3, a, rfl⟩ | ⟨r, cap, e, k, hφ, rfl, hc, _, _, _⟩
  · have : es = [] := List.eq_nil_of_length_eq_zero h3
    subst this
    exact ⟨a, 0, [], rfl, Nat.le_refl _, .nil, by simp, .inl rfl⟩
  · rcases h2 with ⟨h3, _⟩ | ⟨r', c, h3, ⟨e', h4⟩, _, h6, h7, h8, h9⟩
    · rw [hφ] at h3; cases h3
    obtain rfl : r' = r := by rw [hφ] at h3; exact (Option.some.inj h3).symm
    have hrow := rows_of h1
    have hfl := flat_len hrow
    have h6' : es.length * sz ≤ c.toList.length := by simpa using h6
    refine ⟨_, cap, c.toList.take (es.length * sz), rfl, hc, F2.of_get (by rw [hfl, List.length_take]; omega) fun i u v hu hv => ?_, by rw [List.length_take]; omega, .inr ⟨r', rfl, fun j v hj => ?_⟩⟩
    · have hi : i < es.flatten.length := (List.getElem?_eq_some_iff.1 hu).1
      have : ∃ k q j, es[k]? = some q ∧ q[j]? = some u ∧ i = k * sz + j := by
        clear h9 hv h7 h8 h6 h6' hc hfl hi h1 hS hg
        induction es generalizing i with
        | nil => simp at hu
        | cons q es ih =>
          have hq := hrow q (by simp)
          rw [List.flatten_cons, List.getElem?_append] at hu
          split at hu
          · exact ⟨0, q, i, rfl, hu, by omega⟩
          · obtain ⟨k, q', j, e1, e2, e3⟩ := ih (fun r hr => hrow r (by simp [hr])) _ hu
            exact ⟨k + 1, q', j, by simpa using e1, e2, by rw [Nat.succ_mul]; omega⟩
      obtain ⟨k, q, j, e1, e2, rfl⟩ := this
      obtain ⟨x, hx, hr⟩ := h9 k q j u e1 e2
      rw [List.getElem?_take] at hv
      split at hv
      · have : c.toList[k * sz + j]? = some x := by simpa using hx
        rw [this] at hv
        cases hv
        exact hr
      · cases hv
    · rw [List.getElem?_take] at hj
      split at hj
      · simpa [World.cell?, h4] using hj
      · cases hj

theorem src_os (hS : SRel G φ H F w) {u e : TypeId} (hu : P.underlying u = some (.slice e)) {id : Id} {sz : Nat} {fz : Bool} {es : List (List PV)} (hg : H.get id = some (.arr sz fz es)) {x : Value} (hx : OsV φ w id sz es.length x) :
    ∃ news, Src P w u sz x es.length news ∧ F2 (Rp F w) es.flatten news := by
  obtain ⟨a, cap, xs, rfl, _, h1, h2, h3⟩ := os_cells hS hg hx
  refine ⟨xs, ⟨by simp [Builtin.lenOf], ?_, ?_, .inl ⟨_, hu⟩⟩, h1⟩
  all_goals
    rcases h3 with rfl | ⟨r, rfl, h3⟩
    · obtain rfl : xs = [] := List.eq_nil_of_length_eq_zero (by simpa using h2)
      cases a <;> simp [Builtin.firstCells, loadCells, loadCellsFrom]
    · first
        | (have := run_loadCells_list (P := P) w ⟨r, 0, none⟩ xs (fun j v hv => by rw [Addr.add_lit, Nat.zero_add]; exact h3 j v hv)
           rw [h2] at this
           simp only [Builtin.firstCells]
           exact this)
        | (have := run_loadCells_list (P := P) w.drew ⟨r, 0, none⟩ xs (fun j v hv => by rw [Addr.add_lit, Nat.zero_add]; exact h3 j v hv)
           rw [h2] at this
           simp only [Builtin.firstCells]
           exact this)

theorem srcA_run (hS : SRel G φ H F w) {u : TypeId} {sz : Nat} {str : Bool} (hu : if str then P.underlying u = some .string ∧ sz = 1 else ∃ d, P.underlying u = some (.slice d)) {a : AV} {x : Value} (ha : AR φ H F w a x) {p : Bool} {new : List (List PV)} (h : srcA str H a = some (p, new)) (hp : p = true)
    (hsz : ∀ r ∈ new, r.length = sz) : ∃ news, Src P w u sz x new.length news ∧ F2 (Rp F w) new.flatten news := by
  unfold srcA at h
  split at h
  · rename_i s
    obtain ⟨hstr, rfl⟩ := hu
    simp only [Option.some.injEq, Prod.mk.injEq] at h
    obtain ⟨_, rfl⟩ := h
    obtain ⟨t, rfl, rfl⟩ := ha.str
    obtain ⟨news, n1, n2⟩ := src_str (w := w) (F := F) hstr t
    refine ⟨news, ?_, n2⟩
    have : (bytesOf t.data.toList).length = t.size := by unfold bytesOf; rw [List.length_map]; rfl
    rw [this]
    exact n1
  · rename_i c
    obtain ⟨d, hd⟩ := hu
    obtain ⟨b, cap, rfl, hc, hcase⟩ := elemsA_rel hS ha.cc.1 h hp
    rcases hcase with ⟨id, n, rfl⟩ | hcase
    · obtain ⟨⟨sz', fz, es, hg, hn, hv⟩, _⟩ := ha.cc
      simp only [elemsA, hg, Option.some.injEq, Prod.mk.injEq] at h
      obtain ⟨hd', rfl⟩ := h
      subst hp
      simp only [decide_eq_true_eq] at hd'
      subst hd'
      have hv' := hv rfl
      obtain ⟨news, n1, n2⟩ := src_os hS hd hg hv'
      by_cases hes : es = []
      · subst hes
        refine ⟨news, ?_, n2⟩
        have hnil : news = [] := List.eq_nil_of_length_eq_zero (by have := n2.len; simpa using this.symm)
        subst hnil
        refine ⟨n1.len, ?_, ?_, n1.slice⟩ <;> cases b <;> simp [Builtin.firstCells, loadCells, loadCellsFrom]
      · obtain rfl : sz' = sz := by
          obtain ⟨q, hq⟩ := List.exists_mem_of_ne_nil _ hes
          have := rows_of (hS.blk id _ hg).2.1 q hq
          have := hsz q hq
          omega
        exact ⟨news, n1, n2⟩
    · exact src_slice hd hcase hsz
  · cases h

theorem all_len {new : List (List PV)} {sz : Nat} (h : new.all (fun r => r.length == sz) = true) : ∀ r ∈ new, r.length = sz := fun r hr => by
  have := List.all_eq_true.1 h r hr
  simpa using this

theorem zeroCells_len (z : Array Value) (n : Nat) : (Builtin.zeroCells z n).toList.length = n * z.size := by simp [size_zeroCells]

theorem appS_run (hS : SRel G φ H F w) {t u ty e : TypeId} {i : TypeInfo} {zc : List C} (ht : P.underlying t = some (.slice e)) {str : Bool} (hu : if str then P.underlying u = some .string ∧ i.size = 1 else ∃ d, P.underlying u = some (.slice d)) (hi : P.info? e = some i) (hz : zeroCs P e = some zc) (h0 : 0 < i.size) (hzl : zc.length = i.size)
    {a b : AV} {x y : Value} (ha : AR φ H F w a x) (hb : AR φ H F w b y) {res : Res} (h : appS i.size i.bytes str a b H = some res) (hp : res.pre = true) :
    ∃ xv w' φ' F', (Builtin.append_ #[t, u] ty #[x, y]).run P w = .ok xv w' ∧ Evo φ H F w φ' res.h F' w' ∧ SRel G φ' res.h F' w' ∧ AR φ' res.h F' w' res.v xv := by
  obtain ⟨i', z, hi', hzv, hcs⟩ := zeroCs_spec hz
  rw [hi] at hi'
  cases hi'
  have hzs : z.cells.size = i.size := by have := (constCs_rel (φ := φ) (H := H) (F := F) (w := w) hcs).len; simp at this; omega
  -- what is made anew
  have made : ∀ {old new : List (List PV)} {base : Option Addr} {sCap : Nat} {olds news : List Value}, (∀ r ∈ old, r.length = i.size) → (∀ r ∈ new, r.length = i.size) → F2 (Rp F w) old.flatten olds → F2 (Rp F w) new.flatten news →
      (Builtin.firstCells i.size old.length (.slice base old.length sCap)).run P w.drew = .ok olds.toArray w.drew → Src P w u i.size y new.length news → sCap < old.length + new.length →
      (old.length + new.length) * i.bytes ≤ 2 ^ 47 → old.length + new.length < 2 ^ 62 →
      ∃ cap zs, old.length + new.length ≤ cap ∧ cap ≤ maxLen ∧ ((olds ++ news) ++ zs).length = cap * i.size ∧
        (Builtin.append_ #[t, u] ty #[.slice base old.length sCap, y]).run P w = .ok (.slice (some ⟨w.heap.size, 0, none⟩) (old.length + new.length) cap) (w.drew.alloc (.cells ((olds ++ news) ++ zs).toArray e)) := by
    intro old new base sCap olds news ho hn hol hnl hof hsrc hlt hby h62
    obtain ⟨cap, c1, c2, c3⟩ := run_app_grow (ty := ty) ht hi hzv hsrc hof hlt (by omega) (by omega)
    refine ⟨cap, _, c1, c2, ?_, c3⟩
    have e1 := hol.len
    have e2 := hnl.len
    rw [flat_len ho] at e1
    rw [flat_len hn] at e2
    rw [List.length_append, List.length_append, zeroCells_len, hzs, ← e1, ← e2, ← Nat.add_mul, ← Nat.add_mul]
    congr 1
    omega
  unfold appS at h
  split at h
  · -- nil
    rename_i pb new hsrc
    simp only [Option.some.injEq] at h
    subst h
    simp only [Bool.and_eq_true, decide_eq_true_eq] at hp
    obtain ⟨⟨hpb, hby, h62⟩, hall⟩ := hp
    have hsz := all_len hall
    obtain ⟨news, n1, n2⟩ := srcA_run hS hu hb hsrc hpb hsz
    have hx : x = .slice none 0 0 := ha.cc.1
    subst hx
    by_cases hn : new = []
    · subst hn
      have hnil : news = [] := List.eq_nil_of_length_eq_zero (by have := n2.len; simpa using this.symm)
      obtain ⟨E, S, A⟩ := new_virtual hS h0 none
      exact ⟨_, w, φ, F, run_app_zero ht hi n1 hnil none 0, E, S, A⟩
    · have hpos : 0 < new.length := List.length_pos_iff.2 hn
      obtain ⟨cap, zs, c1, c2, c3, c4⟩ := made (old := []) (olds := []) (base := none) (sCap := 0) (by simp) hsz .nil n2 (by simp [Builtin.firstCells]) n1 (by simpa using hpos) (by simpa using hby) (by simpa using h62)
      simp only [List.length_nil, Nat.zero_add, List.nil_append] at c1 c3 c4
      obtain ⟨E, S, A⟩ := new_owner hS (Grown.drewAlloc w _) h0 hsz n2 c1 c2 c3
      exact ⟨_, _, _, _, c4, E, S, A⟩
  · -- an empty slice without room
    rename_i pb new hsrc
    simp only [Option.some.injEq] at h
    subst h
    simp only [Bool.and_eq_true, decide_eq_true_eq] at hp
    obtain ⟨⟨hpb, hby, h62⟩, hall⟩ := hp
    have hsz := all_len hall
    obtain ⟨news, n1, n2⟩ := srcA_run hS hu hb hsrc hpb hsz
    obtain ⟨ad, rfl, _⟩ := ha.cc.1
    simp only [List.length_nil]
    by_cases hn : new = []
    · subst hn
      have hnil : news = [] := List.eq_nil_of_length_eq_zero (by have := n2.len; simpa using this.symm)
      obtain ⟨E, S, A⟩ := new_virtual hS h0 ad
      exact ⟨_, w, φ, F, run_app_zero ht hi n1 hnil ad 0, E, S, A⟩
    · have hpos : 0 < new.length := List.length_pos_iff.2 hn
      obtain ⟨cap, zs, c1, c2, c3, c4⟩ := made (old := []) (olds := []) (base := ad) (sCap := 0) (by simp) hsz .nil n2 (by cases ad <;> simp [Builtin.firstCells, loadCells, loadCellsFrom]) n1 (by simpa using hpos) (by simpa using hby) (by simpa using h62)
      simp only [List.length_nil, Nat.zero_add, List.nil_append] at c1 c3 c4
      obtain ⟨E, S, A⟩ := new_owner hS (Grown.drewAlloc w _) h0 hsz n2 c1 c2 c3
      exact ⟨_, _, _, _, c4, E, S, A⟩
  · -- nothing to append
    rename_i pb e1 es hsrc
    simp only [Option.some.injEq] at h
    subst h
    obtain ⟨news, n1, n2⟩ := srcA_run hS hu hb hsrc hp (by simp)
    have hnil : news = [] := List.eq_nil_of_length_eq_zero (by have := n2.len; simpa using this.symm)
    obtain ⟨ad, rfl, hsl⟩ := ha.cc.1
    exact ⟨_, w, φ, F, run_app_zero ht hi n1 hnil ad _, Evo.refl φ H F w, hS, ha⟩
  · -- a slice without room
    rename_i pb new es hne hne0 hsrc
    simp only [Option.some.injEq] at h
    subst h
    simp only [Bool.and_eq_true, decide_eq_true_eq] at hp
    obtain ⟨⟨⟨hpb, hby, h62, hpos⟩, hesz⟩, hall⟩ := hp
    have hsz := all_len hall
    have hesz' := all_len hesz
    obtain ⟨news, n1, n2⟩ := srcA_run hS hu hb hsrc hpb hsz
    obtain ⟨ad, rfl, hsl⟩ := ha.cc.1
    have hne' : es ≠ [] := by intro e; subst e; exact hne rfl
    obtain ⟨bb, oo, rfl, xs, x1, x2, x3⟩ := slAt_flat hsl hesz' hne'
    have hof : (Builtin.firstCells i.size es.length (.slice (some ⟨bb, oo, none⟩) es.length es.length)).run P w.drew = .ok xs.toArray w.drew := by
      have := run_loadCells_list (P := P) w.drew ⟨bb, oo, none⟩ xs (fun j v hv => by rw [Addr.add_lit]; exact x3 j v hv)
      rw [x2] at this
      simp only [Builtin.firstCells]
      exact this
    obtain ⟨cap, zs, c1, c2, c3, c4⟩ := made hesz' hsz x1 n2 hof n1 (by omega) hby h62
    have hall' : ∀ r ∈ es ++ new, r.length = i.size := fun r hr => by
      rcases List.mem_append.1 hr with hr | hr
      · exact hesz' r hr
      · exact hsz r hr
    obtain ⟨E, S, A⟩ := new_owner (es := es ++ new) hS (Grown.drewAlloc w _) h0 hall' (by rw [List.flatten_append]; exact x1.app n2) (by simpa using c1) c2 c3
    rw [List.length_append] at A
    exact ⟨_, _, _, _, c4, E, S, A⟩
  · -- an owner
    rename_i pb new id n hsrc
    split at h
    · rename_i sz fz es hg
      simp only [Option.some.injEq] at h
      subst h
      simp only [Bool.and_eq_true, decide_eq_true_eq] at hp
      obtain ⟨⟨hpb, hne, hsz', hby, h62⟩, hall⟩ := hp
      subst hsz'
      subst hne
      have hsz := all_len hall
      obtain ⟨news, n1, n2⟩ := srcA_run hS hu hb hsrc hpb hsz
      obtain ⟨⟨sz', fz', es', hg', hn, hv⟩, _⟩ := ha.cc
      rw [hg] at hg'
      obtain ⟨rfl, rfl, rfl⟩ : sz' = i.size ∧ fz' = fz ∧ es' = es := by cases hg'; exact ⟨rfl, rfl, rfl⟩
      have hv := hv rfl
      have hesz := rows_of (hS.blk id _ hg).2.1
      have hall' : ∀ r ∈ es' ++ new, r.length = i.size := fun r hr => by
        rcases List.mem_append.1 hr with hr | hr
        · exact hesz r hr
        · exact hsz r hr
      have there : ∀ {base : Option Addr} {sCap : Nat} {olds : List Value}, F2 (Rp F w) es'.flatten olds → (Builtin.firstCells i.size es'.length (.slice base es'.length sCap)).run P w.drew = .ok olds.toArray w.drew → sCap < es'.length + new.length → es'.length ≤ sCap →
          ∃ xv w' φ' F', (Builtin.append_ #[t, u] ty #[.slice base es'.length sCap, y]).run P w = .ok xv w' ∧ Evo φ H F w φ' (H.set id (.arr i.size fz' (es' ++ new))) F' w' ∧ SRel G φ' (H.set id (.arr i.size fz' (es' ++ new))) F' w' ∧ AR φ' (H.set id (.arr i.size fz' (es' ++ new))) F' w' (.c (.os id (es'.length + new.length))) xv := by
        intro base sCap olds ho1 ho2 hlt hle
        obtain ⟨cap, zs, c1, c2, c3, c4⟩ := made hesz hsz ho1 n2 ho2 n1 hlt hby h62
        obtain ⟨φ', F', E, S, A⟩ := grow_there (all := es' ++ new) hS hg (by rw [List.length_append]; omega) (Grown.drewAlloc w _) hall' (by rw [List.flatten_append]; exact ho1.app n2) (by simpa using c1) c2 c3
        rw [List.length_append] at A
        exact ⟨_, _, _, _, c4, E, S, A⟩
      rcases hv with ⟨h3, ad, rfl⟩ | ⟨r, cap, ee, k, hφ, rfl, hcap, hmax, hshape, hk⟩
      · have hes : es' = [] := List.eq_nil_of_length_eq_zero h3
        subst hes
        by_cases hn : new = []
        · subst hn
          have hnil : news = [] := List.eq_nil_of_length_eq_zero (by have := n2.len; simpa using this.symm)
          refine ⟨_, w, φ, F, run_app_zero ht hi n1 hnil ad 0, ?_⟩
          have hid : H.set id (.arr i.size fz' ([] ++ [])) = H := by
            cases id with
            | par k => simp only [Hp.set, Hp.get] at *; congr 1; obtain ⟨hk, he⟩ := List.getElem?_eq_some_iff.1 hg; rw [List.append_nil, ← he, List.set_getElem_self]
            | loc k => simp only [Hp.set, Hp.get] at *; congr 1; obtain ⟨hk, he⟩ := List.getElem?_eq_some_iff.1 hg; rw [List.append_nil, ← he, List.set_getElem_self]
          rw [hid]
          exact ⟨Evo.refl φ H F w, hS, ha⟩
        · have hpos : 0 < new.length := List.length_pos_iff.2 hn
          exact there (olds := []) .nil (by cases ad <;> simp [Builtin.firstCells, loadCells, loadCellsFrom]) (by simpa using hpos) (Nat.le_refl _)
      · obtain ⟨bb, cap', xs, hxx, hcap', x1, x2, x3⟩ := os_cells hS hg (.inr ⟨r, cap, ee, k, hφ, rfl, hcap, hmax, hshape, hk⟩)
        obtain ⟨rfl, rfl⟩ : bb = some ⟨r, 0, none⟩ ∧ cap' = cap := by cases hxx; exact ⟨rfl, rfl⟩
        by_cases hroom : es'.length + new.length ≤ cap'
        · obtain ⟨g0, g1, g2⟩ := hS.blk id _ hg
          rcases g2 with ⟨g3, _⟩ | ⟨r', c, g3, ⟨e', g4⟩, _, g6, _⟩
          · rw [hφ] at g3; cases g3
          obtain rfl : r' = r := by rw [hφ] at g3; exact (Option.some.inj g3).symm
          have hcs : c.size = cap' * i.size := by
            simp only [World.shape?, g4, Option.some.injEq, Prod.mk.injEq] at hshape
            omega
          have hnl := n2.len
          rw [flat_len hsz] at hnl
          have hmul : (es'.length + new.length) * i.size ≤ cap' * i.size := Nat.mul_le_mul_right _ hroom
          rw [Nat.add_mul] at hmul
          obtain ⟨F', E, S, A⟩ := grow_here hS hg hφ g4 hcs hmax hroom hsz n2
          exact ⟨_, _, _, _, run_app_room ht hi n1 g4 (f2_flat n2) hroom (by omega), E, S, A⟩
        · refine there x1 ?_ (by omega) hcap
          rcases x3 with rfl | ⟨r', hr', x3⟩
          · obtain rfl : xs = [] := List.eq_nil_of_length_eq_zero (by simpa using x2)
            simp [Builtin.firstCells, loadCells, loadCellsFrom]
          · obtain rfl : r' = r := by cases hr'; rfl
            have := run_loadCells_list (P := P) w.drew ⟨r', 0, none⟩ xs (fun j v hv => by rw [Addr.add_lit, Nat.zero_add]; exact x3 j v hv)
            rw [x2] at this
            simp only [Builtin.firstCells]
            exact this
    · cases h
  · cases h
end
end Go.Ab

namespace Go.Ab
open Go

section
variable {P : Program} {G : Gl} {φ : Pl} {H : Hp} {F : Cl} {w : World}

theorem madeCells_eq {z : Array Value} {zs : List PV} (h : F2 (Rp F w) zs z.toList) (h0 : 0 < z.size) : ∀ (n : Nat), F2 (Rp F w) (List.replicate n zs).flatten ((madeCells z (n * z.size)).toList) := by
  intro n
  have hl := h.len
  simp only [Array.length_toList] at hl
  refine F2.of_get ?_ fun i a b ha hb => ?_
  · simp [madeCells, hl]
  · have hflat : ∀ (n i : Nat) (a : PV), (List.replicate n zs).flatten[i]? = some a → zs[i % z.size]? = some a := by
      intro n
      induction n with
      | zero => intro i a h; simp at h
      | succ n ih =>
        intro i a h
        rw [List.replicate_succ, List.flatten_cons, List.getElem?_append] at h
        split at h
        · rw [Nat.mod_eq_of_lt (by omega)]; exact h
        · rename_i hi
          have := ih _ _ h
          rw [hl] at this hi
          rwa [← Nat.mod_eq_sub_mod (by omega)] at this
    have h1 := hflat n i a ha
    have hi : i < n * z.size := by
      have := (List.getElem?_eq_some_iff.1 hb).1
      simpa [madeCells] using this
    have h2 : b = z[i % z.size]! := by
      simp only [madeCells, Array.toList_map, List.getElem?_map, Array.toList_range, List.getElem?_range hi, Option.map_some, Option.some.injEq] at hb
      exact hb.symm
    have hm : i % z.size < z.size := Nat.mod_lt _ h0
    obtain ⟨v, hv, hr⟩ := h.get h1
    have : z.toList[i % z.size]? = some z[i % z.size] := by simp [hm]
    rw [this] at hv
    cases hv
    rw [h2, getElem!_pos z _ hm]
    exact hr

theorem mkSl_run (hS : SRel G φ H F w) {t e : TypeId} {i : TypeInfo} {zc : List C} {zs : List PV} (ht : P.underlying t = some (.slice e)) (hi : P.info? e = some i) (hz : zeroCs P e = some zc) (hzs : pureZ zc = some zs) (h0 : 0 < i.size) (hzl : zc.length = i.size)
    {l c : AV} {x y : Value} (hl : AR φ H F w l x) (hc : AR φ H F w c y) {res : Res} (h : mkSl i.size i.bytes zs l c H = some res) (hp : res.pre = true) :
    ∃ xv w' φ' F', (Instr.makeSlice t x y).run P w = .ok xv w' ∧ Evo φ H F w φ' res.h F' w' ∧ SRel G φ' res.h F' w' ∧ AR φ' res.h F' w' res.v xv := by
  obtain ⟨i', z, hi', hzv, hcs⟩ := zeroCs_spec hz
  rw [hi] at hi'
  cases hi'
  have hrel : F2 (Rp F w) zs z.cells.toList := by
    exact pureZ_f2 hzs (constCs_rel (φ := φ) (H := H) (F := F) (w := w) hcs)
  have hzsz : z.cells.size = i.size := by have := (constCs_rel (φ := φ) (H := H) (F := F) (w := w) hcs).len; simp at this; omega
  have hzlen : zs.length = i.size := by have := hrel.len; simp at this; omega
  unfold mkSl at h
  split at h
  · rename_i k1 lv k2 cv
    simp only [Option.some.injEq] at h
    subst h
    simp only [decide_eq_true_eq] at hp
    obtain ⟨p0, p1, p2, p3⟩ := hp
    rw [hl.int, hc.int]
    have hr := run_make (P := P) w t e i z ht hi hzv k1 k2 lv cv p0 p1 (by omega) (by omega)
    have hall : ∀ r ∈ List.replicate lv.toNat zs, r.length = i.size := fun r hr => by
      rw [List.eq_of_mem_replicate hr]; exact hzlen
    have hsplit : madeCells z.cells (cv.toNat * i.size) = ((madeCells z.cells (lv.toNat * i.size)).toList ++ (madeCells z.cells (cv.toNat * i.size)).toList.drop (lv.toNat * i.size)).toArray := by
      apply Array.ext'
      have hle : lv.toNat * i.size ≤ cv.toNat * i.size := Nat.mul_le_mul_right _ (by omega)
      rw [List.toList_toArray]
      conv => lhs; rw [← List.take_append_drop (lv.toNat * i.size) (madeCells z.cells (cv.toNat * i.size)).toList]
      congr 1
      simp only [madeCells, Array.toList_map, Array.toList_range]
      rw [← List.map_take, List.take_range, Nat.min_eq_left hle]
    rw [hsplit] at hr
    have hmc := madeCells_eq hrel (by omega) lv.toNat
    rw [hzsz] at hmc
    obtain ⟨E, S, A⟩ := new_owner (es := List.replicate lv.toNat zs) (cap := cv.toNat) (e := e) (zs := (madeCells z.cells (cv.toNat * i.size)).toList.drop (lv.toNat * i.size)) hS (Grown.alloc w _) h0 hall hmc (by simp; omega) (by simp [maxLen]; omega)
      (by
        have hle : lv.toNat * i.size ≤ cv.toNat * i.size := Nat.mul_le_mul_right _ (by omega)
        simp only [List.length_append, List.length_drop, Array.length_toList, size_madeCells]; omega)
    rw [List.length_replicate] at A
    exact ⟨_, _, _, _, hr, E, S, A⟩
  · cases h

/-! ### Slicings -/

theorem slAt_sub {es : List (List PV)} {a : Option Addr} (h : SlAt F w es a) (l m : Nat) : ∀ (sz' : Nat), (∀ r ∈ es, r.length = sz') → SlAt F w ((es.take m).drop l) (a.map (·.add (l * sz'))) := by
  intro sz' hsz
  rcases h with rfl | ⟨b, o, sz, rfl, hs, hr⟩
  · exact .inl (by simp)
  · by_cases hne : (es.take m).drop l = []
    · exact .inl hne
    · have hss : sz = sz' := by
        cases es with
        | nil => simp at hne
        | cons r es => have := (hr 0 r rfl).1; have := hsz r (by simp); omega
      subst hss
      refine .inr ⟨b, o + l * sz, sz, by simp [Addr.add_lit], hs, fun i r hi => ?_⟩
      rw [List.getElem?_drop, List.getElem?_take] at hi
      split at hi
      · have := hr (l + i) r hi
        rwa [show o + l * sz + i * sz = o + (l + i) * sz by rw [Nat.add_mul]; omega]
      · cases hi

theorem bound_run {d len : Nat} {a : Option AV} {x : Option Value} (hax : (a = none ∧ x = none) ∨ ∃ av xv, a = some av ∧ x = some xv ∧ AR φ H F w av xv) {p : Bool} {n : Nat} (h : bound d a = some (p, n)) (hp : p = true) :
    (x = none ∧ n = d) ∨ ∃ k i, x = some (.int k i) ∧ 0 ≤ i ∧ i.toNat = n := by
  subst hp
  rcases hax with ⟨rfl, rfl⟩ | ⟨av, xv, rfl, rfl, hr⟩
  · simp only [bound, Option.some.injEq, Prod.mk.injEq, true_and] at h
    exact .inl ⟨rfl, h.symm⟩
  · right
    unfold bound at h
    split at h
    · simp_all
    · rename_i k i heq
      simp only [Option.some.injEq] at heq
      subst heq
      simp only [Option.some.injEq, Prod.mk.injEq, decide_eq_true_eq] at h
      exact ⟨k, i, by rw [hr.int], h.1, h.2⟩
    · cases h

theorem run_sliceBound {k : IntKind} {i : Int} {y : Nat} {code : BoundsCode} (h0 : 0 ≤ i) (h1 : i.toNat ≤ y) : (Instr.sliceBound (.int k i) y code).run P w = .ok i.toNat w := by
  have : 0 ≤ i ∧ i ≤ y := ⟨h0, by omega⟩
  simp [Instr.sliceBound, asIntOf, this]

theorem run_sliceBounds2 {isSlice : Bool} {len cap : Nat} (hlc : len ≤ cap) {lo hi : Option Value} {l h : Nat} (hlo : (lo = none ∧ l = 0) ∨ ∃ k i, lo = some (.int k i) ∧ 0 ≤ i ∧ i.toNat = l) (hhi : (hi = none ∧ h = len) ∨ ∃ k i, hi = some (.int k i) ∧ 0 ≤ i ∧ i.toNat = h)
    (hlh : l ≤ h) (hh : h ≤ len) : (Instr.sliceBounds isSlice len cap lo hi none).run P w = .ok (l, h, cap) w := by
  unfold Instr.sliceBounds
  rcases hhi with ⟨rfl, rfl⟩ | ⟨k, i, rfl, h0, rfl⟩
  · rcases hlo with ⟨rfl, rfl⟩ | ⟨k', j, rfl, h0', rfl⟩
    · simp
    · simp [run_sliceBound h0' hlh]
  · rcases hlo with ⟨rfl, rfl⟩ | ⟨k', j, rfl, h0', rfl⟩
    · simp [run_sliceBound h0 (show i.toNat ≤ cap by omega)]
    · simp [run_sliceBound h0 (show i.toNat ≤ cap by omega), run_sliceBound h0' hlh]

theorem run_sliceBounds3 {isSlice : Bool} {len cap : Nat} {lo hi : Option Value} {l h : Nat} {km : IntKind} {m : Int} (hlo : (lo = none ∧ l = 0) ∨ ∃ k i, lo = some (.int k i) ∧ 0 ≤ i ∧ i.toNat = l) (hhi : ∃ k i, hi = some (.int k i) ∧ 0 ≤ i ∧ i.toNat = h)
    (hlh : l ≤ h) (hh : h ≤ cap) (hm : m = h) : (Instr.sliceBounds isSlice len cap lo hi (some (.int km m))).run P w = .ok (l, h, h) w := by
  obtain ⟨k, i, rfl, h0, rfl⟩ := hhi
  have hm0 : 0 ≤ m := by omega
  have hmt : m.toNat = i.toNat := by omega
  unfold Instr.sliceBounds
  rcases hlo with ⟨rfl, rfl⟩ | ⟨k', j, rfl, h0', rfl⟩
  · simp [run_sliceBound hm0 (show m.toNat ≤ cap by omega), hmt, run_sliceBound h0 (Nat.le_refl _)]
  · simp [run_sliceBound hm0 (show m.toNat ≤ cap by omega), hmt, run_sliceBound h0 (Nat.le_refl _), run_sliceBound h0' hlh]

theorem slStr_run {t : TypeId} (ht : P.underlying t = some .string) {a : AV} {x : Value} (ha : AR φ H F w a x) {lo hi : Option AV} {xl xh : Option Value} (hl : (lo = none ∧ xl = none) ∨ ∃ av xv, lo = some av ∧ xl = some xv ∧ AR φ H F w av xv)
    (hh : (hi = none ∧ xh = none) ∨ ∃ av xv, hi = some av ∧ xh = some xv ∧ AR φ H F w av xv) {res : Res} (h : slStr a lo hi H = some res) (hp : res.pre = true) :
    res.h = H ∧ ∃ xv, (Instr.sliceAt t x xl xh none).run P w = .ok xv w ∧ AR φ H F w res.v xv := by
  unfold slStr at h
  split at h
  · rename_i s
    split at h
    · rename_i p l q m h1 h2
      simp only [Option.some.injEq] at h
      subst h
      simp only [Bool.and_eq_true, decide_eq_true_eq] at hp
      obtain ⟨⟨rfl, rfl⟩, hlm, hms⟩ := hp
      obtain ⟨b, rfl, rfl⟩ := ha.str
      have e1 := bound_run (len := 0) hl h1 rfl
      have e2 := bound_run (len := 0) hh h2 rfl
      have hbs : b.data.toList.length = b.size := by rw [Array.length_toList]; rfl
      rw [hbs] at hms e2
      have hr := run_sliceBounds2 (P := P) (w := w) (isSlice := false) (Nat.le_refl b.size) e1 e2 hlm hms
      refine ⟨rfl, .string (b.extract l m), by simp [Instr.sliceAt, run_underlying ht, Instr.slice, hr], .ofStr _ ?_⟩
      simp only [ByteArray.data_extract, Array.toList_extract, List.extract_eq_take_drop, List.drop_take]
    · cases h
  · cases h

theorem frz_spec {c : C} {H' : Hp} (h : frz H c = some H') : (∃ id n sz fz es, c = .os id n ∧ H.get id = some (.arr sz fz es) ∧ H' = H.set id (.arr sz true es)) ∨ ((∀ id n, c ≠ .os id n) ∧ H' = H) := by
  cases c <;> simp only [frz] at h
  case os id n =>
    split at h
    · rename_i sz fz es hg
      simp only [Option.some.injEq] at h
      exact .inl ⟨id, n, sz, fz, es, rfl, hg, h.symm⟩
    · cases h
  all_goals
    simp only [Option.some.injEq] at h
    exact .inr ⟨by simp, h.symm⟩

/-- A slice's elements, frozen. -/
theorem elems_frozen (hS : SRel G φ H F w) {c : C} {x : Value} (hc : CR φ H F w c x) {p : Bool} {es : List (List PV)} {H' : Hp} (h : elemsA H c = some (p, es)) (hp : p = true) (hf : frz H c = some H') :
    ∃ a cap F', x = .slice a es.length cap ∧ es.length ≤ cap ∧ Evo φ H F w φ H' F' w ∧ SRel G φ H' F' w ∧ SlAt F' w es a := by
  obtain ⟨a, cap, rfl, hcap, hcase⟩ := elemsA_rel hS hc h hp
  rcases frz_spec hf with ⟨id, n, sz, fz, es', rfl, hg, rfl⟩ | ⟨hn, rfl⟩
  · obtain ⟨F', E, S⟩ := freeze_arr hS hg
    subst hp
    simp only [elemsA, hg, Option.some.injEq, Prod.mk.injEq, decide_eq_true_eq] at h
    obtain ⟨rfl, rfl⟩ := h
    obtain ⟨sz1, fz1, es1, hg1, hn1, hv1⟩ := hc
    rw [hg] at hg1
    obtain ⟨rfl, rfl, rfl⟩ : sz1 = sz ∧ fz1 = fz ∧ es1 = es' := by cases hg1; exact ⟨rfl, rfl, rfl⟩
    obtain ⟨a', cap', hx, hc', hs⟩ := (S.blk id _ (Hp.get_set_self hg)).slAt (hv1 rfl) rfl
    obtain ⟨rfl, rfl⟩ : a' = a ∧ cap' = cap := by cases hx; exact ⟨rfl, rfl⟩
    exact ⟨a', cap', F', rfl, hcap, E, S, hs⟩
  · rcases hcase with ⟨id, n, rfl⟩ | hs
    · exact absurd rfl (hn id n)
    · exact ⟨a, cap, F, rfl, hcap, Evo.refl _ _ F w, hS, hs⟩

theorem slSl_run (hS : SRel G φ H F w) {t e : TypeId} (ht : P.underlying t = some (.slice e)) {i : TypeInfo} (hi : P.info? e = some i) {a : AV} {x : Value} (ha : AR φ H F w a x) {lo hi' mx : Option AV} {xl xh xm : Option Value}
    (hl : (lo = none ∧ xl = none) ∨ ∃ av xv, lo = some av ∧ xl = some xv ∧ AR φ H F w av xv) (hh : (hi' = none ∧ xh = none) ∨ ∃ av xv, hi' = some av ∧ xh = some xv ∧ AR φ H F w av xv)
    (hm : (mx = none ∧ xm = none) ∨ ∃ av xv, mx = some av ∧ xm = some xv ∧ AR φ H F w av xv) (hmh : mx ≠ none → hi' ≠ none) {res : Res} (h : slSl i.size a lo hi' mx H = some res) (hp : res.pre = true) :
    ∃ F' xv, (Instr.sliceAt t x xl xh xm).run P w = .ok xv w ∧ Evo φ H F w φ res.h F' w ∧ SRel G φ res.h F' w ∧ AR φ res.h F' w res.v xv := by
  unfold slSl at h
  split at h
  · rename_i c
    split at h
    · rename_i b es H' he hf
      have key : b = true → es.all (fun r => r.length == i.size) = true → ∃ a cap F', x = .slice a es.length cap ∧ es.length ≤ cap ∧ Evo φ H F w φ H' F' w ∧ SRel G φ H' F' w ∧ SlAt F' w es a ∧ ∀ r ∈ es, r.length = i.size := by
        intro hb hall
        obtain ⟨a, cap, F', h1, h2, h3, h4, h5⟩ := elems_frozen hS ha.cc.1 he hb hf
        exact ⟨a, cap, F', h1, h2, h3, h4, h5, all_len hall⟩
      split at h
      · rename_i p l q m h1 h2
        simp only [Option.some.injEq] at h
        subst h
        simp only [Bool.and_eq_true, decide_eq_true_eq] at hp
        obtain ⟨⟨⟨⟨hb, rfl⟩, rfl⟩, hlm, hms⟩, hall⟩ := hp
        obtain ⟨ad, cap, F', rfl, hcap, E, S, hs, hrows⟩ := key hb hall
        have e1 := bound_run (len := 0) hl h1 rfl
        have e2 := bound_run (len := 0) hh h2 rfl
        have hxm : xm = none := by
          rcases hm with ⟨_, h⟩ | ⟨_, _, h, _⟩
          · exact h
          · cases h
        subst hxm
        have hr := run_sliceBounds2 (P := P) (w := w) (isSlice := true) hcap e1 e2 hlm hms
        refine ⟨F', .slice (if cap = l then ad else ad.map (·.add (l * i.size))) (m - l) (cap - l), by simp [Instr.sliceAt, run_underlying ht, Instr.slice, hr, sizeOf, typeInfo, hi], E, S, .ofRp ?_⟩
        have hlen : m - l = ((es.take m).drop l).length := by simp; omega
        refine Rp.of_slAt ?_ hlen (by omega)
        by_cases hcl : cap = l
        · exact .inl (by rw [List.drop_of_length_le (by simp; omega)])
        · rw [if_neg hcl]; exact slAt_sub hs l m i.size hrows
      · rename_i p l q m km mv h1 h2
        simp only [Option.some.injEq] at h
        subst h
        simp only [Bool.and_eq_true, decide_eq_true_eq] at hp
        obtain ⟨⟨⟨⟨hb, rfl⟩, rfl⟩, hlm, hms, hme⟩, hall⟩ := hp
        obtain ⟨ad, cap, F', rfl, hcap, E, S, hs, hrows⟩ := key hb hall
        have e1 := bound_run (len := 0) hl h1 rfl
        have e2 := bound_run (len := 0) hh h2 rfl
        obtain ⟨av, xv, hav, rfl, hrel⟩ : ∃ av xv, (some (AV.c (.p (.int km mv)))) = some av ∧ xm = some xv ∧ AR φ H F w av xv := by
          rcases hm with ⟨h, _⟩ | h
          · cases h
          · exact h
        cases hav
        rw [hrel.int]
        have e2' : ∃ k i, xh = some (.int k i) ∧ 0 ≤ i ∧ i.toNat = m := by
          rcases e2 with ⟨e2, _⟩ | e2
          · rcases hh with ⟨h, _⟩ | ⟨_, _, _, h, _⟩
            · exact absurd h (hmh (by simp))
            · rw [e2] at h; cases h
          · exact e2
        have hr := run_sliceBounds3 (P := P) (w := w) (isSlice := true) (len := es.length) (cap := cap) (km := km) e1 e2' hlm (by omega) hme
        refine ⟨F', .slice (if m = l then ad else ad.map (·.add (l * i.size))) (m - l) (m - l), by simp [Instr.sliceAt, run_underlying ht, Instr.slice, hr, sizeOf, typeInfo, hi], E, S, .ofCR ?_ rfl⟩
        have hlen : m - l = ((es.take m).drop l).length := by simp; omega
        refine ⟨_, by rw [← hlen], ?_⟩
        by_cases hcl : m = l
        · exact .inl (by rw [List.drop_of_length_le (by simp; omega)])
        · rw [if_neg hcl]; exact slAt_sub hs l m i.size hrows
      · cases h
    · cases h
  · cases h
end
end Go.Ab

namespace Go.Ab
open Go

section
variable {P : Program} {G : Gl} {φ : Pl} {H : Hp} {F : Cl} {w : World} {T : Tm} {ρ : Operand → Value}

theorem run_v {s : Sem Value} {xv : Value} {w w' : World} (h : s.run P w = .ok xv w') : (do pure (Next.value (← s)) : Sem Next).run P w = .ok (.value xv) w' := by
  simp [h]

theorem Snd.val {s : Sem Value} {xv : Value} {w' : World} {φ' : Pl} {F' : Cl} {H' : Hp} {v : AV} (h : s.run P w = .ok xv w') (E : Evo φ H F w φ' H' F' w') (S : SRel G φ' H' F' w') (A : AR φ' H' F' w' v xv) :
    Snd P G (do pure (Next.value (← s))) φ H F w v H' := ⟨_, xv, w', φ', F', run_v h, .inl rfl, E, S, A⟩

theorem Snd.same {s : Sem Value} {xv : Value} {v : AV} (hS : SRel G φ H F w) (h : s.run P w = .ok xv w) (A : AR φ H F w v xv) : Snd P G (do pure (Next.value (← s))) φ H F w v H := Snd.val h (Evo.refl φ H F w) hS A

theorem resOf_spec {r : Option (Bool × AV)} {res : Res} (h : resOf H r = some res) : r = some (res.pre, res.v) ∧ res.h = H := by
  unfold resOf at h
  split at h
  · simp only [Option.some.injEq] at h; subst h; exact ⟨rfl, rfl⟩
  · cases h

theorem compO_rel (hρ : ∀ a s, compA a = some s → AR φ H F w (evS G T s) (ρ a)) {o : Option Operand} {s : Option SA} (h : compO o = some s) :
    (s.map (evS G T) = none ∧ o.map ρ = none) ∨ ∃ av xv, s.map (evS G T) = some av ∧ o.map ρ = some xv ∧ AR φ H F w av xv := by
  unfold compO at h
  split at h
  · simp only [Option.some.injEq] at h; subst h; exact .inl ⟨rfl, rfl⟩
  · split at h
    · rename_i x hx
      simp only [Option.some.injEq] at h
      subst h
      exact .inr ⟨_, _, rfl, rfl, hρ _ _ hx⟩
    · cases h

theorem compAs_rel (hρ : ∀ a s, compA a = some s → AR φ H F w (evS G T s) (ρ a)) : ∀ {l : List Operand} {s : List SA}, compAs l = some s → F2 (AR φ H F w) (s.map (evS G T)) (l.map ρ)
  | [], s, h => by simp only [compAs, Option.some.injEq] at h; subst h; exact .nil
  | a :: l, s, h => by
    simp only [compAs] at h
    split at h
    · rename_i x l' h1 h2
      simp only [Option.some.injEq] at h
      subst h
      exact .cons (hρ _ _ h1) (compAs_rel hρ h2)
    · cases h

theorem capsA_rel : ∀ {as : List AV} {xs : List Value} {l : List Id}, F2 (AR φ H F w) as xs → capsA as = some l → F2 (fun id v => ∃ b r, H.get id = some b ∧ b.isRow = true ∧ φ id = some r ∧ v = .pointer (some ⟨r, 0, none⟩)) l xs
  | [], _, l, .nil, h => by simp only [capsA, Option.some.injEq] at h; subst h; exact .nil
  | a :: as, _, l, .cons ha ht, h => by
    unfold capsA at h
    split at h
    · rename_i heq; cases heq
    · rename_i i r heq
      cases heq
      split at h
      · rename_i l' hl
        simp only [Option.some.injEq] at h
        subst h
        obtain ⟨b, q, h1, h2, h3, h4⟩ := ha.cc.1
        exact .cons ⟨b, q, h1, h2, h3, h4⟩ (capsA_rel ht hl)
      · cases h
    · cases h

theorem unbytes_rel {es : List (List PV)} {l : List UInt8} : unbytes es = some l → ∃ ns : List Int, es = ns.map (fun n => [.int .u8 n]) ∧ l = ns.map fun n => UInt8.ofNat n.toNat := by
  induction es generalizing l with
  | nil => intro h; simp only [unbytes, Option.some.injEq] at h; subst h; exact ⟨[], rfl, rfl⟩
  | cons r es ih =>
    intro h
    unfold unbytes at h
    split at h
    · rename_i heq; cases heq
    · rename_i n r' heq
      cases heq
      split at h
      · rename_i l' hl
        simp only [Option.some.injEq] at h
        subst h
        obtain ⟨ns, rfl, rfl⟩ := ih hl
        exact ⟨n :: ns, rfl, rfl⟩
      · cases h
    · cases h

theorem bytes_vals : ∀ {ns : List Int} {xs : List Value}, F2 (Rp F w) (ns.map (fun n => [PV.int .u8 n])).flatten xs → xs = ns.map (Value.int .u8)
  | [], _, .nil => rfl
  | n :: ns, xs, h => by
    simp only [List.map_cons, List.flatten_cons, List.singleton_append] at h
    cases h with
    | cons h t => cases h; rw [bytes_vals t]; rfl

theorem foldl_pushes : ∀ (ns : List Int) (s : ByteArray), (ns.foldl (fun r n => r.push (UInt8.ofNat n.toNat)) s).data.toList = s.data.toList ++ ns.map fun n => UInt8.ofNat n.toNat
  | [], s => by simp
  | n :: ns, s => by
    rw [List.foldl_cons, foldl_pushes ns]
    simp [ByteArray.push]

theorem cString_run (hS : SRel G φ H F w) {s d e : TypeId} (hs : P.underlying s = some (.slice e)) (he : P.underlying e = some (.int .u8)) (hd : P.underlying d = some .string) {c : C} {x : Value} (hc : CR φ H F w c x) {p : Bool} {l : List UInt8} (h : bytesS H c = some (p, l)) (hp : p = true) :
    ∃ xv, (convert s d x).run P w = .ok xv w ∧ AR φ H F w (.c (.p (.str l))) xv := by
  unfold bytesS at h
  split at h
  · rename_i b es hel
    split at h
    · rename_i l' hu
      simp only [Option.some.injEq, Prod.mk.injEq] at h
      obtain ⟨rfl, rfl⟩ := h
      obtain ⟨ns, rfl, rfl⟩ := unbytes_rel hu
      have hsz : ∀ r ∈ ns.map (fun n => [PV.int .u8 n]), r.length = 1 := by simp
      have key : ∃ a cap xs, x = .slice a ns.length cap ∧ F2 (Rp F w) (ns.map (fun n => [PV.int .u8 n])).flatten xs ∧ xs.length = ns.length ∧ (ns = [] ∨ ∃ bb o, a = some ⟨bb, o, none⟩ ∧ ∀ (j : Nat) (v : Value), xs[j]? = some v → w.cell? ⟨bb, o + j, none⟩ = some v) := by
        obtain ⟨a, cap, rfl, _, hcase⟩ := elemsA_rel hS hc hel hp
        rw [List.length_map]
        rcases hcase with ⟨id, n, rfl⟩ | hsl
        · obtain ⟨sz, fz, es', hg, hn, hv⟩ := hc
          subst hp
          simp only [elemsA, hg, Option.some.injEq, Prod.mk.injEq, decide_eq_true_eq] at hel
          obtain ⟨rfl, rfl⟩ := hel
          obtain ⟨a', cap', xs, hx, _, h1, h2, h3⟩ := os_cells hS hg (hv rfl)
          obtain ⟨rfl, rfl⟩ : a = a' ∧ cap = cap' := by
            have := hx; simp only [List.length_map, Value.slice.injEq] at this; exact ⟨this.1, this.2.2⟩
          refine ⟨a, cap, xs, rfl, h1, ?_, ?_⟩
          · have := h1.len; rw [flat_len hsz] at this; simp only [List.length_map] at this; omega
          · rcases h3 with h3 | ⟨r, rfl, h3⟩
            · exact .inl (by simpa using h3)
            · exact .inr ⟨r, 0, rfl, fun j v hj => by rw [Nat.zero_add]; exact h3 j v hj⟩
        · by_cases hne : ns = []
          · subst hne; exact ⟨a, cap, [], rfl, .nil, rfl, .inl rfl⟩
          · obtain ⟨bb, o, rfl, xs, x1, x2, x3⟩ := slAt_flat hsl hsz (by simpa using hne)
            exact ⟨_, cap, xs, rfl, x1, by simpa using x2, .inr ⟨bb, o, rfl, x3⟩⟩
      obtain ⟨a, cap, xs, rfl, h1, h2, h3⟩ := key
      have hxs := bytes_vals h1
      subst hxs
      rw [run_convert_bytes_string w s d e a ns.length cap hs he hd]
      cases a with
      | none =>
        rcases h3 with rfl | ⟨_, _, h, _⟩
        · exact ⟨.string .empty, by simp [Conv.bytesToString], .ofStr _ rfl⟩
        · cases h
      | some ad =>
        have hload : (loadCells ad ns.length).run P w = .ok (ns.map (Value.int .u8)).toArray w := by
          rcases h3 with rfl | ⟨bb, o, hadd, h3⟩
          · simp [loadCells, loadCellsFrom]
          · cases hadd
            have := run_loadCells_list (P := P) w ⟨bb, o, none⟩ (ns.map (Value.int .u8)) (fun j v hv => by rw [Addr.add_lit]; exact h3 j v hv)
            rwa [List.length_map] at this
        exact ⟨_, run_bytesToString w ad ns.length cap ns hload, .ofStr _ (by rw [foldl_pushes]; rfl)⟩
    · cases h
  · cases h

theorem cBytes_run (hS : SRel G φ H F w) {s d e : TypeId} (hs : P.underlying s = some .string) (hd : P.underlying d = some (.slice e)) (he : P.underlying e = some (.int .u8)) (t : ByteArray) :
    ∃ xv w' F', (convert s d (.string t)).run P w = .ok xv w' ∧ Evo φ H F w φ H F' w' ∧ SRel G φ H F' w' ∧ AR φ H F' w' (.c (.p (.sl (bytesOf t.data.toList)))) xv := by
  have hr := run_bytes_of_string (P := P) w s d e t hs hd he
  have hG : Grown w (w.drew.alloc (.cells (bytesRow t (grownCap w t.size 0 e)) e ((bytesRow t (grownCap w t.size 0 e)).size, (bytesRow t (grownCap w t.size 0 e)).size + 1)))
      (.cells (bytesRow t (grownCap w t.size 0 e)).toList.toArray e ((bytesRow t (grownCap w t.size 0 e)).size, (bytesRow t (grownCap w t.size 0 e)).size + 1)) := by
    simpa using Grown.drewAlloc w _
  obtain ⟨E, S⟩ := snd_frozen hS hG
  refine ⟨_, _, _, hr, E, S, .ofRp (Rp.of_slAt (.inr ⟨w.heap.size, 0, 1, rfl, by omega, fun i r hi => ?_⟩) ?_ (grownCap_ge w _ _ _))⟩
  · unfold bytesOf at hi
    rw [List.getElem?_map] at hi
    cases hb : t.data.toList[i]? with
    | none => rw [hb] at hi; cases hi
    | some b =>
      rw [hb] at hi
      cases hi
      refine ⟨rfl, fun j u hj => ⟨.inr rfl, ?_⟩⟩
      cases j with
      | succ j => simp at hj
      | zero =>
        simp at hj
        subst hj
        refine ⟨.int .u8 b.toNat, ?_, Rp.int _ _⟩
        have hi' : i < t.data.size := by have := (List.getElem?_eq_some_iff.1 hb).1; simpa using this
        have hb' : t.data[i]? = some b := by simpa using hb
        simp only [World.cell?, hG.new, Nat.zero_add, Nat.mul_one, Nat.add_zero]
        simp only [bytesRow, Array.toArray_toList]
        rw [Array.getElem?_append_left (by simpa using hi'), Array.getElem?_map, hb']
        rfl
  · unfold bytesOf
    rw [List.length_map, Array.length_toList]
    rfl

theorem run_eqp1 (d : Nat) {t el : TypeId} (hu : P.underlying t = some (.pointer el)) (b : Option Addr) : (Op.equalIn (d + 1) t (.pointer none) (.pointer b)).run P w = .ok b.isNone w := by
  simp [Op.equalIn, run_underlying hu]
theorem run_eqp2 (d : Nat) {t el : TypeId} (hu : P.underlying t = some (.pointer el)) (a : Addr) : (Op.equalIn (d + 1) t (.pointer (some a)) (.pointer none)).run P w = .ok false w := by
  simp [Op.equalIn, run_underlying hu]

set_option maxHeartbeats 1000000 in
theorem eqS_run (op : BinOp) (hop : op = .eql ∨ op = .neq) {t : TypeId} {x y : SA} {so : SOp} (hc : compBin P op t x y = some so) {a b : Operand} {T : Tm} (ha : AR φ H F w (evS G T x) (ρ a)) (hb : AR φ H F w (evS G T y) (ρ b)) {res : Res} (h : opS G so T H = some res) (hp : res.pre = true) :
    res.h = H ∧ ∃ xv, (do eqGuard op t a b (ρ a) (ρ b); binOp op t (ρ a) (ρ b) : Sem Value).run P w = .ok xv w ∧ AR φ H F w res.v xv := by
  have fin : ∀ {k : EK} {p r : Bool}, so = .eq (op == .eql) k x y → eqS k (evS G T x) (evS G T y) = some (p, r) → (p = true → (do eqGuard op t a b (ρ a) (ρ b); binOp op t (ρ a) (ρ b) : Sem Value).run P w = .ok (.bool (if op = .eql then r else !r)) w) →
      res.h = H ∧ ∃ xv, (do eqGuard op t a b (ρ a) (ρ b); binOp op t (ρ a) (ρ b) : Sem Value).run P w = .ok xv w ∧ AR φ H F w res.v xv := by
    rintro k p r rfl he hrun
    simp only [opS, he, Option.some.injEq] at h
    subst h
    refine ⟨rfl, _, hrun hp, ?_⟩
    rcases hop with rfl | rfl
    · exact AR.ofBool r
    · exact AR.ofBool (!r)
  have none_ : ∀ {k : EK}, so = .eq (op == .eql) k x y → eqS k (evS G T x) (evS G T y) = none → False := by
    rintro k rfl he
    simp [opS, he] at h
  have hcb : compBin P op t x y = match P.underlying t with
    | some (.int _) => some (.eq (op == .eql) .int x y)
    | some .bool => some (.eq (op == .eql) .bool x y)
    | some .string => some (.eq (op == .eql) .str x y)
    | some (.pointer _) => some (.eq (op == .eql) .ptr x y)
    | some (.slice _) => compNil (op == .eql) x y
    | some (.struct _) | some (.array _ _) => match P.eqGuardType P.depth t, kindsT P 20 t with
      | false, some ks => some (.eq (op == .eql) (.agg ks) x y)
      | _, _ => none
    | _ => none := by rcases hop with rfl | rfl <;> rfl
  rw [hcb] at hc
  have agg : (match P.eqGuardType P.depth t, kindsT P 20 t with
      | false, some ks => some (SOp.eq (op == .eql) (.agg ks) x y)
      | _, _ => none) = some so → (∀ ag n, shapeT P t = some (ag, n) → ag = true) → res.h = H ∧ ∃ xv, (do eqGuard op t a b (ρ a) (ρ b); binOp op t (ρ a) (ρ b) : Sem Value).run P w = .ok xv w ∧ AR φ H F w res.v xv := by
    intro hc hag
    split at hc
    · rename_i ks hgd hks
      simp only [Option.some.injEq] at hc
      cases he : eqS (.agg ks) (evS G T x) (evS G T y) with
      | none => exact (none_ hc.symm he).elim
      | some q =>
        obtain ⟨p, r⟩ := q
        refine fin hc.symm he fun hp => ?_
        generalize hX : evS G T x = X at *
        generalize hY : evS G T y = Y at *
        cases X <;> try (simp [eqS] at he; done)
        cases Y <;> try (simp [eqS] at he; done)
        rename_i as bs
        simp only [eqS] at he
        split at he
        · rename_i r' hr
          simp only [Option.some.injEq, Prod.mk.injEq] at he
          obtain ⟨_, rfl⟩ := he
          obtain ⟨xs, hx, hxr⟩ := ha.aggr
          obtain ⟨ys, hy, hyr⟩ := hb.aggr
          rw [hx, hy]
          obtain ⟨ag, n, hs, hlen, hone, heq⟩ := eqAt_of_kinds (w := w) 20 9980 t ks hks
          obtain rfl := hag ag n hs
          have := heq (x := .agg xs.toArray) (y := .agg ys.toArray) rfl rfl hxr hyr hr
          rcases hop with rfl | rfl
          · simp only [Sem.run_bind, run_eqGuard_agg (P := P) w .eql t a b xs.toArray ys.toArray hgd, Result.andThen_ok, run_eql_struct, this]
            rfl
          · simp only [Sem.run_bind, run_eqGuard_agg (P := P) w .neq t a b xs.toArray ys.toArray hgd, Result.andThen_ok, run_neq_struct, this]
            rfl
        · cases he
    · cases hc
  split at hc
  · -- int
    simp only [Option.some.injEq] at hc
    cases he : eqS .int (evS G T x) (evS G T y) with
    | none => exact (none_ hc.symm he).elim
    | some q =>
      obtain ⟨p, r⟩ := q
      refine fin hc.symm he fun hp => ?_
      generalize hX : evS G T x = X at *
      generalize hY : evS G T y = Y at *
      cases X <;> try (simp [eqS] at he; done)
      cases Y <;> try (simp [eqS] at he; done)
      rename_i c1 c2
      cases c1 <;> try (simp [eqS] at he; done)
      cases c2 <;> try (simp [eqS] at he; done)
      rename_i v1 v2
      cases v1 <;> try (simp [eqS] at he; done)
      cases v2 <;> try (simp [eqS] at he; done)
      rename_i k m k' n
      simp only [eqS] at he
      split at he
      · rename_i hk
        simp only [Option.some.injEq, Prod.mk.injEq] at he
        obtain ⟨_, rfl⟩ := he
        obtain rfl : k = k' := by simpa using hk
        rw [ha.int, hb.int]
        rcases hop with rfl | rfl
        · simp only [Sem.run_bind, run_guard_int, Result.andThen_ok, binOp, ne_eq, not_true, if_false, Op.intCmp]; rfl
        · simp only [Sem.run_bind, run_guard_int, Result.andThen_ok, binOp, ne_eq, not_true, if_false, Op.intCmp]; rfl
      · cases he
  · -- bool
    rename_i hu
    simp only [Option.some.injEq] at hc
    cases he : eqS .bool (evS G T x) (evS G T y) with
    | none => exact (none_ hc.symm he).elim
    | some q =>
      obtain ⟨p, r⟩ := q
      refine fin hc.symm he fun hp => ?_
      generalize hX : evS G T x = X at *
      generalize hY : evS G T y = Y at *
      cases X <;> try (simp [eqS] at he; done)
      cases Y <;> try (simp [eqS] at he; done)
      rename_i c1 c2
      cases c1 <;> try (simp [eqS] at he; done)
      cases c2 <;> try (simp [eqS] at he; done)
      rename_i v1 v2
      cases v1 <;> try (simp [eqS] at he; done)
      cases v2 <;> try (simp [eqS] at he; done)
      rename_i m n
      simp only [eqS, Option.some.injEq, Prod.mk.injEq] at he
      obtain ⟨_, rfl⟩ := he
      rw [ha.bool, hb.bool]
      have hq : (Op.equal t (.bool m) (.bool n)).run P w = .ok (decide (m = n)) w := by
        simp only [Op.equal, Op.maxDepth]
        rw [run_equalIn_bool' w 9999 t m n hu]
        cases m <;> cases n <;> rfl
      rcases hop with rfl | rfl
      · simp only [Sem.run_bind, run_guard_bool, Result.andThen_ok, binOp, hq]; rfl
      · simp only [Sem.run_bind, run_guard_bool, Result.andThen_ok, binOp, hq]; rfl
  · -- string
    simp only [Option.some.injEq] at hc
    cases he : eqS .str (evS G T x) (evS G T y) with
    | none => exact (none_ hc.symm he).elim
    | some q =>
      obtain ⟨p, r⟩ := q
      refine fin hc.symm he fun hp => ?_
      generalize hX : evS G T x = X at *
      generalize hY : evS G T y = Y at *
      cases X <;> try (simp [eqS] at he; done)
      cases Y <;> try (simp [eqS] at he; done)
      rename_i c1 c2
      cases c1 <;> try (simp [eqS] at he; done)
      cases c2 <;> try (simp [eqS] at he; done)
      rename_i v1 v2
      cases v1 <;> try (simp [eqS] at he; done)
      cases v2 <;> try (simp [eqS] at he; done)
      rename_i m n
      simp only [eqS, Option.some.injEq, Prod.mk.injEq] at he
      obtain ⟨_, rfl⟩ := he
      obtain ⟨bm, hm, rfl⟩ := ha.str
      obtain ⟨bn, hn, rfl⟩ := hb.str
      rw [hm, hn]
      have hq : (bm.toList == bn.toList) = decide (bm.data.toList = bn.data.toList) := by
        rw [ByteArray.toList_eq, ByteArray.toList_eq]
        by_cases h : bm.data.toList = bn.data.toList
        · simp [h]
        · have h' : ¬ bm.data = bn.data := fun e => h (by rw [e])
          simp [h']
      rcases hop with rfl | rfl
      · simp only [Sem.run_bind, run_guard_str, Result.andThen_ok, binOp, Op.stringOp, hq]; rfl
      · simp only [Sem.run_bind, run_guard_str, Result.andThen_ok, binOp, Op.stringOp, hq]; rfl
  · -- pointer
    rename_i el hu
    simp only [Option.some.injEq] at hc
    cases he : eqS .ptr (evS G T x) (evS G T y) with
    | none => exact (none_ hc.symm he).elim
    | some q =>
      obtain ⟨p, r⟩ := q
      refine fin hc.symm he fun hp => ?_
      have ptr : ∀ {c : C} {v : Value}, CR φ H F w c v → (∃ id o, c = .ptr id o) ∨ (∃ cs, c = .rp cs) → ∃ ad, v = .pointer (some ad) := by
        rintro c v hcr (⟨id, o, rfl⟩ | ⟨cs, rfl⟩)
        · obtain ⟨b, q, _, _, _, rfl⟩ := hcr; exact ⟨_, rfl⟩
        · obtain ⟨b, q, rfl, _⟩ := hcr; exact ⟨_, rfl⟩
      have done_ : ∀ {pa pb : Option Addr}, ρ a = .pointer pa → ρ b = .pointer pb → (Op.equalIn 10000 t (.pointer pa) (.pointer pb)).run P w = .ok r w → (do eqGuard op t a b (ρ a) (ρ b); binOp op t (ρ a) (ρ b) : Sem Value).run P w = .ok (.bool (if op = .eql then r else !r)) w := by
        intro pa pb h1 h2 h3
        rw [h1, h2]
        rcases hop with rfl | rfl
        · simp only [Sem.run_bind, run_guard_ptr, Result.andThen_ok, binOp, Op.equal, Op.maxDepth, h3]; rfl
        · simp only [Sem.run_bind, run_guard_ptr, Result.andThen_ok, binOp, Op.equal, Op.maxDepth, h3]; rfl
      generalize hX : evS G T x = X at *
      generalize hY : evS G T y = Y at *
      cases X <;> try (simp [eqS] at he; done)
      cases Y <;> try (simp [eqS] at he; done)
      rename_i c1 c2
      cases c1 <;> try (simp [eqS] at he; done)
      all_goals cases c2 <;> try (simp [eqS] at he; done)
      all_goals simp only [eqS, Option.some.injEq, Prod.mk.injEq] at he
      all_goals obtain ⟨_, rfl⟩ := he
      · obtain ⟨ad, e1⟩ := ptr ha.cc.1 (.inl ⟨_, _, rfl⟩)
        exact done_ e1 hb.cc.1 (run_eqp2 9999 hu ad)
      · obtain ⟨ad, e1⟩ := ptr ha.cc.1 (.inr ⟨_, rfl⟩)
        exact done_ e1 hb.cc.1 (run_eqp2 9999 hu ad)
      · obtain ⟨ad, e1⟩ := ptr hb.cc.1 (.inl ⟨_, _, rfl⟩)
        exact done_ ha.cc.1 e1 (run_eqp1 9999 hu (some ad))
      · obtain ⟨ad, e1⟩ := ptr hb.cc.1 (.inr ⟨_, rfl⟩)
        exact done_ ha.cc.1 e1 (run_eqp1 9999 hu (some ad))
      · exact done_ ha.cc.1 hb.cc.1 (run_eqp1 9999 hu none)
  · unfold compNil at hc
    split at hc
    · simp only [Option.some.injEq] at hc
      subst hc
      simp [opS] at h
    · cases hc
  · rename_i fs hu
    exact agg hc fun ag n hs => by
      obtain ⟨_, d, _, hu', _, rfl⟩ := shapeT_spec hs
      rw [hu] at hu'; cases hu'; rfl
  · rename_i k e hu
    exact agg hc fun ag n hs => by
      obtain ⟨_, d, _, hu', _, rfl⟩ := shapeT_spec hs
      rw [hu] at hu'; cases hu'; rfl
  · cases hc
end
end Go.Ab

namespace Go.Ab
open Go

section
variable {P : Program} {G : Gl} {φ : Pl} {H : Hp} {F : Cl} {w : World} {T : Tm} {ρ : Operand → Value}

theorem snd_bin {op : BinOp} {a b : Operand} {t : TypeId} (hS : SRel G φ H F w) {v : AV} {xv : Value} (hg : (eqGuard op t a b (ρ a) (ρ b)).run P w = .ok () w) (h : (binOp op t (ρ a) (ρ b)).run P w = .ok xv w) (A : AR φ H F w v xv) :
    Snd P G (do pure (Next.value (← (do eqGuard op t a b (ρ a) (ρ b); binOp op t (ρ a) (ρ b) : Sem Value)))) φ H F w v H :=
  Snd.same hS (by simp [hg, h]) A

theorem binS_run {op : BinOp} {a b : Operand} {t : TypeId} {x y : AV} (ha : AR φ H F w x (ρ a)) (hb : AR φ H F w y (ρ b)) {p : Bool} {v : AV} (h : binS op x y = some (p, v)) (hp : p = true) :
    (eqGuard op t a b (ρ a) (ρ b)).run P w = .ok () w ∧ ∃ xv, (binOp op t (ρ a) (ρ b)).run P w = .ok xv w ∧ AR φ H F w v xv := by
  unfold binS at h
  split at h
  · rename_i k m k' n
    split at h
    · rename_i b' v' hk hi
      simp only [Option.some.injEq, Prod.mk.injEq] at h
      obtain ⟨rfl, rfl⟩ := h
      obtain rfl : k = k' := by simpa using hk
      rw [ha.int, hb.int]
      obtain ⟨xv, h1, h2⟩ := run_intA (P := P) (w := w) (t := t) hi hp
      exact ⟨run_guard_int op t a b k k m n, xv, h1, h2⟩
    · cases h
  · rename_i m n
    split at h
    · rename_i b' v' hi
      simp only [Option.some.injEq, Prod.mk.injEq] at h
      obtain ⟨rfl, rfl⟩ := h
      obtain ⟨bm, hm, rfl⟩ := ha.str
      obtain ⟨bn, hn, rfl⟩ := hb.str
      rw [hm, hn]
      refine ⟨run_guard_str op t a b bm bn, ?_⟩
      unfold strA at hi
      split at hi
      · simp only [Option.some.injEq, Prod.mk.injEq] at hi
        obtain ⟨rfl, rfl⟩ := hi
        simp only [decide_eq_true_eq, Array.length_toList] at hp
        have hs : bm.size + bn.size ≤ 9223372036854775807 := by
          have e1 : bm.data.size = bm.size := rfl
          have e2 : bn.data.size = bn.size := rfl
          omega
        exact ⟨.string (bm ++ bn), by simp only [binOp]; exact run_string_add_sum w bm bn hs, .ofStr _ (by simp)⟩
      · cases hi
    · cases h
  · cases h

theorem shS_run {op : BinOp} {a b : Operand} {t : TypeId} {x y : AV} (ha : AR φ H F w x (ρ a)) (hb : AR φ H F w y (ρ b)) {p : Bool} {v : AV} (h : shS op x y = some (p, v)) (hp : p = true) :
    (eqGuard op t a b (ρ a) (ρ b)).run P w = .ok () w ∧ ∃ xv, (binOp op t (ρ a) (ρ b)).run P w = .ok xv w ∧ AR φ H F w v xv := by
  unfold shS at h
  split at h
  · rename_i k m k' n
    split at h
    · rename_i b' v' hi
      simp only [Option.some.injEq, Prod.mk.injEq] at h
      obtain ⟨rfl, rfl⟩ := h
      rw [ha.int, hb.int]
      obtain ⟨xv, h1, h2⟩ := run_shiftA (P := P) (w := w) (t := t) (k' := k') hi hp
      exact ⟨run_guard_int op t a b k k' m n, xv, h1, h2⟩
    · cases h
  · cases h

theorem compBin_cases {op : BinOp} {t : TypeId} {x y : SA} {so : SOp} (h : compBin P op t x y = some so) : (so = .sh op x y) ∨ (op = .eql ∨ op = .neq) ∨ so = .bin op x y := by
  cases op <;> simp only [compBin, Option.some.injEq] at h <;> first | exact .inl h.symm | exact .inr (.inr h.symm) | exact .inr (.inl (.inl rfl)) | exact .inr (.inl (.inr rfl))

theorem lenS_run (hS : SRel G φ H F w) {t ty : TypeId} {str : Bool} (ht : if str then P.underlying t = some .string else ∃ e, P.underlying t = some (.slice e)) {a : AV} {x : Value} (ha : AR φ H F w a x) {res : Res} (h : lenS str a H = some res) (hp : res.pre = true) :
    res.h = H ∧ ∃ xv, (Builtin.len_ #[t] ty #[x]).run P w = .ok xv w ∧ AR φ H F w res.v xv := by
  unfold lenS at h
  split at h
  · rename_i s
    simp only [Option.some.injEq] at h
    subst h
    have hu : P.underlying t = some .string := ht
    obtain ⟨b, rfl, rfl⟩ := ha.str
    refine ⟨rfl, .int .i64 b.size, by simp [Builtin.len_, run_underlying hu, goInt], ?_⟩
    have : b.data.toList.length = b.size := by rw [Array.length_toList]; rfl
    rw [this]
    exact AR.ofInt _ _
  · rename_i id n
    simp only [Option.some.injEq] at h
    subst h
    obtain ⟨e, hu⟩ := ht
    obtain ⟨b, r, _, _, _, rfl⟩ := ha.cc.1
    exact ⟨rfl, .int .i64 n, by simp [Builtin.len_, run_underlying hu, goInt], AR.ofInt _ _⟩
  · rename_i c _
    split at h
    · rename_i b es he
      simp only [Option.some.injEq] at h
      subst h
      obtain ⟨e, hu⟩ := ht
      obtain ⟨ad, cap, rfl, _⟩ := elemsA_rel hS ha.cc.1 he hp
      exact ⟨rfl, .int .i64 es.length, by simp [Builtin.len_, run_underlying hu, goInt], AR.ofInt _ _⟩
    · cases h
  · cases h

theorem max_run {a b : AV} {x y : Value} {ts : Array TypeId} {ty : TypeId} (ha : AR φ H F w a x) (hb : AR φ H F w b y) {v : AV} (h : max2A a b = some v) : ∃ xv, (Builtin.max_ ts ty #[x, y]).run P w = .ok xv w ∧ AR φ H F w v xv := by
  unfold max2A at h
  split at h
  · simp only [Option.some.injEq] at h
    subst h
    rw [ha.int, hb.int]
    exact ⟨_, by simp [Builtin.max_, Builtin.max2], AR.ofInt _ _⟩
  · cases h

theorem min_run {a b : AV} {x y : Value} {ts : Array TypeId} {ty : TypeId} (ha : AR φ H F w a x) (hb : AR φ H F w b y) {v : AV} (h : min2A a b = some v) : ∃ xv, (Builtin.min_ ts ty #[x, y]).run P w = .ok xv w ∧ AR φ H F w v xv := by
  unfold min2A at h
  split at h
  · simp only [Option.some.injEq] at h
    subst h
    rw [ha.int, hb.int]
    exact ⟨_, by simp [Builtin.min_, Builtin.min2], AR.ofInt _ _⟩
  · cases h

theorem ixSl_run (hS : SRel G φ H F w) {t e : TypeId} {j : TypeInfo} (hu : P.underlying t = some (.slice e)) (hj : P.info? e = some j) {a i : AV} {x y : Value} (ha : AR φ H F w a x) (hi : AR φ H F w i y) {res : Res} (h : ixSl j.size a i H = some res) (hp : res.pre = true) :
    res.h = H ∧ ∃ xv, (Instr.indexAt t x y).run P w = .ok xv w ∧ AR φ H F w res.v xv := by
  have frozen : ∀ {es : List (List PV)} {ad : Option Addr} {cap : Nat} {k : IntKind} {n : Int} {cs : List PV}, SlAt F w es ad → x = .slice ad es.length cap → y = .int k n → es[n.toNat]? = some cs → 0 ≤ n → j.size = cs.length →
      ∃ xv, (Instr.indexAt t x y).run P w = .ok xv w ∧ AR φ H F w (.c (.rp cs)) xv := by
    rintro es ad cap k n cs hs rfl rfl hcs hn0 hsz
    have hlt : n.toNat < es.length := (List.getElem?_eq_some_iff.1 hcs).1
    rcases hs with rfl | ⟨b, o, sz, rfl, _, hr⟩
    · simp at hlt
    · obtain ⟨h1, h2⟩ := hr _ _ hcs
      refine ⟨_, run_indexAt_sl hu hj hn0 (by omega) b o, .ofCR ⟨b, _, rfl, ?_⟩ rfl⟩
      rw [hsz, h1]
      exact h2
  unfold ixSl at h
  split at h
  · rename_i id n k iv
    split at h
    · rename_i sz fz es hg
      simp only [Option.some.injEq] at h
      subst h
      simp only [decide_eq_true_eq] at hp
      obtain ⟨h0, h1, rfl, h3⟩ := hp
      rw [hi.int]
      obtain ⟨⟨sz', fz', es', hg', hn, hv⟩, _⟩ := ha.cc
      rw [hg] at hg'
      obtain ⟨rfl, rfl, rfl⟩ : sz' = j.size ∧ fz' = fz ∧ es' = es := by cases hg'; exact ⟨rfl, rfl, rfl⟩
      rcases hv h3 with ⟨h4, _⟩ | ⟨r, cap, ee, kk, hφ, rfl, _⟩
      · omega
      · refine ⟨rfl, _, run_indexAt_sl hu hj h0 h1 r 0, .ofCR ⟨j.size, fz', es', r, _, hg, hn, rfl, fun _ => ⟨hφ, by simp⟩⟩ rfl⟩
    · cases h
  · rename_i es k iv
    split at h
    · rename_i cs hcs
      simp only [Option.some.injEq] at h
      subst h
      simp only [decide_eq_true_eq] at hp
      obtain ⟨ad, cap, hx, _, hs⟩ := Rp.slAt (show Rp F w (.sl es) x from ha.cc.1)
      exact ⟨rfl, frozen hs hx hi.int hcs hp.1 hp.2⟩
    · cases h
  · rename_i es k iv
    split at h
    · rename_i cs hcs
      simp only [Option.some.injEq] at h
      subst h
      simp only [decide_eq_true_eq] at hp
      obtain ⟨ad, hx, hs⟩ := ha.cc.1
      exact ⟨rfl, frozen hs hx hi.int hcs hp.1 hp.2⟩
    · cases h
  · rename_i id n k iv
    simp only [Option.some.injEq] at h
    subst h
    simp only [decide_eq_true_eq] at hp
    obtain ⟨h0, h1, h2⟩ := hp
    rw [hi.int]
    obtain ⟨b, r, hg, hb, hφ, rfl⟩ := ha.cc.1
    refine ⟨rfl, _, run_indexAt_sl hu hj h0 h1 r 0, .ofCR ⟨b, r, hg, hb, hφ, ?_⟩ rfl⟩
    rw [h2]
    simp
  · cases h

set_option maxHeartbeats 2000000 in
theorem bndL_rel {H : Hp} {φ : Pl} {F : Cl} {w : World} : ∀ {vs : List AV} {xs : List Value} {l : List (Bool × List PV)}, F2 (AR φ H F w) vs xs → bndL vs = some l →
    ∃ ys : List (List Value), bndV l ys = xs ∧ ys.length = l.length ∧ (∀ (i : Nat) (f : Bool × List PV) (v : List Value), l[i]? = some f → ys[i]? = some v → v.length = f.2.length ∧ (f.1 = false → f.2.length = 1)) ∧
      (∀ (i : Nat) (f : Bool × List PV) (v : List Value) (j : Nat) (c : PV) (x : Value), l[i]? = some f → ys[i]? = some v → f.2[j]? = some c → v[j]? = some x → Rp F w c x)
  | [], _, l, .nil, h => by
    simp only [bndL, Option.some.injEq] at h
    subst h
    exact ⟨[], rfl, rfl, fun i f v h => by simp at h, fun i f v j c x h => by simp at h⟩
  | v :: vs, x :: xs, l, .cons hv ht, h => by
    have key : ∀ (b : Bool) (cs : List PV) (ys1 : List Value), (b = false → cs.length = 1) → F2 (Rp F w) cs ys1 → (match b with | true => Value.agg ys1.toArray | false => ys1.headD undef) = x → ∀ l', bndL vs = some l' → l = (b, cs) :: l' →
      ∃ ys : List (List Value), bndV l ys = x :: xs ∧ ys.length = l.length ∧ (∀ (i : Nat) (f : Bool × List PV) (v : List Value), l[i]? = some f → ys[i]? = some v → v.length = f.2.length ∧ (f.1 = false → f.2.length = 1)) ∧
      (∀ (i : Nat) (f : Bool × List PV) (v : List Value) (j : Nat) (c : PV) (x : Value), l[i]? = some f → ys[i]? = some v → f.2[j]? = some c → v[j]? = some x → Rp F w c x) := by
      intro b cs ys1 hb h1 h2 l' hl' e
      subst e
      obtain ⟨ys, e1, e2, e3, e4⟩ := bndL_rel ht hl'
      refine ⟨ys1 :: ys, ?_, by simp [e2], ?_, ?_⟩
      · simp only [bndV]
        rw [e1]
        exact congrArg (· :: xs) h2
      · intro i f v hf hv
        cases i with
        | zero =>
          simp only [List.getElem?_cons_zero, Option.some.injEq] at hf hv
          subst hf hv
          exact ⟨h1.len.symm, hb⟩
        | succ i => exact e3 i f v (by simpa using hf) (by simpa using hv)
      · intro i f v j c y hf hv hc hy
        cases i with
        | zero =>
          simp only [List.getElem?_cons_zero, Option.some.injEq] at hf hv
          subst hf hv
          obtain ⟨z, hz, hr⟩ := h1.get hc
          rw [hz] at hy
          cases hy
          exact hr
        | succ i => exact e4 i f v j c y (by simpa using hf) (by simpa using hv) hc hy
    unfold bndL at h
    split at h
    · rename_i e; cases e
    · rename_i p r e
      cases e
      split at h
      · rename_i l' hl'
        cases h
        exact key false [p] [x] (fun _ => rfl) (.cons hv.cc.1 .nil) rfl l' hl' rfl
      · cases h
    · rename_i cs r e
      cases e
      split at h
      · rename_i l' hl'
        cases h
        obtain ⟨xs1, rfl, h1⟩ := hv.aggr
        exact key true cs xs1 (fun h => by cases h) h1 rfl l' hl' rfl
      · cases h
    · cases h
theorem bndS_run {H H' : Hp} {φ : Pl} {F : Cl} {w : World} {g : FuncId} {vs : List AV} {xs : List Value} {b : Bool} {v : AV} (hr : F2 (AR φ H F w) vs xs) (h : bndS g vs H = some ⟨b, v, H'⟩) : AR φ H F w v (.func (.func g) xs.toArray #[]) ∧ H' = H ∧ b = true := by
  have pure : ∀ l, bndL vs = some l → some (⟨true, .c (.p (.fn g l)), H⟩ : Res) = some ⟨b, v, H'⟩ → AR φ H F w v (.func (.func g) xs.toArray #[]) ∧ H' = H ∧ b = true := by
    intro l hl e
    cases e
    obtain ⟨ys, e1, e2, e3, e4⟩ := bndL_rel hr hl
    rw [← e1]
    exact ⟨.ofRp (.fn g l ys e2 e3 e4), rfl, rfl⟩
  unfold bndS at h
  split at h
  · rename_i id o
    simp only [ret, Option.some.injEq, Res.mk.injEq] at h
    obtain ⟨rfl, rfl, rfl⟩ := h
    cases hr with
    | cons h1 h2 =>
      cases h2
      obtain ⟨b, r, q1, q2, q3, rfl⟩ := h1.cc.1
      exact ⟨.ofCR ⟨b, r, q1, q2, q3, rfl⟩ rfl, rfl, rfl⟩
  · split at h
    · rename_i l hl
      exact pure l hl h
    · cases h

theorem opS_sound {o : Oper} {so : SOp} (hc : compOp P o.op = some so) {res : Res} (h : opS G so T H = some res) (hp : res.pre = true) (hS : SRel G φ H F w) (hρ : ∀ a s, compA a = some s → AR φ H F w (evS G T s) (ρ a)) :
    Snd P G (execOp ρ o) φ H F w res.v res.h := by
  obtain ⟨dst, op, type, pos, after, guard⟩ := o
  cases op <;> simp only [compOp, reduceCtorEq] at hc
  case move a =>
    split at hc
    · rename_i x hx
      cases hc
      simp only [opS, ret, Option.some.injEq] at h
      subst h
      exact Snd.keep hS rfl (hρ _ _ hx)
    · cases hc
  case assign a =>
    split at hc
    · rename_i x hx
      cases hc
      simp only [opS, ret, Option.some.injEq] at h
      subst h
      exact Snd.keep hS rfl (hρ _ _ hx)
    · cases hc
  case pick c a b =>
    split at hc
    · rename_i z x y hz hx hy
      cases hc
      simp only [opS] at h
      split at h
      · rename_i t ht
        simp only [ret, Option.some.injEq] at h
        subst h
        have hcb := hρ _ _ hz
        rw [ht] at hcb
        have hcv := hcb.bool
        refine Snd.keep (xv := if t then ρ a else ρ b) hS (by simp [execOp, hcv, asBool]) ?_
        cases t
        · exact hρ _ _ hy
        · exact hρ _ _ hx
      · cases h
    · cases hc
  case alloc t =>
    split at hc
    · rename_i cs hz
      split at hc
      · rename_i b hb
        cases hc
        simp only [opS, ret, Option.some.injEq] at h
        subst h
        obtain ⟨i, v, hi, hv, hcs⟩ := zeroCs_spec hz
        have hrel := constCs_rel (φ := φ) (H := H) (F := F) (w := w) hcs
        have hG : Grown w (w.alloc (.cells v.cells t)) (.cells v.cells.toList.toArray t) := by simpa using Grown.alloc w _
        have hcase : (∃ ps, mkAgg cs = .agg ps ∧ F2 (Rp F w) ps v.cells.toList) ∨ (∃ ps, mkAgg cs = .mg ps ∧ F2 (fun c x => CR φ H F w c x ∧ Flat x) ps v.cells.toList) ∨ (∃ c x, mkAgg cs = .c c ∧ v.cells.toList = [x] ∧ CR φ H F w c x ∧ Flat x) := by
          unfold mkAgg
          cases hp' : allPure cs with
          | none => exact .inr (.inl ⟨cs, rfl, hrel⟩)
          | some ps => rw [allPure_map hp'] at hrel; exact .inl ⟨ps, rfl, (F2.mapl.1 hrel).imp fun _ _ q => q.1⟩
        obtain ⟨E, S, A⟩ := snd_row hS hG hb hcase
        exact Snd.val (by simp [Instr.alloc, zeroValue, typeInfo, hi, hv, newVar, newRow]) E S A
      · cases hc
    · cases hc
  case box t a =>
    split at hc
    · rename_i x hx
      cases hc
      simp only [opS] at h
      split at h
      · rename_i b hb
        simp only [ret, Option.some.injEq] at h
        subst h
        have hr := hρ _ _ hx
        have hG : Grown w (w.alloc (.cells (ρ a).cells t)) (.cells (ρ a).cells.toList.toArray t) := by simpa using Grown.alloc w _
        have hcase : (∃ ps, evS G T x = .agg ps ∧ F2 (Rp F w) ps (ρ a).cells.toList) ∨ (∃ ps, evS G T x = .mg ps ∧ F2 (fun c x => CR φ H F w c x ∧ Flat x) ps (ρ a).cells.toList) ∨ (∃ c y, evS G T x = .c c ∧ (ρ a).cells.toList = [y] ∧ CR φ H F w c y ∧ Flat y) := by
          generalize evS G T x = X at *
          cases X with
          | un => simp [mkRow] at hb
          | c c =>
            obtain ⟨h1, h2⟩ := hr.cc
            exact .inr (.inr ⟨c, ρ a, rfl, by have : (ρ a).cells = #[ρ a] := by { generalize ρ a = V at *; cases V <;> first | rfl | (cases h2) }
                                              rw [this], h1, h2⟩)
          | agg cs => obtain ⟨xs, hx, h1⟩ := hr.aggr; rw [hx]; exact .inl ⟨cs, rfl, h1⟩
          | mg cs => obtain ⟨xs, hx, h1⟩ := hr.mix; rw [hx]; exact .inr (.inl ⟨cs, rfl, h1⟩)
          | tup vs => simp [mkRow] at hb
        obtain ⟨E, S, A⟩ := snd_row hS hG hb hcase
        exact Snd.val (by simp [Instr.box, newVar, newRow]) E S A
      · cases h
    · cases hc
  case build t ps =>
    have hc' := hc
    unfold compBuild at hc'
    have hso : ∃ z l, so = .build z l := by
      split at hc' <;> (try cases hc') <;> (split at hc' <;> (try cases hc')) <;> (split at hc' <;> (try cases hc')) <;> exact ⟨_, _, rfl⟩
    obtain ⟨z, l, rfl⟩ := hso
    simp only [opS] at h
    split at h
    · rename_i b cs hf
      simp only [Option.some.injEq] at h
      subst h
      obtain ⟨xv, h1, h2⟩ := build_run hρ hc hf hp
      exact Snd.same hS h1 h2
    · cases h
  case buildSlice t n ps =>
    split at hc
    · rename_i e ht
      split at hc
      · rename_i i z l hi hz hl
        split at hc
        · rename_i pre hpre
          split at hc
          · rename_i hd
            cases hc
            simp only [decide_eq_true_eq] at hd
            simp only [opS] at h
            split at h
            · rename_i b es H' hlit
              simp only [Option.some.injEq] at h
              subst h
              obtain ⟨xv, w', F', h1, E, S, A⟩ := lit_run hS hρ ht hi hz hl hpre hd hlit hp
              exact Snd.val h1 E S A
            · obtain ⟨xv, w', φ', h1, E, S, A⟩ := litP_run hS hρ ht hi hz hl hpre hd h
              exact Snd.val h1 E S A
          · cases hc
        · cases hc
      · cases hc
    · cases hc
  case load t a =>
    split at hc
    · rename_i agg n x hs hx
      cases hc
      obtain ⟨hh, xv, h1, h2⟩ := loadS_run hs hS (hρ _ _ hx) h hp
      rw [hh]
      exact Snd.same hS h1 h2
    · cases hc
  case store t a v =>
    split at hc
    · rename_i agg n x y hs hx hy
      cases hc
      obtain ⟨hv, w', h1, E, S⟩ := storeS_run hs hS (hρ _ _ hx) (hρ _ _ hy) h hp
      rw [hv]
      exact ⟨.skip, undef, w', φ, F, by simp [execOp, h1], .inr ⟨rfl, rfl⟩, E, S, .tup .nil⟩
    · cases hc
  case nilCheck a =>
    split at hc
    · rename_i x hx
      cases hc
      have hr := hρ _ _ hx
      simp only [opS] at h
      split at h <;> simp only [ret, Option.some.injEq, reduceCtorEq] at h <;> subst h
      · rename_i id o heq
        rw [heq] at hr
        obtain ⟨_, r, _, _, _, hv⟩ := hr.cc.1
        exact Snd.keep hS (by simp [execOp, hv]) (hv ▸ hr)
      · rename_i cs heq
        rw [heq] at hr
        obtain ⟨_, _, hv, _⟩ := hr.cc.1
        exact Snd.keep hS (by simp [execOp, hv]) (hv ▸ hr)
      · rename_i id n i o heq
        rw [heq] at hr
        obtain ⟨_, _, _, _, _, _, _, hv, _⟩ := hr.cc.1
        exact Snd.keep hS (by simp [execOp, hv]) (hv ▸ hr)
      · rename_i g cs heq
        rw [heq] at hr
        obtain ⟨_, hv, _⟩ := hr.cc.1
        exact Snd.keep hS (by simp [execOp, hv]) (hv ▸ hr)
      · rename_i g l heq
        rw [heq] at hr
        obtain ⟨xs, hv⟩ : ∃ xs, ρ a = .func (.func g) xs #[] := by
          have h1 : Rp F w (.fn g l) (ρ a) := hr.cc.1
          revert h1
          generalize ρ a = x
          intro h1
          cases h1
          exact ⟨_, rfl⟩
        exact Snd.keep hS (by simp [execOp, hv]) (hv ▸ hr)
    · cases hc
  case binOp op t a b yt =>
    split at hc
    · rename_i x y hx hy
      rcases compBin_cases hc with rfl | hop | rfl
      · obtain ⟨h1, h2⟩ := resOf_spec h
        obtain ⟨g1, xv, g2, g3⟩ := shS_run (P := P) (t := t) (hρ _ _ hx) (hρ _ _ hy) h1 hp
        rw [h2]
        exact snd_bin hS g1 g2 g3
      · obtain ⟨hh, xv, h1, h2⟩ := eqS_run op hop hc (hρ _ _ hx) (hρ _ _ hy) h hp
        rw [hh]
        exact Snd.same hS h1 h2
      · obtain ⟨h1, h2⟩ := resOf_spec h
        obtain ⟨g1, xv, g2, g3⟩ := binS_run (P := P) (t := t) (hρ _ _ hx) (hρ _ _ hy) h1 hp
        rw [h2]
        exact snd_bin hS g1 g2 g3
    · cases hc
  case unOp op t a =>
    split at hc
    · rename_i x hx
      cases hc
      have hr := hρ _ _ hx
      simp only [opS] at h
      split at h
      · rename_i v hv
        simp only [ret, Option.some.injEq] at h
        subst h
        unfold unS at hv
        split at hv <;> simp only [Option.some.injEq, reduceCtorEq] at hv <;> subst hv <;> rename_i heq
        · rw [heq] at hr
          have he := hr.bool
          exact Snd.same hS (xv := .bool _) (by simp only [he, Op.unary]; rfl) (AR.ofBool _)
        · rw [heq] at hr
          have he := hr.int
          exact Snd.same hS (xv := .int _ _) (by simp only [he, Op.unary, Op.intArith]; rfl) (AR.ofInt _ _)
        · rw [heq] at hr
          have he := hr.int
          exact Snd.same hS (xv := .int _ _) (by simp only [he, Op.unary, Op.intBits]; rfl) (AR.ofInt _ _)
      · cases h
    · cases hc
  case convert s d a =>
    split at hc
    · rename_i x hx
      have hr := hρ _ _ hx
      unfold compConv at hc
      split at hc
      · rename_i k1 k hs hd
        cases hc
        simp only [opS] at h
        split at h
        · rename_i k2 n heq
          simp only [ret, Option.some.injEq] at h
          subst h
          rw [heq] at hr
          exact Snd.same hS (xv := .int k (k.wrap n)) (by simp [hr.int, convert, run_underlying hs, run_underlying hd, Conv.intToInt]) (AR.ofInt _ _)
        · cases h
      · rename_i hs hd
        cases hc
        simp only [opS] at h
        split at h
        · rename_i l heq
          simp only [ret, Option.some.injEq] at h
          subst h
          rw [heq] at hr
          obtain ⟨t, ht, rfl⟩ := hr.str
          exact Snd.same hS (xv := .string t) (by simp [ht, convert, run_underlying hs, run_underlying hd]) (.ofStr t rfl)
        · cases h
      · rename_i e hs hd
        split at hc
        · rename_i he
          split at hc
          · rename_i i hi
            split at hc
            · cases hc
              simp only [opS] at h
              split at h
              · rename_i l heq
                simp only [ret, Option.some.injEq] at h
                subst h
                rw [heq] at hr
                obtain ⟨t, ht, rfl⟩ := hr.str
                obtain ⟨xv, w', F', h1, E, S, A⟩ := cBytes_run hS hs hd he t
                exact Snd.val (by rw [ht]; exact h1) E S A
              · cases h
            · cases hc
          · cases hc
        · cases hc
      · rename_i e hs hd
        split at hc
        · rename_i he
          cases hc
          simp only [opS] at h
          split at h
          · rename_i c heq
            split at h
            · rename_i b l hb
              simp only [Option.some.injEq] at h
              subst h
              rw [heq] at hr
              obtain ⟨xv, h1, h2⟩ := cString_run hS hs he hd hr.cc.1 hb hp
              exact Snd.same hS h1 h2
            · cases h
          · cases h
        · cases hc
      · cases hc
    · cases hc
  case makeFunc fn first caps =>
    cases fn <;> simp only [reduceCtorEq] at hc
    rename_i g
    split at hc
    · rename_i l hf hl
      cases hc
      simp only [opS] at h
      split at h
      · rename_i ids hids
        simp only [ret, Option.some.injEq] at h
        subst h
        have hr := capsA_rel (compAs_rel hρ hl) hids
        have hf' : first = #[] := by
          have := hf; exact Array.ext' (by simpa using this)
        have hcm : caps.map ρ = (caps.toList.map ρ).toArray := by
          apply Array.ext'
          simp
        refine Snd.same hS (xv := .func (.func g) #[] (caps.map ρ)) (by simp [Instr.makeFunc, hf']) (.ofCR ⟨caps.toList.map ρ, by rw [hcm], hr⟩ rfl)
      · cases h
    · rename_i fl hcps _
      split at hc
      · rename_i l hl
        cases hc
        have hr := compAs_rel hρ hl
        have hcp : caps = #[] := by
          cases hcs : caps.toList with
          | nil => exact Array.ext' (by simpa using hcs)
          | cons a r =>
            rw [hcs] at hcps
            simp only [compAs] at hcps
            split at hcps <;> cases hcps
        obtain ⟨h1, h2⟩ := bndS_run (g := g) hr h
        have hfm : first.map ρ = (first.toList.map ρ).toArray := by
          apply Array.ext'
          simp
        obtain ⟨hH, hp2⟩ := h2
        subst hH
        refine Snd.same hS (xv := .func (.func g) (first.map ρ) #[]) (by simp [Instr.makeFunc, hcp]) ?_
        rw [hfm]
        exact h1
      · cases hc
    · cases hc
  case makeSlice t l c =>
    split at hc
    · rename_i e ht
      split at hc
      · rename_i i z x y hi hz hx hy
        split at hc
        · rename_i zs hzs hd
          cases hc
          simp only [decide_eq_true_eq] at hd
          obtain ⟨xv, w', φ', F', h1, E, S, A⟩ := mkSl_run hS ht hi hz hzs hd.1 hd.2 (hρ _ _ hx) (hρ _ _ hy) h hp
          exact Snd.val h1 E S A
        · cases hc
      · cases hc
    · cases hc
  case slice t a lo hi mx =>
    split at hc
    · rename_i x l hh ht hx hl hhi hm
      cases hc
      have hmx : mx = none := by
        unfold compO at hm
        split at hm
        · rfl
        · split at hm <;> cases hm
      subst hmx
      obtain ⟨h0, xv, h1, h2⟩ := slStr_run ht (hρ _ _ hx) (compO_rel hρ hl) (compO_rel hρ hhi) h hp
      rw [h0]
      exact Snd.same hS h1 h2
    · rename_i e x l hh m ht hx hl hhi hm
      split at hc
      · rename_i i hne hi
        cases hc
        obtain ⟨F', xv, h1, E, S, A⟩ := slSl_run hS ht hi (hρ _ _ hx) (compO_rel hρ hl) (compO_rel hρ hhi) (compO_rel hρ hm) (by
          intro h1 h2
          cases m with
          | none => exact h1 rfl
          | some mm =>
            cases hh with
            | none => simp at hne
            | some q => cases h2) h hp
        exact Snd.val h1 E S A
      · cases hc
    · cases hc
  case fieldAddr t a f =>
    split at hc
    · rename_i off ag n x hf hx
      split at hc
      · rename_i hn
        cases hc
        have hr := hρ _ _ hx
        simp only [opS, fieldAddrS] at h
        split at h
        · rename_i c heq
          split at h
          · rename_i c' hc'
            simp only [ret, Option.some.injEq] at h
            subst h
            rw [heq] at hr
            obtain ⟨b, o, hv, hcr⟩ := addC_rel hr.cc.1 hc'
            exact Snd.same hS (by rw [hv]; exact run_fieldAt hf (by simpa using hn) b o) (.ofCR hcr rfl)
          · cases h
        · cases h
      · cases hc
    · cases hc
  case field t a f =>
    split at hc
    · rename_i off ag n x hf hx
      cases hc
      have hr := hρ _ _ hx
      obtain ⟨fs, fd, hu, hfd, rfl, hs⟩ := fieldOf_spec hf
      simp only [opS, fieldS] at h
      split at h
      · rename_i cs heq
        rw [heq] at hr
        obtain ⟨xs, hv, hrel⟩ := hr.aggr
        obtain ⟨h1, h2⟩ := resOf_spec h
        obtain ⟨xv, g1, g2⟩ := run_partV (P := P) (φ := φ) (H := H) hs hrel h1 hp
        rw [h2]
        exact Snd.same hS (by rw [hv]; simp [Instr.field, run_underlying hu, hfd, asAgg, g1]) g2
      · rename_i cs heq
        rw [heq] at hr
        obtain ⟨xs, hv, hrel⟩ := hr.mix
        obtain ⟨h1, h2⟩ := resOf_spec h
        obtain ⟨xv, g1, g2⟩ := run_partVM (P := P) hs hrel h1 hp
        rw [h2]
        exact Snd.same hS (by rw [hv]; simp [Instr.field, run_underlying hu, hfd, asAgg, g1]) g2
      · cases h
    · cases hc
  case indexAddr t a i =>
    split at hc
    · rename_i len e x y hu hx hy
      split at hc
      · rename_i j hj
        cases hc
        have hr := hρ _ _ hx
        have hri := hρ _ _ hy
        simp only [opS, ixArr] at h
        split at h
        · rename_i c k iv heq heqi
          split at h
          · rename_i c' hc'
            simp only [Option.some.injEq] at h
            subst h
            simp only [decide_eq_true_eq] at hp
            rw [heq] at hr
            rw [heqi] at hri
            obtain ⟨b, o, hv, hcr⟩ := addC_rel hr.cc.1 hc'
            exact Snd.same hS (by rw [hv, hri.int]; exact run_indexAt_arr hu hj hp.1 hp.2 b o) (.ofCR hcr rfl)
          · cases h
        · cases h
      · cases hc
    · rename_i e x y hu hx hy
      split at hc
      · rename_i j hj
        split at hc
        · cases hc
          obtain ⟨hh, xv, h1, h2⟩ := ixSl_run hS hu hj (hρ _ _ hx) (hρ _ _ hy) h hp
          rw [hh]
          exact Snd.same hS h1 h2
        · cases hc
      · cases hc
    · cases hc
  case index t a i =>
    split at hc
    · rename_i len e x y hu hx hy
      split at hc
      · rename_i ag n hs
        cases hc
        have hr := hρ _ _ hx
        have hri := hρ _ _ hy
        simp only [opS, ixAgg] at h
        split at h
        · rename_i cs k iv heq heqi
          split at h
          · rename_i b v hpt
            simp only [Option.some.injEq] at h
            subst h
            simp only [Bool.and_eq_true, decide_eq_true_eq] at hp
            rw [heq] at hr
            rw [heqi] at hri
            obtain ⟨xs, hv, hrel⟩ := hr.aggr
            obtain ⟨xv, g1, g2⟩ := run_partV (P := P) (φ := φ) (H := H) hs hrel hpt hp.1
            exact Snd.same hS (by rw [hv, hri.int]; simp [Instr.index, asIntOf, run_underlying hu, hp.2.1, hp.2.2, run_sizeOf hs, g1]) g2
          · cases h
        · rename_i cs k iv heq heqi
          split at h
          · rename_i b v hpt
            simp only [Option.some.injEq] at h
            subst h
            simp only [Bool.and_eq_true, decide_eq_true_eq] at hp
            rw [heq] at hr
            rw [heqi] at hri
            obtain ⟨xs, hv, hrel⟩ := hr.mix
            obtain ⟨xv, g1, g2⟩ := run_partVM (P := P) hs hrel hpt hp.1
            exact Snd.same hS (by rw [hv, hri.int]; simp [Instr.index, asIntOf, run_underlying hu, hp.2.1, hp.2.2, run_sizeOf hs, g1]) g2
          · cases h
        · cases h
      · cases hc
    · rename_i x y hu hx hy
      cases hc
      have hr := hρ _ _ hx
      have hri := hρ _ _ hy
      simp only [opS, ixStr] at h
      split at h
      · rename_i s k iv heq heqi
        split at h
        · rename_i b hb
          simp only [Option.some.injEq] at h
          subst h
          simp only [decide_eq_true_eq] at hp
          rw [heq] at hr
          rw [heqi] at hri
          obtain ⟨t, hv, rfl⟩ := hr.str
          have hlt : iv.toNat < t.size := by have := (List.getElem?_eq_some_iff.1 hb).1; rw [Array.length_toList] at this; exact this
          have hget : t[iv.toNat]? = some b := by
            rw [getElem?_pos t iv.toNat hlt]
            have := (List.getElem?_eq_some_iff.1 hb).2
            rw [← this]
            rfl
          exact Snd.same hS (xv := .int .u8 b.toNat) (by rw [hv, hri.int]; simp [Instr.index, asIntOf, run_underlying hu, hp, hget]) (AR.ofInt _ _)
        · cases h
      · cases h
    · cases hc
  case extract a i =>
    split at hc
    · rename_i x hx
      cases hc
      have hr := hρ _ _ hx
      simp only [opS] at h
      split at h
      · rename_i vs heq
        split at h
        · rename_i v hv
          simp only [ret, Option.some.injEq] at h
          subst h
          rw [heq] at hr
          obtain ⟨xs, hxv, hrel⟩ := hr.tupr
          obtain ⟨xv, h1, h2⟩ := hrel.get hv
          exact Snd.same hS (xv := xv) (by rw [hxv]; simp [Instr.extract, h1]) (.one h2)
        · cases h
      · cases h
    · cases hc
  case call c =>
    obtain ⟨callee, args, argTypes⟩ := c
    cases callee <;> simp only [compOp, reduceCtorEq] at hc
    case value f =>
      split at hc
      · cases hc
        simp [opS] at h
      · cases hc
    case builtin b =>
      have two : ∀ {α : Type} {l : Array α} {x y : α}, l.toList = [x, y] → l = #[x, y] := fun h => Array.ext' (by simpa using h)
      have one : ∀ {α : Type} {l : Array α} {x : α}, l.toList = [x] → l = #[x] := fun h => Array.ext' (by simpa using h)
      unfold compCall at hc
      split at hc
      · -- append
        rename_i t u rest a c hts hargs
        have hargs := two hargs
        subst hargs
        have happ : ∀ (ty : TypeId) (x y : Value), Builtin.append_ argTypes ty #[x, y] = Builtin.append_ #[t, u] ty #[x, y] := by
          intro ty x y
          have e0 : argTypes[0]? = some t := by rw [← Array.getElem?_toList, hts]; rfl
          have e1 : argTypes[1]? = some u := by rw [← Array.getElem?_toList, hts]; rfl
          simp only [Builtin.append_, e0, e1]
          rfl
        split at hc
        · rename_i e d x y ht hu hx hy
          split at hc
          · rename_i i z hi hz
            split at hc
            · rename_i hd
              cases hc
              simp only [decide_eq_true_eq] at hd
              simp only [opS] at h
              obtain ⟨xv, w', φ', F', h1, E, S, A⟩ := appS_run (ty := type) hS ht (u := u) (str := false) ⟨d, hu⟩ hi hz hd.1 hd.2 (hρ _ _ hx) (hρ _ _ hy) h hp
              refine ⟨_, xv, w', φ', F', ?_, .inl rfl, E, S, A⟩
              simp [execOp, resolve, invoke, builtin, happ, h1]
            · cases hc
          · cases hc
        · rename_i e x y ht hu hx hy
          split at hc
          · rename_i i z hi hz
            split at hc
            · rename_i hd
              cases hc
              simp only [decide_eq_true_eq] at hd
              simp only [opS] at h
              obtain ⟨xv, w', φ', F', h1, E, S, A⟩ := appS_run (ty := type) hS ht (u := u) (str := true) ⟨hu, hd.1⟩ hi hz (by omega) hd.2 (hρ _ _ hx) (hρ _ _ hy) h hp
              refine ⟨_, xv, w', φ', F', ?_, .inl rfl, E, S, A⟩
              simp [execOp, resolve, invoke, builtin, happ, h1]
            · cases hc
          · cases hc
        · cases hc
      · -- len
        rename_i t rest a hts hargs
        have hargs := one hargs
        subst hargs
        have hlen : ∀ (ty : TypeId) (x : Value), Builtin.len_ argTypes ty #[x] = Builtin.len_ #[t] ty #[x] := by
          intro ty x
          have e0 : argTypes[0]? = some t := by rw [← Array.getElem?_toList, hts]; rfl
          simp only [Builtin.len_, e0]
          rfl
        split at hc
        · rename_i e x hu hx
          cases hc
          simp only [opS] at h
          obtain ⟨hh, xv, h1, h2⟩ := lenS_run (ty := type) hS (str := false) ⟨e, hu⟩ (hρ _ _ hx) h hp
          rw [hh]
          exact Snd.keep hS (by simp [execOp, resolve, invoke, builtin, hlen, h1]) h2
        · rename_i x hu hx
          cases hc
          simp only [opS] at h
          obtain ⟨hh, xv, h1, h2⟩ := lenS_run (ty := type) hS (str := true) hu (hρ _ _ hx) h hp
          rw [hh]
          exact Snd.keep hS (by simp [execOp, resolve, invoke, builtin, hlen, h1]) h2
        · rename_i n e x hu hx
          cases hc
          simp only [opS, ret, Option.some.injEq] at h
          subst h
          have h1 : (Builtin.len_ argTypes type #[ρ a]).run P w = .ok (.int .i64 n) w := by
            rw [hlen]
            simp [Builtin.len_, run_underlying hu, goInt]
          exact Snd.keep (xv := .int .i64 n) hS (by simp [execOp, resolve, invoke, builtin, h1]) (AR.ofInt _ _)
        · cases hc
      · -- max
        rename_i ts a c hargs
        have hargs := two hargs
        subst hargs
        split at hc
        · rename_i x y hx hy
          cases hc
          simp only [opS] at h
          split at h
          · rename_i v hv
            simp only [ret, Option.some.injEq] at h
            subst h
            obtain ⟨xv, h1, h2⟩ := max_run (P := P) (ts := argTypes) (ty := type) (hρ _ _ hx) (hρ _ _ hy) hv
            exact Snd.keep hS (by simp [execOp, resolve, invoke, builtin, h1]) h2
          · cases h
        · cases hc
      · -- min
        rename_i ts a c hargs
        have hargs := two hargs
        subst hargs
        split at hc
        · rename_i x y hx hy
          cases hc
          simp only [opS] at h
          split at h
          · rename_i v hv
            simp only [ret, Option.some.injEq] at h
            subst h
            obtain ⟨xv, h1, h2⟩ := min_run (P := P) (ts := argTypes) (ty := type) (hρ _ _ hx) (hρ _ _ hy) hv
            exact Snd.keep hS (by simp [execOp, resolve, invoke, builtin, h1]) h2
          · cases h
        · cases hc
      · cases hc
end
end Go.Ab

namespace Go.Ab
open Go

inductive Ex where
  | norm
  | exit (id : Nat)
  | ret
  deriving DecidableEq, Inhabited

def TRel (φ : Pl) (H : Hp) (F : Cl) (w : World) (T : Tm) (tmps : Array Value) : Prop := ∀ t, AR φ H F w (T.get t) (tmps.getD t undef)

/-- The marks of loops over functions among the deferred calls. -/
def DOk (w : World) (base : Nat) (ds : List Deferred) : Prop :=
  ∃ rs : List Nat, ds = rs.map (fun r => { target := .collected r, args := #[] }) ∧ rs.Nodup ∧ ∀ r ∈ rs, base ≤ r ∧ w.heap[r]? = some (.deferred (some []))

def RoundOk (w : World) (ro : Option Nat) : Prop := ∀ l, ro = some l → ∃ r, w.heap[l]? = some (.loop r)

def Goes (P : Program) (fr : Frame) (x : Item) (k : List Item) (cs : List Frame) (w : World) (e : Ex) (fr' : Frame) (w' : World) : Prop :=
  match e with
  | .norm => Steps P (lone { fr with todo := x :: k } cs w) (lone { fr' with todo := k } cs w')
  | .exit id => ∃ k', exitTo id k' = exitTo id k ∧ Steps P (lone { fr with todo := x :: k } cs w) (lone { fr' with todo := .code (.exit id) :: k' } cs w')
  | .ret => ∃ k', Steps P (lone { fr with todo := x :: k } cs w) (lone { fr' with todo := .code .ret :: k' } cs w')

/-- What is held before a piece of code. -/
structure Pre (G : Gl) (N base : Nat) (φ : Pl) (H : Hp) (F : Cl) (w : World) (T : Tm) (fr : Frame) : Prop where
  run : fr.mode = .run
  size : fr.tmps.size = N
  defers : DOk w base fr.defers
  round : RoundOk w fr.roundOf
  base : base ≤ w.heap.size
  srel : SRel G φ H F w
  trel : TRel φ H F w T fr.tmps

def SemI (P : Program) (G : Gl) (N : Nat) (x : Item) (T : Tm) (H : Hp) (K : Ex → Tm → Hp → Prop) : Prop :=
  ∀ φ F w (fr : Frame) (k : List Item) (cs : List Frame) base, Pre G N base φ H F w T fr →
    ∃ e T' H' φ' F' w' tmps' ds', K e T' H' ∧ Evo φ H F w φ' H' F' w' ∧ Pre G N base φ' H' F' w' T' { fr with tmps := tmps', defers := ds' } ∧
      Goes P fr x k cs w e { fr with tmps := tmps', defers := ds' } w'

abbrev SemC (P : Program) (G : Gl) (N : Nat) (c : Code) (T : Tm) (H : Hp) (K : Ex → Tm → Hp → Prop) : Prop := SemI P G N (.code c) T H K

section
variable {P : Program} {G : Gl} {N : Nat} {φ φ' : Pl} {H H' : Hp} {F F' : Cl} {w w' : World} {T T' : Tm}

theorem owned_cells (hS : SRel G φ H F w) {id : Id} {r : Nat} (h : φ id = some r) : ∃ c e, w.heap[r]? = some (.cells c e (0, 0)) := by
  obtain ⟨b, hb⟩ := Option.isSome_iff_exists.1 (hS.has id r h)
  have hB := hS.blk id b hb
  cases b with
  | row cs => obtain ⟨r', c, h1, ⟨e, h2⟩, _⟩ := hB; rw [h] at h1; cases h1; exact ⟨c, e, h2⟩
  | mrow cs => obtain ⟨r', c, h1, ⟨e, h2⟩, _⟩ := hB; rw [h] at h1; cases h1; exact ⟨c, e, h2⟩
  | arr sz fz es =>
    obtain ⟨_, _, h2⟩ := hB
    rcases h2 with ⟨h3, _⟩ | ⟨r', c, h1, ⟨e, h2⟩, _⟩
    · rw [h] at h3; cases h3
    · rw [h] at h1; cases h1; exact ⟨c, e, h2⟩
  | hole => rw [show φ id = none from hB] at h; cases h

theorem Evo.other (hS : SRel G φ H F w) (E : Evo φ H F w φ' H' F' w') {r : Nat} {o : Obj} (h : w.heap[r]? = some o) (ho : ∀ c e f, o ≠ .cells c e f) : w'.heap[r]? = some o := by
  have hlt : r < w.heap.size := (Array.getElem?_eq_some_iff.1 h).1
  rw [E.keep r hlt, h]
  intro id e
  obtain ⟨c, e', h'⟩ := owned_cells hS e
  rw [h] at h'
  cases h'
  exact ho _ _ _ rfl

theorem DOk.evo (hS : SRel G φ H F w) (E : Evo φ H F w φ' H' F' w') {base : Nat} {ds : List Deferred} (h : DOk w base ds) : DOk w' base ds := by
  obtain ⟨rs, h1, h2, h3⟩ := h
  exact ⟨rs, h1, h2, fun r hr => ⟨(h3 r hr).1, E.other hS (h3 r hr).2 (by simp)⟩⟩

theorem RoundOk.evo (hS : SRel G φ H F w) (E : Evo φ H F w φ' H' F' w') {ro : Option Nat} (h : RoundOk w ro) : RoundOk w' ro := fun l hl => by
  obtain ⟨r, hr⟩ := h l hl
  exact ⟨r, E.other hS hr (by simp)⟩

theorem TRel.evo (E : Evo φ H F w φ' H' F' w') {tmps : Array Value} (h : TRel φ H F w T tmps) : TRel φ' H' F' w' T tmps := fun t => (h t).evo E

theorem TRel.put {tmps : Array Value} {d : Nat} {v : AV} {x : Value} (h : TRel φ H F w T tmps) (hd : d < tmps.size) (hv : AR φ H F w v x) : TRel φ H F w (T.put (some d) v) (tmps.setIfInBounds d x) := by
  intro t
  simp only [Tm.put, Tm.get]
  by_cases e : d = t
  · subst e
    rw [Nat.beq_refl]
    simpa [Array.getD_eq_getD_getElem?, hd] using hv
  · have : Nat.beq d t = false := by
      cases hb : Nat.beq d t with
      | true => exact absurd (Nat.eq_of_beq_eq_true hb) e
      | false => rfl
    rw [this]
    simpa [Array.getD_eq_getD_getElem?, Array.getElem?_setIfInBounds_ne e] using h t

/-- Less is known. -/
def Sub (T T' : Tm) : Prop := ∀ t, T'.get t = .un ∨ T'.get t = T.get t

theorem TRel.sub {tmps : Array Value} (h : TRel φ H F w T tmps) (hs : Sub T T') : TRel φ H F w T' tmps := fun t => by
  rcases hs t with e | e
  · rw [e]; exact .one (.un _)
  · rw [e]; exact h t

theorem Pre.sub {base : Nat} {fr : Frame} (h : Pre G N base φ H F w T fr) (hs : Sub T T') : Pre G N base φ H F w T' fr := { h with trel := h.trel.sub hs }

theorem SemI.mono {x : Item} {K K' : Ex → Tm → Hp → Prop} (h : SemI P G N x T H K) (hk : ∀ e T H, K e T H → K' e T H) : SemI P G N x T H K' := by
  intro φ F w fr k cs base hp
  obtain ⟨e, T', H', φ', F', w', tmps', ds', h1, h2⟩ := h φ F w fr k cs base hp
  exact ⟨e, T', H', φ', F', w', tmps', ds', hk _ _ _ h1, h2⟩

theorem SemI.sub {x : Item} {K : Ex → Tm → Hp → Prop} (hs : Sub T T') (h : SemI P G N x T' H K) : SemI P G N x T H K :=
  fun φ F w fr k cs base hp => h φ F w fr k cs base (hp.sub hs)

/-- One step that only turns what is to be done. -/
theorem SemI.stay {x : Item} {K : Ex → Tm → Hp → Prop} (hk : K .norm T H) (hs : ∀ (fr : Frame) (k : List Item) (cs : List Frame) (w : World), fr.mode = .run → step P (lone { fr with todo := x :: k } cs w) = .next (lone { fr with todo := k } cs w)) : SemI P G N x T H K :=
  fun φ F w fr k cs base hp => ⟨.norm, T, H, φ, F, w, fr.tmps, fr.defers, hk, Evo.refl φ H F w, hp, .one (hs fr k cs w hp.run)⟩

theorem sem_skip {K : Ex → Tm → Hp → Prop} (hk : K .norm T H) : SemC P G N .skip T H K :=
  .stay hk fun fr k cs w hm => step_lone_go (by simp [stepG, stepG.exec, hm])
theorem sem_label {l : Nat} {K : Ex → Tm → Hp → Prop} (hk : K .norm T H) : SemC P G N (.label l) T H K :=
  .stay hk fun fr k cs w hm => step_lone_go (by simp [stepG, stepG.exec, hm])
theorem sem_exit {id : Nat} {K : Ex → Tm → Hp → Prop} (hk : K (.exit id) T H) : SemC P G N (.exit id) T H K :=
  fun φ F w fr k cs base hp => ⟨.exit id, T, H, φ, F, w, fr.tmps, fr.defers, hk, Evo.refl φ H F w, hp, k, rfl, .refl _ _⟩
theorem sem_ret {K : Ex → Tm → Hp → Prop} (hk : K .ret T H) : SemC P G N .ret T H K :=
  fun φ F w fr k cs base hp => ⟨.ret, T, H, φ, F, w, fr.tmps, fr.defers, hk, Evo.refl φ H F w, hp, k, .refl _ _⟩

/-- Behind one step, a piece of the work and what follows. -/
theorem Goes.head {fr fr' : Frame} {x y : Item} {k k0 : List Item} {cs : List Frame} {e : Ex} (hk : ∀ id, exitTo id k0 = exitTo id k) (hne : e = .norm → k0 = k)
    (hs : step P (lone { fr with todo := x :: k } cs w) = .next (lone { fr with todo := y :: k0 } cs w)) (h : Goes P fr y k0 cs w e fr' w') : Goes P fr x k cs w e fr' w' := by
  cases e with
  | norm => have := hne rfl; subst this; exact Steps.head hs h
  | exit id => obtain ⟨k', h1, h2⟩ := h; exact ⟨k', h1.trans (hk id), Steps.head hs h2⟩
  | ret => obtain ⟨k', h2⟩ := h; exact ⟨k', Steps.head hs h2⟩

theorem sem_scope {b : Code} {K : Ex → Tm → Hp → Prop} (h : SemC P G N b T H K) : SemC P G N (.scope b) T H K := by
  intro φ F w fr k cs base hp
  obtain ⟨e, T', H', φ', F', w', tmps', ds', h1, h2, h3, h4⟩ := h φ F w fr (.inScope b :: k) cs base hp
  have hs : step P (lone { fr with todo := .code (.scope b) :: k } cs w) = .next (lone { fr with todo := .code b :: .inScope b :: k } cs w) := step_lone_go (by simp [stepG, stepG.exec, hp.run])
  refine ⟨e, T', H', φ', F', w', tmps', ds', h1, h2, h3, ?_⟩
  cases e with
  | norm => exact Steps.head hs (Steps.trans h4 (.one (step_lone_go (by simp [stepG, stepG.exec, hp.run]))))
  | exit id => obtain ⟨k', h5, h6⟩ := h4; exact ⟨k', by rw [h5]; rfl, Steps.head hs h6⟩
  | ret => obtain ⟨k', h6⟩ := h4; exact ⟨k', Steps.head hs h6⟩

theorem sem_seq {a b : Code} {K : Ex → Tm → Hp → Prop} (h : SemC P G N a T H fun e T H => match e with | .norm => SemC P G N b T H K | e => K e T H) : SemC P G N (.seq a b) T H K := by
  intro φ F w fr k cs base hp
  obtain ⟨e, T', H', φ', F', w', tmps', ds', h1, h2, h3, h4⟩ := h φ F w fr (.code b :: k) cs base hp
  have hs : step P (lone { fr with todo := .code (.seq a b) :: k } cs w) = .next (lone { fr with todo := .code a :: .code b :: k } cs w) := step_lone_go (by simp [stepG, stepG.exec, hp.run])
  cases e with
  | norm =>
    obtain ⟨e, T2, H2, φ2, F2, w2, tmps2, ds2, g1, g2, g3, g4⟩ := h1 φ' F' w' _ k cs base h3
    refine ⟨e, T2, H2, φ2, F2, w2, tmps2, ds2, g1, h2.trans g2, g3, ?_⟩
    cases e with
    | norm => exact Steps.head hs (Steps.trans h4 g4)
    | exit id => obtain ⟨k', h5, h6⟩ := g4; exact ⟨k', h5, Steps.head hs (Steps.trans h4 h6)⟩
    | ret => obtain ⟨k', h6⟩ := g4; exact ⟨k', Steps.head hs (Steps.trans h4 h6)⟩
  | exit id => obtain ⟨k', h5, h6⟩ := h4; exact ⟨.exit id, T', H', φ', F', w', tmps', ds', h1, h2, h3, k', by rw [h5]; rfl, Steps.head hs h6⟩
  | ret => obtain ⟨k', h6⟩ := h4; exact ⟨.ret, T', H', φ', F', w', tmps', ds', h1, h2, h3, k', Steps.head hs h6⟩

theorem eval_tmp {fr : Frame} (x : Operand) (todo : List Item) : ({ fr with todo := todo } : Frame).eval x = fr.eval x := by cases x <;> rfl

/-- An operand's value. -/
theorem eval_rel {fr : Frame} (hS : SRel G φ H F w) (hT : TRel φ H F w T fr.tmps) : ∀ (a : Operand) (s : SA), compA a = some s → AR φ H F w (evS G T s) (fr.eval a) := by
  intro a s h
  cases a with
  | tmp t => simp only [compA, Option.some.injEq] at h; subst h; exact hT t
  | const v =>
    simp only [compA] at h
    split at h
    · rename_i a ha
      simp only [Option.some.injEq] at h
      subst h
      exact constA_rel ha
    · cases h
  | global g =>
    simp only [compA, Option.some.injEq] at h
    subst h
    simp only [evS]
    cases hg : G g with
    | none => exact .one (.un _)
    | some cs => exact .ofCR ⟨g, 0, rfl, hS.glob g cs hg⟩ rfl
  | func f =>
    simp only [compA, Option.some.injEq] at h
    subst h
    exact .ofCR ⟨[], rfl, .nil⟩ rfl

theorem sem_cond {c : Operand} {s : SA} {t e : Code} {b : Bool} {K : Ex → Tm → Hp → Prop} (hc : compA c = some s) (hv : evS G T s = .c (.p (.bool b))) (h : SemC P G N (if b then t else e) T H K) : SemC P G N (.cond c t e) T H K := by
  intro φ F w fr k cs base hp
  obtain ⟨x, T', H', φ', F', w', tmps', ds', h1, h2, h3, h4⟩ := h φ F w fr k cs base hp
  have hr := eval_rel hp.srel hp.trel c s hc
  rw [hv] at hr
  have hs : step P (lone { fr with todo := .code (.cond c t e) :: k } cs w) = .next (lone { fr with todo := .code (if b then t else e) :: k } cs w) :=
    step_lone_go (by
      have he : ({ fr with todo := .code (.cond c t e) :: k } : Frame).eval c = .bool b := (eval_tmp c _).trans hr.bool
      simp only [stepG, hp.run] at he ⊢
      simp [stepG.exec, he])
  exact ⟨x, T', H', φ', F', w', tmps', ds', h1, h2, h3, h4.head (fun _ => rfl) (fun _ => rfl) hs⟩

theorem sem_block {id : Nat} {b : Code} {K : Ex → Tm → Hp → Prop} (h : SemC P G N b T H fun e T H => match e with | .exit i => if i = id then K .norm T H else K (.exit i) T H | e => K e T H) : SemC P G N (.block id b) T H K := by
  intro φ F w fr k cs base hp
  obtain ⟨e, T', H', φ', F', w', tmps', ds', h1, h2, h3, h4⟩ := h φ F w fr (.inBlock id :: k) cs base hp
  have hs : step P (lone { fr with todo := .code (.block id b) :: k } cs w) = .next (lone { fr with todo := .code b :: .inBlock id :: k } cs w) := step_lone_go (by simp [stepG, stepG.exec, hp.run])
  cases e with
  | norm => exact ⟨.norm, T', H', φ', F', w', tmps', ds', h1, h2, h3, Steps.head hs (Steps.trans h4 (.one (step_lone_go (by simp [stepG, stepG.exec, hp.run]))))⟩
  | exit i =>
    obtain ⟨k', h5, h6⟩ := h4
    by_cases hi : i = id
    · subst hi
      simp only [if_true] at h1
      refine ⟨.norm, T', H', φ', F', w', tmps', ds', h1, h2, h3, Steps.head hs (Steps.trans h6 (.one (step_lone_go ?_)))⟩
      have : exitTo i (.inBlock i :: k) = some k := by simp [exitTo]
      rw [this] at h5
      simp [stepG, stepG.exec, hp.run, h5]
    · simp only [hi, if_false] at h1
      refine ⟨.exit i, T', H', φ', F', w', tmps', ds', h1, h2, h3, k', ?_, Steps.head hs h6⟩
      rw [h5]
      have : (id == i) = false := by simp; exact fun h => hi h.symm
      simp [exitTo, this]
  | ret => obtain ⟨k', h6⟩ := h4; exact ⟨.ret, T', H', φ', F', w', tmps', ds', h1, h2, h3, k', Steps.head hs h6⟩

/-- A loop: what holds at each round's head, and what goes down. -/
theorem sem_loop {σ : Type} {b : Code} {K : Ex → Tm → Hp → Prop} (I : σ → Tm → Hp → Prop) (μ : σ → Nat) (s0 : σ) (h0 : I s0 T H)
    (round : ∀ s T H, I s T H → SemC P G N b T H fun e T' H' => match e with | .norm => ∃ s', I s' T' H' ∧ μ s' < μ s | e => K e T' H') : SemC P G N (.loop b) T H K := by
  intro φ F w fr k cs base hp
  have key : ∀ n s T H φ F w (fr : Frame), μ s = n → I s T H → Pre G N base φ H F w T fr →
      ∃ e T' H' φ' F' w' tmps' ds', K e T' H' ∧ Evo φ H F w φ' H' F' w' ∧ Pre G N base φ' H' F' w' T' { fr with tmps := tmps', defers := ds' } ∧
        (match e with
          | .norm => Steps P (lone { fr with todo := .code b :: .inLoop b :: k } cs w) (lone { fr with tmps := tmps', defers := ds', todo := k } cs w')
          | .exit id => ∃ k', exitTo id k' = exitTo id k ∧ Steps P (lone { fr with todo := .code b :: .inLoop b :: k } cs w) (lone { fr with tmps := tmps', defers := ds', todo := .code (.exit id) :: k' } cs w')
          | .ret => ∃ k', Steps P (lone { fr with todo := .code b :: .inLoop b :: k } cs w) (lone { fr with tmps := tmps', defers := ds', todo := .code .ret :: k' } cs w')) := by
    intro n
    induction n using Nat.strongRecOn with
    | _ n ih =>
      intro s T H φ F w fr hn hI hp
      obtain ⟨e, T', H', φ', F', w', tmps', ds', h1, h2, h3, h4⟩ := round s T H hI φ F w fr (.inLoop b :: k) cs base hp
      cases e with
      | norm =>
        obtain ⟨s', hI', hlt⟩ := h1
        obtain ⟨e, T2, H2, φ2, F2, w2, tmps2, ds2, g1, g2, g3, g4⟩ := ih _ (hn ▸ hlt) s' T' H' φ' F' w' _ rfl hI' h3
        have hs : step P (lone { fr with tmps := tmps', defers := ds', todo := .inLoop b :: k } cs w') = .next (lone { fr with tmps := tmps', defers := ds', todo := .code b :: .inLoop b :: k } cs w') := step_lone_go (by simp [stepG, stepG.exec, hp.run])
        refine ⟨e, T2, H2, φ2, F2, w2, tmps2, ds2, g1, h2.trans g2, g3, ?_⟩
        cases e with
        | norm => exact Steps.trans h4 (Steps.head hs g4)
        | exit id => obtain ⟨k', h5, h6⟩ := g4; exact ⟨k', h5, Steps.trans h4 (Steps.head hs h6)⟩
        | ret => obtain ⟨k', h6⟩ := g4; exact ⟨k', Steps.trans h4 (Steps.head hs h6)⟩
      | exit id => obtain ⟨k', h5, h6⟩ := h4; exact ⟨.exit id, T', H', φ', F', w', tmps', ds', h1, h2, h3, k', by rw [h5]; rfl, h6⟩
      | ret => obtain ⟨k', h6⟩ := h4; exact ⟨.ret, T', H', φ', F', w', tmps', ds', h1, h2, h3, k', h6⟩
  obtain ⟨e, T', H', φ', F', w', tmps', ds', h1, h2, h3, h4⟩ := key _ s0 T H φ F w fr rfl h0 hp
  have hs : step P (lone { fr with todo := .code (.loop b) :: k } cs w) = .next (lone { fr with todo := .code b :: .inLoop b :: k } cs w) := step_lone_go (by simp [stepG, stepG.exec, hp.run])
  refine ⟨e, T', H', φ', F', w', tmps', ds', h1, h2, h3, ?_⟩
  cases e with
  | norm => exact Steps.head hs h4
  | exit id => obtain ⟨k', h5, h6⟩ := h4; exact ⟨k', h5, Steps.head hs h6⟩
  | ret => obtain ⟨k', h6⟩ := h4; exact ⟨k', Steps.head hs h6⟩
end
end Go.Ab
