/- Literals, appends, conversions, slicings, held against the model's. No condition. -/
import Derived.Test.YteipepbijfdciaaAb3g
set_option linter.unusedSimpArgs false
set_option linter.unusedVariables false
namespace Go.Ab
open Go

section
variable {P : Program} {G : Gl} {φ : Pl} {H : Hp} {F : Cl} {w : World}

/-! ### Literals of structs and arrays -/

theorem fold_set : ∀ (us : List Value) (k off : Nat) (cs : Array Value), off + k + us.length ≤ cs.size →
    ((us.zipIdx k).foldl (fun cs (q : Value × Nat) => cs.setIfInBounds (off + q.2) q.1) cs).toList = putAt cs.toList (off + k) us
  | [], k, off, cs, _ => by simp [putAt]
  | u :: us, k, off, cs, h => by
    simp only [List.length_cons] at h
    rw [List.zipIdx_cons, List.foldl_cons, fold_set us (k + 1) off _ (by simp; omega)]
    have := list_seg_step cs.toList (off + k) u us (by simp; omega)
    simp only [Array.toList_setIfInBounds, putAt, List.length_cons]
    rw [show off + (k + 1) = off + k + 1 by omega, this]

theorem fill_step {place : Nat → Option (Nat × Nat)} {cells : Array Value} {i o n : Nat} {v : Value} {rest : List (Nat × Value)} (hp : place i = some (o, n)) (hn : v.cells.size = n) (hl : o + n ≤ cells.size) :
    Instr.fill place cells ((i, v) :: rest) = Instr.fill place (putAt cells.toList o v.cells.toList).toArray rest := by
  subst hn
  have hc : ¬ (o + v.cells.size > cells.size) := by omega
  simp only [Instr.fill, hp, ne_eq, not_true, decide_false, Bool.false_or, decide_eq_true_eq, hc, if_false]
  have := fold_set v.cells.toList 0 o cells (by simp; omega)
  rw [Nat.add_zero] at this
  rw [← this, if_neg (by simp)]
  congr 1
  rw [← Array.foldl_toList]
  simp

/-- Parts, one by one. -/
theorem fill_run {place : Nat → Option (Nat × Nat)} : ∀ {ps : List (Nat × Nat × AV)} {qs : List (Nat × Value)} {cs out : List C} {p : Bool} {cells : Array Value},
    F2 (fun (a : Nat × Nat × AV) (q : Nat × Value) => place q.1 = some (a.1, a.2.1) ∧ AR φ H F w a.2.2 q.2) ps qs → F2 (fun c x => CR φ H F w c x ∧ Flat x) cs cells.toList →
    fillS ps cs = some (p, out) → p = true → ∃ r, Instr.fill place cells qs = some r ∧ F2 (fun c x => CR φ H F w c x ∧ Flat x) out r.toList
  | [], _, cs, out, p, cells, .nil, hc, h, hp => by
    simp only [fillS, Option.some.injEq, Prod.mk.injEq] at h
    obtain ⟨_, rfl⟩ := h
    exact ⟨cells, rfl, hc⟩
  | (o, n, v) :: ps, _, cs, out, p, cells, .cons (b := (i, x)) ⟨hpl, hv⟩ ht, hc, h, hp => by
    simp only [fillS] at h
    split at h
    · rename_i us hu
      split at h
      · rename_i b o' hr
        simp only [Option.some.injEq, Prod.mk.injEq] at h
        obtain ⟨rfl, rfl⟩ := h
        simp only [Bool.and_eq_true, decide_eq_true_eq] at hp
        have hvc := hv.cells hu
        have h1 := hvc.len
        have h2 := hc.len
        simp only [Array.length_toList] at h1 h2
        have hpl' : place i = some (o, n) := hpl
        obtain ⟨r, hr1, hr2⟩ := fill_run (cells := (putAt cells.toList o x.cells.toList).toArray) ht (putAt_f2 hc hvc o) hr hp.1
        exact ⟨r, by rw [fill_step hpl' (by omega) (by omega)]; exact hr1, hr2⟩
      · cases h
    · cases h

theorem constC_rel {v : Value} {c : C} (h : constC v = some c) : CR φ H F w c v ∧ Flat v := by
  unfold constC at h
  split at h <;> simp only [Option.some.injEq, reduceCtorEq] at h <;> subst h
  · exact ⟨Rp.int _ _, rfl⟩
  · exact ⟨Rp.bool _, rfl⟩
  · exact ⟨Rp.str _, rfl⟩
  · exact ⟨rfl, rfl⟩
  · exact ⟨rfl, rfl⟩
  · exact ⟨rfl, rfl⟩

theorem constCs_rel : ∀ {vs : List Value} {cs : List C}, constCs vs = some cs → F2 (fun c x => CR φ H F w c x ∧ Flat x) cs vs
  | [], cs, h => by simp only [constCs, Option.some.injEq] at h; subst h; exact .nil
  | v :: vs, cs, h => by
    simp only [constCs] at h
    split at h
    · rename_i c cs' h1 h2
      simp only [Option.some.injEq] at h
      subst h
      exact .cons (constC_rel h1) (constCs_rel h2)
    · cases h

theorem constA_rel {v : Value} {a : AV} (h : constA v = some a) : AR φ H F w a v := by
  unfold constA at h
  split at h
  · rename_i cs
    split at h
    · rename_i l hl
      simp only [Option.some.injEq] at h
      subst h
      have := mkAgg_rel (constCs_rel (φ := φ) (H := H) (F := F) (w := w) hl)
      simpa using this
    · cases h
  · split at h
    · rename_i c hc
      simp only [Option.some.injEq] at h
      subst h
      have := constC_rel (φ := φ) (H := H) (F := F) (w := w) hc
      exact .ofCR this.1 this.2
    · cases h

theorem zeroCs_spec {t : TypeId} {z : List C} (h : zeroCs P t = some z) : ∃ i v, P.info? t = some i ∧ i.zero = some v ∧ constCs v.cells.toList = some z := by
  unfold zeroCs at h
  split at h
  · rename_i i hi
    split at h
    · rename_i v hv
      exact ⟨i, v, hi, hv, h⟩
    · cases h
  · cases h

theorem compParts_rel {place : Nat → Option (Nat × Nat)} {T : Tm} {ρ : Operand → Value} (hρ : ∀ a s, compA a = some s → AR φ H F w (evS G T s) (ρ a)) : ∀ {l : List (Nat × Operand)} {ps : List (Nat × Nat × SA)}, compParts place l = some ps →
    F2 (fun (a : Nat × Nat × AV) (q : Nat × Value) => place q.1 = some (a.1, a.2.1) ∧ AR φ H F w a.2.2 q.2) (ps.map fun q => (q.1, q.2.1, evS G T q.2.2)) (l.map fun q => (q.1, ρ q.2))
  | [], ps, h => by simp only [compParts, Option.some.injEq] at h; subst h; exact .nil
  | (i, a) :: l, ps, h => by
    simp only [compParts] at h
    split at h
    · rename_i o n x l' h1 h2 h3
      simp only [Option.some.injEq] at h
      subst h
      exact .cons ⟨h1, hρ _ _ h2⟩ (compParts_rel hρ h3)
    · cases h

theorem fieldPlaces_mapM : ∀ {fs : List Field} {pl : List (Nat × Nat)}, fieldPlaces P fs = some pl → fs.mapM (fun f => (P.info? f.type).map fun i => (f.offset, i.size)) = some pl
  | [], pl, h => by simp only [fieldPlaces, Option.some.injEq] at h; subst h; rfl
  | f :: fs, pl, h => by
    simp only [fieldPlaces] at h
    split at h
    · rename_i j l h1 h2
      simp only [Option.some.injEq] at h
      subst h
      simp [List.mapM_cons, h1, fieldPlaces_mapM h2]
    · cases h

theorem build_run {t : TypeId} {ps : Array (Nat × Operand)} {T : Tm} {ρ : Operand → Value} (hρ : ∀ a s, compA a = some s → AR φ H F w (evS G T s) (ρ a)) {z : List C} {l : List (Nat × Nat × SA)} (hc : compBuild P t ps.toList = some (.build z l)) {p : Bool} {out : List C}
    (h : fillS (l.map fun q => (q.1, q.2.1, evS G T q.2.2)) z = some (p, out)) (hp : p = true) :
    ∃ xv, (Instr.build t (ps.map fun (i, x) => (i, ρ x))).run P w = .ok xv w ∧ AR φ H F w (mkAgg out) xv := by
  have fin : ∀ (place : Nat → Option (Nat × Nat)) (i : TypeInfo) (v : Value), P.info? t = some i → i.zero = some v → constCs v.cells.toList = some z → compParts place ps.toList = some l →
      (∀ r, Instr.fill place v.cells (ps.toList.map fun q => (q.1, ρ q.2)) = some r → P.built t (ps.toList.map fun q => (q.1, ρ q.2)) = some r) →
      ∃ xv, (Instr.build t (ps.map fun (i, x) => (i, ρ x))).run P w = .ok xv w ∧ AR φ H F w (mkAgg out) xv := by
    intro place i v hi hz hcs hl hb
    obtain ⟨r, hr, hrel⟩ := fill_run (compParts_rel hρ hl) (constCs_rel hcs) h hp
    refine ⟨.agg r, run_build w t _ r ?_, by simpa using mkAgg_rel hrel⟩
    have := hb r hr
    simpa using this
  unfold compBuild at hc
  split at hc
  · rename_i z' fs hz hu
    split at hc
    · rename_i pl hpl
      split at hc
      · rename_i l' hl
        simp only [Option.some.injEq, SOp.build.injEq] at hc
        obtain ⟨rfl, rfl⟩ := hc
        obtain ⟨i, v, hi, hzv, hcs⟩ := zeroCs_spec hz
        refine fin _ i v hi hzv hcs hl fun r hr => ?_
        unfold Program.built
        simp only [hi, hu, hzv, fieldPlaces_mapM hpl]
        simpa using hr
      · cases hc
    · cases hc
  · rename_i z' n e hz hu
    split at hc
    · rename_i j hj
      split at hc
      · rename_i l' hl
        simp only [Option.some.injEq, SOp.build.injEq] at hc
        obtain ⟨rfl, rfl⟩ := hc
        obtain ⟨i, v, hi, hzv, hcs⟩ := zeroCs_spec hz
        refine fin _ i v hi hzv hcs hl fun r hr => ?_
        unfold Program.built
        simp only [hi, hu, hzv, hj]
        exact hr
      · cases hc
    · cases hc
  · cases hc

/-! ### A slice's literal -/

theorem litS_run {n : Nat} : ∀ {as : List AV} {es : List (List PV)} {H H' : Hp} {F : Cl} {p : Bool} {xs : List Value}, SRel G φ H F w → F2 (AR φ H F w) as xs → litS n H as = some (p, es, H') → p = true →
    ∃ F', Evo φ H F w φ H' F' w ∧ SRel G φ H' F' w ∧ F2 (fun r (x : Value) => F2 (Rp F' w) r x.cells.toList ∧ x.cells.size = n) es xs
  | [], es, H, H', F, p, xs, hS, hc, h, hp => by
    simp only [litS, Option.some.injEq, Prod.mk.injEq] at h
    obtain ⟨_, rfl, rfl⟩ := h
    cases hc
    exact ⟨F, Evo.refl φ H F w, hS, .nil⟩
  | c :: cs, es, H, H', F, p, _, hS, .cons hc ht, h, hp => by
    simp only [litS] at h
    split at h
    · rename_i b1 c1 H1 h1
      split at h
      · rename_i cs1 b2 r2 H2 hpu h2
        simp only [Option.some.injEq, Prod.mk.injEq] at h
        obtain ⟨rfl, rfl, rfl⟩ := h
        simp only [Bool.and_eq_true, decide_eq_true_eq] at hp
        obtain ⟨F1, E1, S1, C1⟩ := freezeA_run hS hc h1 hp.1.1
        obtain ⟨F2', E2, S2, C2⟩ := litS_run S1 (ht.imp fun _ _ q => q.evo E1) h2 hp.1.2
        have hr := pureA_rel C1 hpu
        refine ⟨F2', E1.trans E2, S2, .cons ⟨hr.imp fun _ _ q => q.keeps E2.kp, ?_⟩ C2⟩
        have := hr.len
        simp only [Array.length_toList] at this
        omega
      · cases h
    · cases h

/-- Parts side by side. -/
theorem fill_rows {n : Nat} (hn : 0 < n) : ∀ (xs : List Value) (k : Nat) (cells : Array Value), (∀ x ∈ xs, x.cells.size = n) → cells.size = (k + xs.length) * n →
    Instr.fill (fun i => some (i * n, n)) cells ((List.range' k xs.length).zip xs) = some ((cells.toList.take (k * n)) ++ xs.flatMap (fun x => x.cells.toList)).toArray
  | [], k, cells, _, hs => by
    simp only [List.length_nil, List.range'_zero, List.zip_nil_left, Instr.fill, List.flatMap_nil, List.append_nil, Option.some.injEq]
    rw [List.take_of_length_le (by simp [hs])]
  | x :: xs, k, cells, hx, hs => by
    have hx0 := hx x (by simp)
    simp only [List.length_cons] at hs
    have e1 : (k + (xs.length + 1)) * n = k * n + n + xs.length * n := by rw [Nat.add_mul, Nat.succ_mul]; omega
    have hpl : putAt cells.toList (k * n) x.cells.toList = cells.toList.take (k * n) ++ x.cells.toList ++ cells.toList.drop (k * n + n) := by simp [putAt, hx0]
    rw [List.length_cons, List.range'_succ, List.zip_cons_cons, fill_step (o := k * n) (n := n) rfl hx0 (by omega)]
    rw [fill_rows hn xs (k + 1) _ (fun y hy => hx y (by simp [hy])) (by
      have := putAt_len (cs := cells.toList) (us := x.cells.toList) (o := k * n) (by simp; omega)
      simp only [List.size_toArray, this, Array.length_toList, hs]
      congr 1
      omega)]
    have ht : (cells.toList.take (k * n)).length = k * n := by simp; omega
    have hl2 : (cells.toList.take (k * n) ++ x.cells.toList).length = (k + 1) * n := by rw [List.length_append, ht, Nat.succ_mul]; simp [hx0]
    rw [hpl, List.toList_toArray, ← hl2, List.take_left, List.flatMap_cons, List.append_assoc]

theorem compLit_spec {T : Tm} {ρ : Operand → Value} (hρ : ∀ a s, compA a = some s → AR φ H F w (evS G T s) (ρ a)) : ∀ {l : List (Nat × Operand)} {k : Nat} {ps : List SA}, compLit k l = some ps →
    (l.map fun q => (q.1, ρ q.2)) = (List.range' k ps.length).zip (l.map fun q => ρ q.2) ∧ F2 (AR φ H F w) (ps.map (evS G T)) (l.map fun q => ρ q.2)
  | [], k, ps, h => by simp only [compLit, Option.some.injEq] at h; subst h; exact ⟨rfl, .nil⟩
  | (i, a) :: l, k, ps, h => by
    simp only [compLit] at h
    split at h
    · rename_i x l' h1 h2 h3
      simp only [Option.some.injEq] at h
      subst h
      have hik : k = i := by simpa using h1
      subst hik
      obtain ⟨e1, e2⟩ := compLit_spec hρ h3
      refine ⟨?_, .cons (hρ _ _ h2) e2⟩
      simp only [List.map_cons, List.length_cons, List.range'_succ, List.zip_cons_cons, e1]
    · cases h

theorem rows_at {n : Nat} (hn : 0 < n) {es : List (List PV)} {xs : List Value} (h : F2 (fun r (x : Value) => F2 (Rp F w) r x.cells.toList ∧ x.cells.size = n) es xs) :
    ∀ {i : Nat} {r : List PV}, es[i]? = some r → r.length = n ∧ ∀ (j : Nat) (u : PV), r[j]? = some u → ∃ v, (xs.flatMap (fun x => x.cells.toList))[i * n + j]? = some v ∧ Rp F w u v := by
  induction h with
  | nil => intro i r h; simp at h
  | cons h t ih =>
    rename_i a b as bs
    intro i r hi
    have hbl : b.cells.toList.length = n := by simp [h.2]
    cases i with
    | zero =>
      simp at hi
      subst hi
      refine ⟨by rw [h.1.len, hbl], fun j u hj => ?_⟩
      obtain ⟨v, hv, hr⟩ := h.1.get hj
      refine ⟨v, ?_, hr⟩
      have : j < b.cells.toList.length := (List.getElem?_eq_some_iff.1 hv).1
      rw [List.flatMap_cons, List.getElem?_append_left (by omega), Nat.zero_mul, Nat.zero_add]
      exact hv
    | succ i =>
      obtain ⟨h1, h2⟩ := ih (by simpa using hi)
      refine ⟨h1, fun j u hj => ?_⟩
      obtain ⟨v, hv, hr⟩ := h2 j u hj
      refine ⟨v, ?_, hr⟩
      rw [List.flatMap_cons, List.getElem?_append_right (by rw [hbl, Nat.succ_mul]; omega), hbl, show (i + 1) * n + j - n = i * n + j by rw [Nat.succ_mul]; omega]
      exact hv

theorem lit_run (hS : SRel G φ H F w) {t e : TypeId} {i : TypeInfo} {z : List C} {len : Nat} {ps : Array (Nat × Operand)} {T : Tm} {ρ : Operand → Value} (hρ : ∀ a s, compA a = some s → AR φ H F w (evS G T s) (ρ a)) {l : List SA}
    (ht : P.underlying t = some (.slice e)) (hi : P.info? e = some i) (hz : zeroCs P e = some z) (hl : compLit 0 ps.toList = some l) (hd : 0 < i.size ∧ l.length = len ∧ len * i.size ≤ 2 ^ 24 ∧ z.length = i.size)
    {p : Bool} {es : List (List PV)} {H' : Hp} (h : litS i.size H (l.map (evS G T)) = some (p, es, H')) (hp : p = true) :
    ∃ xv w' F', (Instr.buildSlice t len (ps.map fun (i, x) => (i, ρ x))).run P w = .ok xv w' ∧ Evo φ H F w φ H' F' w' ∧ SRel G φ H' F' w' ∧ AR φ H' F' w' (.c (.ti es)) xv := by
  obtain ⟨h0, h1, h2, h3⟩ := hd
  obtain ⟨e1, e2⟩ := compLit_spec hρ hl
  obtain ⟨F1, E1, S1, C1⟩ := litS_run hS e2 h hp
  obtain ⟨i', v, hi', hzv, hcs⟩ := zeroCs_spec hz
  rw [hi] at hi'
  cases hi'
  have hvs : v.cells.size = i.size := by have := (constCs_rel (φ := φ) (H := H) (F := F) (w := w) hcs).len; simp at this; omega
  have hxl : (ps.toList.map fun q => ρ q.2).length = len := by have := e2.len; simp only [List.length_map] at this ⊢; omega
  have hall : ∀ x ∈ (ps.toList.map fun q => ρ q.2), x.cells.size = i.size := by
    intro x hx
    obtain ⟨k, hk⟩ := List.getElem?_of_mem hx
    have hlt := (List.getElem?_eq_some_iff.1 hk).1
    have hes : k < es.length := by rw [C1.len]; exact hlt
    obtain ⟨b, hb, _, hq⟩ := C1.get (List.getElem?_eq_getElem hes)
    rw [hk] at hb
    cases hb
    exact hq
  have hsize : ((Array.range (len * i.size)).map (v.cells[· % v.cells.size]!)).size = (0 + (ps.toList.map fun q => ρ q.2).length) * i.size := by simp only [Array.size_map, Array.size_range, Nat.zero_add, hxl]
  have hfill := fill_rows h0 (ps.toList.map fun q => ρ q.2) 0 _ hall hsize
  simp only [Nat.zero_mul, List.take_zero, List.nil_append] at hfill
  have hlen' : (ps.toList.map fun q => ρ q.2).length = l.length := by omega
  rw [hlen', ← e1] at hfill
  generalize hX : (ps.toList.map fun q => ρ q.2).flatMap (fun x => x.cells.toList) = X at *
  have hmap : (ps.map fun (i, x) => (i, ρ x)).toList = ps.toList.map fun q => (q.1, ρ q.2) := by simp
  have hbig : ¬ (len * i.size > 2 ^ 24) := by omega
  have hrun : (Instr.buildSlice t len (ps.map fun (i, x) => (i, ρ x))).run P w = .ok (.slice (some ⟨w.heap.size, 0, none⟩) len len) (w.alloc (.cells X.toArray e)) := by
    simp only [Instr.buildSlice, Sem.run_bind, run_underlying ht, Result.andThen_ok, sizeOf, typeInfo, run_program, hi, Sem.run_pure, Sem.run_ite, hbig, if_false, hmap]
    by_cases hc : len * i.size = 0
    · have : ∀ g : Nat → Value, (Array.range (len * i.size)).map g = (Array.range (len * i.size)).map (v.cells[· % v.cells.size]!) := by
        intro g; simp [hc]
      simp only [hc, if_true]
      rw [hc] at this hfill
      rw [this, hfill]
      simp [newRow]
    · simp [hc, zeroValue, typeInfo, hi, hzv, hfill, newRow]
  have G1 : Grown w (w.alloc (.cells X.toArray e)) (.cells X.toArray e (0, 0)) := Grown.alloc w _
  obtain ⟨E2, S2⟩ := snd_frozen S1 G1
  have hes : es.length = len := by have := C1.len; omega
  refine ⟨_, _, _, hrun, E1.trans E2, S2, .ofCR ⟨some ⟨w.heap.size, 0, none⟩, by rw [hes], ?_⟩ rfl⟩
  · refine .inr ⟨w.heap.size, 0, i.size, rfl, h0, fun k r hr => ?_⟩
    obtain ⟨q1, q2⟩ := rows_at h0 C1 hr
    rw [hX] at q2
    refine ⟨q1, fun j u hj => ⟨.inr rfl, ?_⟩⟩
    obtain ⟨x, hx, hrel⟩ := q2 j u hj
    exact ⟨x, by rw [Nat.zero_add]; simp only [World.cell?, G1.new]; simpa using hx, hrel.keeps E2.kp⟩
end
end Go.Ab
