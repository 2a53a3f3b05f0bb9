/- Addresses, parts, equality, held against the model's. No condition. -/
import Derived.Test.YteipepbijfdciaaAb3d
import Derived.ChangeKeysEq
set_option linter.unusedSimpArgs false
set_option linter.unusedVariables false
namespace Go.Ab
open Go

section
variable {P : Program} {G : Gl} {φ : Pl} {H : Hp} {F : Cl} {w : World}

theorem addC_rel {c c' : C} {n : Nat} {x : Value} (h : CR φ H F w c x) (hc : addC c n = some c') : ∃ b o, x = .pointer (some ⟨b, o, none⟩) ∧ CR φ H F w c' (.pointer (some ⟨b, o + n, none⟩)) := by
  cases c <;> simp only [addC, Option.some.injEq, reduceCtorEq] at hc
  · subst hc
    obtain ⟨b, r, h1, h2, h3, rfl⟩ := h
    exact ⟨_, _, rfl, b, r, h1, h2, h3, rfl⟩
  · subst hc
    obtain ⟨sz, fz, es, b, k, h1, h2, rfl, h3⟩ := h
    exact ⟨_, _, rfl, sz, fz, es, b, _, h1, h2, rfl, fun e => ⟨(h3 e).1, by have := (h3 e).2; omega⟩⟩
  · subst hc
    obtain ⟨b, o, rfl, h1⟩ := h
    refine ⟨_, _, rfl, b, _, rfl, fun j u hj => ?_⟩
    rw [List.getElem?_drop] at hj
    have := h1 (n + j) u hj
    rwa [show o + n + j = o + (n + j) by omega]

theorem fieldOf_spec {t : TypeId} {f off n : Nat} {agg : Bool} (h : fieldOf P t f = some (off, agg, n)) :
    ∃ fs fd, P.underlying t = some (.struct fs) ∧ fs[f]? = some fd ∧ fd.offset = off ∧ shapeT P fd.type = some (agg, n) := by
  unfold fieldOf at h
  split at h
  · rename_i fs hu
    split at h
    · rename_i fd hf
      split at h
      · rename_i a m hs
        simp only [Option.some.injEq, Prod.mk.injEq] at h
        obtain ⟨rfl, rfl, rfl⟩ := h
        exact ⟨fs, fd, hu, hf, rfl, hs⟩
      · cases h
    · cases h
  · cases h

theorem run_fieldAt {t : TypeId} {f off n : Nat} {agg : Bool} (h : fieldOf P t f = some (off, agg, n)) (hn : 0 < n) (b o : Nat) :
    (Instr.fieldAt t (.pointer (some ⟨b, o, none⟩)) f).run P w = .ok (.pointer (some ⟨b, o + off, none⟩)) w := by
  obtain ⟨fs, fd, hu, hf, rfl, hs⟩ := fieldOf_spec h
  have hne : ¬ n = 0 := by omega
  simp [Instr.fieldAt, run_underlying hu, hf, Instr.sureAddr, fieldPlace, run_sizeOf hs, hne, Addr.add_lit]

theorem run_indexAt_arr {t e : TypeId} {len : Nat} {j : TypeInfo} (hu : P.underlying t = some (.array len e)) (hj : P.info? e = some j) {k : IntKind} {i : Int} (h0 : 0 ≤ i) (h1 : i < len) (b o : Nat) :
    (Instr.indexAt t (.pointer (some ⟨b, o, none⟩)) (.int k i)).run P w = .ok (.pointer (some ⟨b, o + i.toNat * j.size, none⟩)) w := by
  simp [Instr.indexAt, asIntOf, run_underlying hu, Instr.sureAddr, h0, h1, sizeOf, typeInfo, hj, Addr.add_lit]

theorem run_indexAt_sl {t e : TypeId} {j : TypeInfo} (hu : P.underlying t = some (.slice e)) (hj : P.info? e = some j) {k : IntKind} {i : Int} {len cap : Nat} (h0 : 0 ≤ i) (h1 : i < len) (b o : Nat) :
    (Instr.indexAt t (.slice (some ⟨b, o, none⟩) len cap) (.int k i)).run P w = .ok (.pointer (some ⟨b, o + i.toNat * j.size, none⟩)) w := by
  simp [Instr.indexAt, asIntOf, run_underlying hu, h0, h1, sizeOf, typeInfo, hj, Addr.add_lit]

theorem run_partV {t : TypeId} {agg : Bool} {n : Nat} (ht : shapeT P t = some (agg, n)) {cs : List PV} {xs : List Value} (hA : F2 (Rp F w) cs xs) {o : Nat} {p : Bool} {v : AV}
    (h : partP agg n cs o = some (p, v)) (hp : p = true) : ∃ xv, (part t xs.toArray o).run P w = .ok xv w ∧ AR φ H F w v xv := by
  subst hp
  cases agg with
  | true =>
    simp only [partP, Option.some.injEq, Prod.mk.injEq, decide_eq_true_eq] at h
    obtain ⟨hl, rfl⟩ := h
    refine ⟨.agg ((xs.drop o).take n).toArray, ?_, .one (.agg ((hA.drop o).take n))⟩
    simp [part, run_isAgg ht, run_sizeOf ht, List.extract_toArray, List.extract_eq_take_drop]
  | false =>
    simp only [partP] at h
    cases hc : cs[o]? with
    | none => simp [hc] at h
    | some u =>
      simp only [hc, Option.some.injEq, Prod.mk.injEq, true_and] at h
      subst h
      obtain ⟨x, hx, hr⟩ := hA.get hc
      refine ⟨x, ?_, .ofRp hr⟩
      simp [part, run_isAgg ht, hx]

theorem run_partVM {t : TypeId} {agg : Bool} {n : Nat} (ht : shapeT P t = some (agg, n)) {cs : List C} {xs : List Value} (hA : F2 (fun c x => CR φ H F w c x ∧ Flat x) cs xs) {o : Nat} {p : Bool} {v : AV}
    (h : partM agg n cs o = some (p, v)) (hp : p = true) : ∃ xv, (part t xs.toArray o).run P w = .ok xv w ∧ AR φ H F w v xv := by
  subst hp
  cases agg with
  | true =>
    simp only [partM, Option.some.injEq, Prod.mk.injEq, decide_eq_true_eq] at h
    obtain ⟨hl, rfl⟩ := h
    refine ⟨.agg ((xs.drop o).take n).toArray, ?_, mkAgg_rel ((hA.drop o).take n)⟩
    simp [part, run_isAgg ht, run_sizeOf ht, List.extract_toArray, List.extract_eq_take_drop]
  | false =>
    simp only [partM] at h
    cases hc : cs[o]? with
    | none => simp [hc] at h
    | some u =>
      simp only [hc, Option.some.injEq, Prod.mk.injEq, true_and] at h
      subst h
      obtain ⟨x, hx, hr⟩ := hA.get hc
      refine ⟨x, ?_, .ofCR hr.1 hr.2⟩
      simp [part, run_isAgg ht, hx]

/-! ### '==' of structs and arrays -/

theorem eqCells_append {ks ls : List LK} {bs ds : List PV} : ∀ {as cs : List PV} {r : Bool}, as.length = ks.length → cs.length = ks.length → eqCells (ks ++ ls) (as ++ bs) (cs ++ ds) = some r →
    ∃ p q, eqCells ks as cs = some p ∧ eqCells ls bs ds = some q ∧ r = (p && q) := by
  induction ks with
  | nil =>
    intro as cs r h1 h2 h
    obtain rfl : as = [] := List.eq_nil_of_length_eq_zero (by simpa using h1)
    obtain rfl : cs = [] := List.eq_nil_of_length_eq_zero (by simpa using h2)
    exact ⟨true, r, rfl, by simpa using h, by simp⟩
  | cons k ks ih =>
    intro as cs r h1 h2 h
    cases as with
    | nil => simp at h1
    | cons a as =>
    cases cs with
    | nil => simp at h2
    | cons c cs =>
      have h1' : as.length = ks.length := by simpa using h1
      have h2' : cs.length = ks.length := by simpa using h2
      cases he : eqCells (ks ++ ls) (as ++ bs) (cs ++ ds) with
      | none => cases k <;> cases a <;> cases c <;> simp [eqCells, he] at h
      | some q0 =>
        obtain ⟨p, q, e1, e2, rfl⟩ := ih h1' h2' he
        cases k <;> cases a <;> cases c <;> simp only [List.cons_append, eqCells, he, reduceCtorEq] at h
        · rename_i k k1 m k2 n
          cases hk : decide (k1 = k) && decide (k2 = k) with
          | false => simp [hk] at h
          | true =>
            simp only [hk, Option.some.injEq] at h
            exact ⟨decide (m = n) && p, q, by simp [eqCells, hk, e1], e2, by rw [← h, Bool.and_assoc]⟩
        · rename_i m n
          simp only [Option.some.injEq] at h
          exact ⟨decide (m = n) && p, q, by simp [eqCells, e1], e2, by rw [← h, Bool.and_assoc]⟩
        · rename_i m n
          simp only [Option.some.injEq] at h
          exact ⟨decide (m = n) && p, q, by simp [eqCells, e1], e2, by rw [← h, Bool.and_assoc]⟩

theorem eqCells_len {ks : List LK} : ∀ {as bs : List PV} {r : Bool}, eqCells ks as bs = some r → as.length = ks.length ∧ bs.length = ks.length := by
  induction ks with
  | nil => intro as bs r h; cases as <;> cases bs <;> simp [eqCells] at h; simp
  | cons k ks ih =>
    intro as bs r h
    cases as with
    | nil => cases k <;> simp [eqCells] at h
    | cons a as =>
      cases bs with
      | nil => cases k <;> cases a <;> simp [eqCells] at h
      | cons b bs =>
        cases he : eqCells ks as bs with
        | none => cases k <;> cases a <;> cases b <;> simp [eqCells, he] at h
        | some q => have := ih he; simp; exact this

/-- The cells of a value of a type. -/
def ValOf (agg : Bool) (x : Value) (xs : List Value) : Prop := match agg with
  | true => x = .agg xs.toArray
  | false => xs = [x] ∧ Flat x

theorem run_part_val {t : TypeId} {agg : Bool} {n : Nat} (ht : shapeT P t = some (agg, n)) (hn : agg = false → n = 1) {xs : List Value} {o : Nat} (ho : o + n ≤ xs.length) (hf : ∀ x ∈ xs, Flat x) :
    ∃ x, (part t xs.toArray o).run P w = .ok x w ∧ ValOf agg x ((xs.drop o).take n) := by
  cases agg with
  | true =>
    exact ⟨.agg ((xs.drop o).take n).toArray, by simp [part, run_isAgg ht, run_sizeOf ht, List.extract_toArray, List.extract_eq_take_drop], rfl⟩
  | false =>
    obtain rfl := hn rfl
    have hlt : o < xs.length := by omega
    refine ⟨xs[o], by simp [part, run_isAgg ht, hlt], ?_, hf _ (List.getElem_mem hlt)⟩
    rw [List.drop_eq_getElem_cons hlt]
    rfl

theorem f2_flat {cs : List PV} {xs : List Value} (h : F2 (Rp F w) cs xs) : ∀ x ∈ xs, Flat x := by
  induction h with
  | nil => intro x hx; cases hx
  | cons h _ ih =>
    intro x hx
    rcases List.mem_cons.1 hx with rfl | hx
    · exact h.flat
    · exact ih x hx

/-- '==' at a type is as its cells are. -/
def EqAt (P : Program) (w : World) (t : TypeId) (d : Nat) (ks : List LK) : Prop :=
  ∃ (agg : Bool) (n : Nat), shapeT P t = some (agg, n) ∧ ks.length = n ∧ (agg = false → n = 1) ∧ ∀ {F : Cl} {as bs : List PV} {x y : Value} {xs ys : List Value} {r : Bool}, ValOf agg x xs → ValOf agg y ys → F2 (Rp F w) as xs → F2 (Rp F w) bs ys →
    eqCells ks as bs = some r → (Op.equalIn d t x y).run P w = .ok r w

theorem seg_split {α : Type} (l : List α) (o k : Nat) : l.drop o = (l.drop o).take k ++ l.drop (o + k) := by
  rw [← List.drop_drop, List.take_append_drop]

theorem kindsF_len {pe : TypeId → Option (List LK)} (hpe : ∀ t ks, pe t = some ks → ∃ a n, shapeT P t = some (a, n) ∧ ks.length = n) : ∀ (fs : List Field) (o n : Nat) (ks : List LK), kindsF P pe fs o n = some ks → o + ks.length = n
  | [], o, n, ks, h => by
    simp only [kindsF] at h
    cases he : o == n with
    | false => simp [he] at h
    | true => simp only [he, Option.some.injEq] at h; subst h; simpa using he
  | f :: fs, o, n, ks, h => by
    simp only [kindsF] at h
    split at h
    · rename_i l1 a1 k1 hb hp hs
      split at h
      · rename_i l2 hr
        simp only [Option.some.injEq] at h
        subst h
        have := kindsF_len hpe fs _ n _ hr
        obtain ⟨a, m, hs', hl⟩ := hpe _ _ hp
        rw [hs] at hs'
        simp only [Option.some.injEq, Prod.mk.injEq] at hs'
        simp; omega
      · cases h
    · cases h

theorem run_eqFields {d : Nat} {pe : TypeId → Option (List LK)} (hpe : ∀ t ks, pe t = some ks → EqAt P w t d ks) {as bs : List PV} {xs ys : List Value} (hx : F2 (Rp F w) as xs) (hy : F2 (Rp F w) bs ys) {n : Nat} (ha : as.length = n) (hb : bs.length = n) :
    ∀ (fs : List Field) (o : Nat) (r : Bool) (ks : List LK), kindsF P pe fs o n = some ks → eqCells ks (as.drop o) (bs.drop o) = some r → (Op.eqFields d xs.toArray ys.toArray fs).run P w = .ok r w
  | [], o, r, ks, ht, he => by
    simp only [kindsF] at ht
    cases ho : o == n with
    | false => simp [ho] at ht
    | true =>
      simp only [ho, Option.some.injEq] at ht
      have ho : o = n := by simpa using ho
      subst ht
      rw [List.drop_of_length_le (by omega), List.drop_of_length_le (by omega)] at he
      simp only [eqCells, Option.some.injEq] at he
      subst he
      rfl
  | f :: fs, o, r, ks, ht, he => by
    have hl := kindsF_len (fun t ks h => by obtain ⟨a, n, h1, h2, _⟩ := hpe t ks h; exact ⟨a, n, h1, h2⟩) (f :: fs) o n ks ht
    simp only [kindsF] at ht
    split at ht
    · rename_i l1 a1 k1 hc hp hs
      split at ht
      · rename_i l2 hr
        simp only [Option.some.injEq] at ht
        subst ht
        simp only [Bool.and_eq_true, bne_iff_ne, ne_eq, beq_iff_eq] at hc
        obtain ⟨h1, rfl⟩ := hc
        obtain ⟨agg, k, hs', hlen, hk1, heq⟩ := hpe _ _ hp
        rw [hs] at hs'
        simp only [Option.some.injEq, Prod.mk.injEq] at hs'
        obtain ⟨rfl, rfl⟩ := hs'
        simp only [List.length_append] at hl
        have hxl := hx.len
        have hyl := hy.len
        rw [seg_split as f.offset k1, seg_split bs f.offset k1] at he
        obtain ⟨p, q, e1, e2, rfl⟩ := eqCells_append (by simp; omega) (by simp; omega) he
        obtain ⟨x, hx1, hx2⟩ := run_part_val (w := w) hs hk1 (xs := xs) (o := f.offset) (by omega) (f2_flat hx)
        obtain ⟨y, hy1, hy2⟩ := run_part_val (w := w) hs hk1 (xs := ys) (o := f.offset) (by omega) (f2_flat hy)
        have hr' := heq hx2 hy2 ((hx.drop f.offset).take k1) ((hy.drop f.offset).take k1) e1
        have ih := run_eqFields hpe hx hy ha hb fs (f.offset + k1) q l2 hr e2
        simp only [Op.eqFields, ne_eq, h1, not_false_eq_true, if_true, Sem.run_bind, hx1, hy1, hr', Result.andThen_ok]
        cases p with
        | false => simp
        | true => simp [ih]
      · cases ht
    · cases ht

theorem repK_len {α : Type} (l : List α) (n : Nat) : (repK l n).length = n * l.length := by
  induction n with
  | zero => simp [repK]
  | succ n ih => simp [repK, ih, Nat.succ_mul]; omega

theorem run_eqItems {d : Nat} {e : TypeId} {ks : List LK} {agg : Bool} {m : Nat} (hs : shapeT P e = some (agg, m)) (hpe : EqAt P w e d ks) {as bs : List PV} {xs ys : List Value} (hx : F2 (Rp F w) as xs) (hy : F2 (Rp F w) bs ys) :
    ∀ (n k : Nat) (r : Bool), as.length = (k + n) * m → bs.length = (k + n) * m → eqCells (repK ks n) (as.drop (k * m)) (bs.drop (k * m)) = some r →
      (Op.eqItems d e m xs.toArray ys.toArray (List.range' k n)).run P w = .ok r w
  | 0, k, r, ha, hb, he => by
    rw [List.drop_of_length_le (by simp [ha]), List.drop_of_length_le (by simp [hb])] at he
    simp only [repK, eqCells, Option.some.injEq] at he
    subst he
    rfl
  | n + 1, k, r, ha, hb, he => by
    have hpe' := hpe
    obtain ⟨agg', m', hs', hlen, hk1, heq⟩ := hpe'
    rw [hs] at hs'
    simp only [Option.some.injEq, Prod.mk.injEq] at hs'
    obtain ⟨rfl, rfl⟩ := hs'
    have e1 : (k + (n + 1)) * m = k * m + m + n * m := by rw [Nat.add_mul, Nat.succ_mul]; omega
    have hxl := hx.len
    have hyl := hy.len
    rw [seg_split as (k * m) m, seg_split bs (k * m) m] at he
    obtain ⟨p, q, h1, h2, rfl⟩ := eqCells_append (by simp; omega) (by simp; omega) he
    obtain ⟨x, hx1, hx2⟩ := run_part_val (w := w) hs hk1 (xs := xs) (o := k * m) (by omega) (f2_flat hx)
    obtain ⟨y, hy1, hy2⟩ := run_part_val (w := w) hs hk1 (xs := ys) (o := k * m) (by omega) (f2_flat hy)
    have hr := heq hx2 hy2 ((hx.drop (k * m)).take m) ((hy.drop (k * m)).take m) h1
    have ih := run_eqItems hs hpe hx hy n (k + 1) q (by rw [ha]; congr 1; omega) (by rw [hb]; congr 1; omega) (by rw [Nat.succ_mul]; exact h2)
    simp only [List.range'_succ, Op.eqItems, Sem.run_bind, hx1, hy1, hr, Result.andThen_ok]
    cases p with
    | false => simp
    | true => simpa using ih
end
end Go.Ab
