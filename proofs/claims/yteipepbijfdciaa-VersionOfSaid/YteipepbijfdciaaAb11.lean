/- What a law's arguments are, read off memory. No condition. -/
import Derived.Test.YteipepbijfdciaaAb10
import Derived.ProofKit
import Derived.OpenShut
set_option linter.unusedSimpArgs false
set_option linter.unusedVariables false
namespace Go.Ab
open Go

/-- A type's shape: values alone. -/
inductive Sh where
  | int (k : IntKind)
  | bool
  | str
  | sl (m bytes : Nat) (e : Sh)
  | st (r : Sh)
  | nil
  | cons (n : Nat) (s r : Sh)
  | arr (n m : Nat) (e : Sh)
  deriving Inhabited

def shF (P : Program) (rec : TypeId → Option Sh) : List Field → Nat → Nat → Option Sh
  | [], o, n => match o == n with
    | true => some .nil
    | false => none
  | f :: r, o, n => match f.offset == o, rec f.type, shF P rec r (o + P.cellsOf f.type) n with
    | true, some s, some q => some (.cons (P.cellsOf f.type) s q)
    | _, _, _ => none

def shOf (P : Program) : Nat → TypeId → Option Sh
  | 0, _ => none
  | d + 1, t => match P.underlying t with
    | some .bool => some .bool
    | some (.int k) => some (.int k)
    | some .string => some .str
    | some (.slice e) => match shOf P d e, decide (0 < P.cellsOf e) with
      | some s, true => some (.sl (P.cellsOf e) (P.bytesOf e) s)
      | _, _ => none
    | some (.struct fs) => match shF P (shOf P d) fs.toList 0 (P.cellsOf t) with
      | some r => some (.st r)
      | none => none
    | some (.array n e) => match shOf P d e, n * P.cellsOf e == P.cellsOf t with
      | some s, true => some (.arr n (P.cellsOf e) s)
      | _, _ => none
    | _ => none

/-- Values of a shape. -/
def wt : Sh → List PV → Prop
  | .int k, cs => ∃ n, cs = [.int k n] ∧ k.min ≤ n ∧ n ≤ k.max
  | .bool, cs => ∃ b, cs = [.bool b]
  | .str, cs => ∃ s, cs = [.str s] ∧ s.length ≤ reachBytes
  | .sl m b e, cs => ∃ es, cs = [.sl es] ∧ es.length * b ≤ reachBytes ∧ es.length ≤ maxLen ∧ ∀ r ∈ es, r.length = m ∧ wt e r
  | .st r, cs => wt r cs
  | .nil, cs => cs = []
  | .cons n s r, cs => ∃ a b, cs = a ++ b ∧ a.length = n ∧ wt s a ∧ wt r b
  | .arr n m e, cs => ∃ rs : List (List PV), cs = rs.flatten ∧ rs.length = n ∧ ∀ r ∈ rs, r.length = m ∧ wt e r

def omap {α β : Type} (f : α → Option β) : List α → Option (List β)
  | [] => some []
  | a :: r => match f a, omap f r with
    | some b, some l => some (b :: l)
    | _, _ => none

/-- The values that data say. -/
def pvOf {H : Type} : Sh → List (DataW H) → Option (List PV)
  | .int _, [.lit (.int k n)] => some [.int k n]
  | .bool, [.lit (.bool b)] => some [.bool b]
  | .str, [.lit (.string s)] => some [.str s]
  | .sl _ _ _, [.nil] => some [.sl []]
  | .sl _ _ e, [.slice ds _] => match omap (fun d => pvOf e [d]) ds with
    | some es => some [.sl es]
    | none => none
  | .st r, [.agg ds] => pvOf r ds
  | .nil, [] => some []
  | .cons _ s r, d :: ds => match pvOf s [d], pvOf r ds with
    | some a, some b => some (a ++ b)
    | _, _ => none
  | .arr _ _ e, [.agg ds] => match omap (fun d => pvOf e [d]) ds with
    | some rs => some rs.flatten
    | none => none
  | _, _ => none

/-- All cells of a world. -/
def allF (w : World) : Cl := fun b o => (w.cell? ⟨b, o, none⟩).isSome = true

section
variable {H : Type} {enc : TypeId × Value → H} {P : Program} {w : World} {sp : Nat → Bool} {held : Bool}

def Opens (P : Program) (enc : TypeId × Value → H) (w : World) (sp : Nat → Bool) (held : Bool) (n : Nat) : Prop :=
  ∀ (fuel : Nat) (t : TypeId) (cs : List Value) (d : DataW H) (p : List MemPlace) (sh : Sh), DataW.trod enc P w 0 sp held fuel t cs = some (d, p) → shOf P n t = some sh → (∀ x ∈ d.weights P t, x ≤ reachBytes) →
    ∃ pvs, pvOf sh [d] = some pvs ∧ wt sh pvs ∧ F2 (Rp (allF w) w) pvs cs

theorem shF_le {rec : TypeId → Option Sh} : ∀ {fs : List Field} {o n : Nat} {sh : Sh}, shF P rec fs o n = some sh → o ≤ n
  | [], o, n, sh, h => by
    simp only [shF] at h
    split at h
    · rename_i e; simp at e; omega
    · cases h
  | f :: r, o, n, sh, h => by
    simp only [shF] at h
    split at h
    · rename_i h3
      have := shF_le h3
      omega
    · cases h

theorem open_fields {n m : Nat} (ih : Opens P enc w sp held n) {cs : List Value} : ∀ {fs : List Field} {o : Nat} {sh : Sh} {xs : List (DataW H × List MemPlace)}, shF P (shOf P n) fs o cs.length = some sh → fs.length = xs.length →
    (∀ (i : Nat) (f : Field), fs[i]? = some f → DataW.trod enc P w 0 sp held m f.type ((cs.drop f.offset).take (P.cellsOf f.type)) = xs[i]?) → (∀ x ∈ DataW.weightsEach P (fs.map (·.type)) (xs.map (·.1)), x ≤ reachBytes) →
    ∃ pvs, pvOf sh (xs.map (·.1)) = some pvs ∧ wt sh pvs ∧ F2 (Rp (allF w) w) pvs (cs.drop o)
  | [], o, sh, xs, h, hl, hr, hw => by
    simp only [shF] at h
    split at h
    · rename_i e
      simp at e
      subst e
      cases h
      have : xs = [] := by simpa using hl.symm
      subst this
      exact ⟨[], rfl, rfl, by simpa using F2.nil⟩
    · cases h
  | f :: r, o, sh, xs, h, hl, hr, hw => by
    simp only [shF] at h
    split at h
    · rename_i s q e h2 h3
      simp only [Option.some.injEq] at h
      subst h
      simp at e
      subst e
      cases xs with
      | nil => simp at hl
      | cons x xs =>
        obtain ⟨d, p⟩ := x
        simp only [List.map_cons, DataW.weightsEach, List.mem_append] at hw
        obtain ⟨a, a1, a2, a3⟩ := ih m f.type _ d p s (hr 0 f rfl) h2 fun x hx => hw x (.inl hx)
        obtain ⟨b, b1, b2, b3⟩ := open_fields ih h3 (by simpa using hl) (fun i g hg => by simpa using hr (i + 1) g (by simpa using hg)) fun x hx => hw x (.inr hx)
        have hle := shF_le h3
        have hal : a.length = P.cellsOf f.type := by
          rw [a3.len, List.length_take, List.length_drop]
          omega
        refine ⟨a ++ b, by simp [pvOf, a1, b1], ⟨a, b, rfl, hal, a2, b2⟩, ?_⟩
        have := a3.app b3
        rwa [show cs.drop (f.offset + P.cellsOf f.type) = (cs.drop f.offset).drop (P.cellsOf f.type) by rw [List.drop_drop], List.take_append_drop] at this
    · cases h

theorem weightsAll_mem {e : TypeId} : ∀ {ds : List (DataW H)} {d : DataW H} {x : Nat}, d ∈ ds → x ∈ d.weights P e → x ∈ DataW.weightsAll P e ds
  | d' :: r, d, x, h, hx => by
    simp only [DataW.weightsAll, List.mem_append]
    rcases List.mem_cons.1 h with h | h
    · subst h; exact .inl hx
    · exact .inr (weightsAll_mem h hx)

theorem open_array {n m k N : Nat} (ih : Opens P enc w sp held n) {e : TypeId} {s : Sh} (hs : shOf P n e = some s) (hk : P.cellsOf e = k) {cs : List Value} (hc : cs.length = N * k) {xs : List (DataW H × List MemPlace)} (hl : xs.length = N)
    (hr : ∀ i, i < N → DataW.trod enc P w 0 sp held m e ((cs.drop (i * k)).take k) = xs[i]?) (hw : ∀ d ∈ xs.map (·.1), ∀ x ∈ d.weights P e, x ≤ reachBytes) :
    ∀ (j i : Nat), i + j = N → ∃ rs : List (List PV), omap (fun d => pvOf s [d]) ((xs.drop i).map (·.1)) = some rs ∧ rs.length = j ∧ (∀ r ∈ rs, r.length = k ∧ wt s r) ∧ F2 (Rp (allF w) w) rs.flatten (cs.drop (i * k)) := by
  intro j
  induction j with
  | zero =>
    intro i hi
    have h1 : xs.drop i = [] := List.drop_eq_nil_of_le (by omega)
    have h2 : cs.drop (i * k) = [] := List.drop_eq_nil_of_le (by rw [hc, show i = N by omega]; exact Nat.le_refl _)
    exact ⟨[], by rw [h1]; rfl, rfl, (fun _ h => by cases h), by rw [h2]; exact .nil⟩
  | succ j ihj =>
    intro i hi
    obtain ⟨rs, r1, r2, r3, r4⟩ := ihj (i + 1) (by omega)
    have hlt : i < xs.length := by omega
    have hx : xs.drop i = xs[i] :: xs.drop (i + 1) := List.drop_eq_getElem_cons hlt
    obtain ⟨a, a1, a2, a3⟩ := ih m e _ xs[i].1 xs[i].2 s ((hr i (by omega)).trans (List.getElem?_eq_getElem hlt)) hs (hw _ (List.mem_map.2 ⟨xs[i], List.getElem_mem hlt, rfl⟩))
    have hle : (i + 1) * k ≤ cs.length := by rw [hc]; exact Nat.mul_le_mul_right k (by omega)
    have hal : a.length = k := by
      rw [a3.len, List.length_take, List.length_drop]
      rw [Nat.add_mul] at hle
      omega
    refine ⟨a :: rs, by rw [hx, List.map_cons]; simp only [omap, a1, r1], by simp [r2], fun r hr => ?_, ?_⟩
    · rcases List.mem_cons.1 hr with e | hr
      · subst e; exact ⟨hal, a2⟩
      · exact r3 r hr
    · have := a3.app r4
      rwa [show cs.drop ((i + 1) * k) = (cs.drop (i * k)).drop k by rw [List.drop_drop]; congr 1; rw [Nat.add_mul]; omega, List.take_append_drop] at this

theorem cells?_get {base : Nat} {a : Addr} {n : Nat} {cs : List Value} (h : w.cells? base a n = some cs) : cs.length = n ∧ ∀ j, j < n → w.cell? (a.add j) = cs[j]? := by
  unfold World.cells? at h
  split at h
  · refine ⟨by simpa using mapM_some_length h, fun j hj => mapM_some_get h j j (by simp [hj])⟩
  · cases h

theorem open_elems {n m k N : Nat} (ih : Opens P enc w sp held n) {e : TypeId} {s : Sh} (hs : shOf P n e = some s) (_hk : P.cellsOf e = k) {a : Addr} {xs : List (DataW H × List MemPlace)} (hl : xs.length = N)
    (hr : ∀ i, i < N → (w.cells? 0 (a.add (i * k)) k).bind (DataW.trod enc P w 0 sp held m e) = xs[i]?) (hw : ∀ d ∈ xs.map (·.1), ∀ x ∈ d.weights P e, x ≤ reachBytes) :
    ∀ (j i : Nat), i + j = N → ∃ rs : List (List PV), omap (fun d => pvOf s [d]) ((xs.drop i).map (·.1)) = some rs ∧ rs.length = j ∧ (∀ r ∈ rs, r.length = k ∧ wt s r) ∧
      ∀ (q : Nat) (r : List PV), rs[q]? = some r → ∃ ccs, w.cells? 0 (a.add ((i + q) * k)) k = some ccs ∧ F2 (Rp (allF w) w) r ccs := by
  intro j
  induction j with
  | zero =>
    intro i hi
    have h1 : xs.drop i = [] := List.drop_eq_nil_of_le (by omega)
    exact ⟨[], by rw [h1]; rfl, rfl, (fun _ h => by cases h), fun q r h => by simp at h⟩
  | succ j ihj =>
    intro i hi
    obtain ⟨rs, r1, r2, r3, r4⟩ := ihj (i + 1) (by omega)
    have hlt : i < xs.length := by omega
    have hx : xs.drop i = xs[i] :: xs.drop (i + 1) := List.drop_eq_getElem_cons hlt
    have h0 := (hr i (by omega)).trans (List.getElem?_eq_getElem hlt)
    obtain ⟨ccs, c1, c2⟩ := Option.bind_eq_some_iff.1 h0
    obtain ⟨p, a1, a2, a3⟩ := ih m e _ xs[i].1 xs[i].2 s c2 hs (hw _ (List.mem_map.2 ⟨xs[i], List.getElem_mem hlt, rfl⟩))
    have hal : p.length = k := by rw [a3.len, (cells?_get c1).1]
    refine ⟨p :: rs, by rw [hx, List.map_cons]; simp only [omap, a1, r1], by simp [r2], fun r hr => ?_, fun q r hq => ?_⟩
    · rcases List.mem_cons.1 hr with e | hr
      · subst e; exact ⟨hal, a2⟩
      · exact r3 r hr
    · cases q with
      | zero => simp at hq; subst hq; exact ⟨ccs, c1, a3⟩
      | succ q =>
        simp at hq
        obtain ⟨c', h1, h2⟩ := r4 q r hq
        exact ⟨c', by rw [show i + (q + 1) = i + 1 + q by omega]; exact h1, h2⟩

theorem opens : ∀ n, Opens P enc w sp held n
  | 0 => by intro fuel t cs d p sh h hs; simp [shOf] at hs
  | n + 1 => by
    intro fuel t cs d p sh h hs hw
    simp only [shOf] at hs
    split at hs
    · rename_i ht
      cases hs
      cases fuel with
      | zero => simp [DataW.trod] at h
      | succ fuel =>
        unfold DataW.trod at h
        rw [ht] at h
        split at h <;> simp_all
        obtain ⟨rfl, -⟩ := h
        exact ⟨_, rfl, ⟨_, rfl⟩, .cons (.bool _) .nil⟩
    · rename_i k ht
      cases hs
      cases fuel with
      | zero => simp [DataW.trod] at h
      | succ fuel =>
        unfold DataW.trod at h
        rw [ht] at h
        split at h <;> simp_all
        obtain ⟨⟨rfl, h1⟩, rfl, -⟩ := h
        refine ⟨_, rfl, ⟨_, rfl, ?_⟩, .cons (.int _ _) .nil⟩
        simpa [Lit.wf] using h1
    · rename_i ht
      cases hs
      cases fuel with
      | zero => simp [DataW.trod] at h
      | succ fuel =>
        unfold DataW.trod at h
        rw [ht] at h
        split at h <;> simp_all
        obtain ⟨h1, rfl, -⟩ := h
        refine ⟨_, rfl, ⟨_, rfl, ?_⟩, .cons (.str _) .nil⟩
        exact hw _ (by simp [DataW.weights])
    · rename_i e ht
      split at hs
      · rename_i s h1 h2
        simp only [Option.some.injEq] at hs
        subst hs
        simp only [decide_eq_true_eq] at h2
        rcases DataW.trod_slice ht h with ⟨rfl, hx⟩ | ⟨a, len, cap, elems, rest, m, rfl, rfl, hx, -, hle, hcap, hlen, hel, -, -⟩
        · cases hx
          exact ⟨_, rfl, ⟨[], rfl, by simp, by simp, (fun _ h => by cases h)⟩, .cons (.sl0 _ _) .nil⟩
        · cases hx
          simp only [DataW.weights, ht, List.mem_cons, List.mem_append] at hw
          obtain ⟨rs, r1, r2, r3, r4⟩ := open_elems (opens n) h1 rfl hlen hel (fun d hd x hx => hw x (.inr (.inl (weightsAll_mem hd hx)))) len 0 (by omega)
          have hb := hw _ (.inl rfl)
          refine ⟨[.sl rs], by simp only [pvOf]; rw [show elems.map (·.1) = (elems.drop 0).map (·.1) by simp, r1], ⟨rs, rfl, ?_, ?_, r3⟩, .cons ?_ .nil⟩
          · refine Nat.le_trans (Nat.mul_le_mul_right _ ?_) hb
            simp only [List.length_map]
            omega
          · omega
          · rw [← r2]
            refine Rp.of_slAt ?_ rfl (by omega)
            cases rs with
            | nil => exact .inl rfl
            | cons r0 rs' =>
              right
              have h0 : 0 < P.cellsOf e := h2
              obtain ⟨c0, q1, q2⟩ := r4 0 r0 rfl
              obtain ⟨q3, q4⟩ := cells?_get q1
              have q5 := q4 0 h0
              have hsp := World.cell?_spot (w := w) (a := (a.add ((0 + 0) * P.cellsOf e)).add 0) (v := c0[0]'(by omega)) (by rw [q5]; exact List.getElem?_eq_getElem (by omega))
              obtain ⟨b, o, spot⟩ := a
              have hspot : spot = none := by simpa [Addr.add] using hsp
              subst hspot
              refine ⟨b, o, P.cellsOf e, rfl, h0, fun i r hi => ⟨(r3 r (List.mem_of_getElem? hi)).1, fun j c hc => ?_⟩⟩
              obtain ⟨c1, t1, t2⟩ := r4 i r hi
              obtain ⟨t3, t4⟩ := cells?_get t1
              obtain ⟨v, v1, v2⟩ := t2.get hc
              have hj : j < P.cellsOf e := by rw [← t3]; exact (List.getElem?_eq_some_iff.1 v1).1
              have := t4 j hj
              rw [v1] at this
              have e1 : ((Addr.mk b o none).add ((0 + i) * P.cellsOf e)).add j = ⟨b, o + i * P.cellsOf e + j, none⟩ := by rw [Go.WideShapes.add_plain, Go.WideShapes.add_plain]; simp
              rw [e1] at this
              exact ⟨by simp [allF, this], v, this, v2⟩
      · cases hs
    · rename_i fs ht
      split at hs
      · rename_i r h1
        simp only [Option.some.injEq] at hs
        subst hs
        obtain ⟨xs, m, rfl, hx, hl, hlen, hf⟩ := DataW.trod_struct ht h
        cases hx
        simp only [DataW.weights, ht] at hw
        rw [← hl] at h1
        obtain ⟨pvs, p1, p2, p3⟩ := open_fields (opens n) h1 (by simp [hlen]) (fun i f hi => hf i f (by simpa using hi)) (by simpa using hw)
        exact ⟨pvs, p1, p2, by simpa using p3⟩
      · cases hs
    · rename_i N e ht
      split at hs
      · rename_i s h1 h2
        simp only [Option.some.injEq] at hs
        subst hs
        simp only [beq_iff_eq] at h2
        obtain ⟨xs, m, rfl, hx, hl, hlen, hf⟩ := DataW.trod_array ht h
        cases hx
        simp only [DataW.weights, ht] at hw
        obtain ⟨rs, r1, r2, r3, r4⟩ := open_array (opens n) h1 rfl (hl.trans h2.symm) hlen hf (fun d hd x hx => hw x (weightsAll_mem hd hx)) N 0 (by omega)
        refine ⟨rs.flatten, by simp only [pvOf]; rw [show xs.map (·.1) = (xs.drop 0).map (·.1) by simp, r1], ⟨rs, rfl, r2, r3⟩, by simpa using r4⟩
      · cases hs
    · cases hs
end
end Go.Ab
