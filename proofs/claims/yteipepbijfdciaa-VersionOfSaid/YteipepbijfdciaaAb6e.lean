/- Regions whose order is open and that write. No condition. -/
import Derived.Test.YteipepbijfdciaaAb6d
set_option linter.unusedSimpArgs false
set_option linter.unusedVariables false
namespace Go.Ab
open Go

structure Fp where
  rd : List Id
  wr : List Id
  deriving Inhabited
def Fp.In (f : Fp) (i : Id) : Prop := i ∈ f.rd ∨ i ∈ f.wr

/-- An operation with the place that is kept for its new block, and what it touches. -/
structure DO where
  so : SO
  slot : Id
  fp : Fp

/-- A frozen argument, read without touching. -/
def froA (H : Hp) : AV → Option AV
  | .c (.os id n) => match H.get id with
    | some (.arr _ true es) => match decide (n = es.length) with
      | true => some (.c (.p (.sl es)))
      | false => none
    | _ => none
  | .c .nils => some (.c (.p (.sl [])))
  | .c (.ti es) => some (.c (.p (.sl es)))
  | .c (.p v) => some (.c (.p v))
  | .agg cs => some (.agg cs)
  | _ => none
def froAs (H : Hp) : List AV → Option (List AV)
  | [] => some []
  | a :: r => match froA H a, froAs H r with
    | some b, some l => some (b :: l)
    | _, _ => none

section
variable (P : Program) (G : Gl)

/-- A call that touches so much alone. -/
def LEv (g : FuncId) (args : List AV) (H : Hp) (v : AV) (H' : Hp) (fp : Fp) : Prop :=
  SameLen H H' ∧ (∀ i, i ∉ fp.wr → H'.get i = H.get i) ∧
  ∀ H2, SameLen H H2 → (∀ i, fp.In i → H2.get i = H.get i) → ∃ H2', EvR P G g args H2 v H2' ∧ SameLen H2 H2' ∧ (∀ i ∈ fp.wr, H2'.get i = H'.get i) ∧ ∀ i, i ∉ fp.wr → H2'.get i = H2.get i

def callG (g : FuncId) (args : List AV) (H : Hp) (v : AV) (H' : Hp) (fp : Fp) : Prop :=
  LEv P G g args H v H' fp ∨ (∃ args', froAs H args = some args' ∧ EvP P G g args' v ∧ H' = H ∧ fp = ⟨args.flatMap idsA, []⟩)

def goM (slot : Id) (o : SOp) (T : Tm) (H : Hp) (v : AV) (H' : Hp) (fp : Fp) : Prop :=
  match o with
  | .call _ f args => match evS G T f with
    | .c (.fn g []) => callG P G g (args.map (evS G T)) H v H' fp
    | _ => False
  | o => opM G slot o T H = some ⟨true, v, H'⟩ ∧ fp = ⟨rdO G o T, wrO G slot o T⟩

def valM (d : DO) (T : Tm) (H : Hp) (v : AV) (H' : Hp) : Prop :=
  match d.so.guard with
  | none => goM P G d.slot d.so.op T H v H' d.fp
  | some (t, want) => match T.get t with
    | .c (.p (.bool b)) => match b == want with
      | true => goM P G d.slot d.so.op T H v H' d.fp
      | false => v = .tup [] ∧ H' = H
    | .tup [] => v = .tup [] ∧ H' = H
    | _ => False

def runM : List DO → Tm → Hp → (Tm → Hp → Prop) → Prop
  | [], T, H, k => k T H
  | d :: r, T, H, k => ∃ v H', valM P G d T H v H' ∧ runM r (T.put d.so.dst v) H' k
end

section
variable {P : Program} {G : Gl} {N : Nat} {φ φ' : Pl} {H H' : Hp} {F F' : Cl} {w w' : World} {T T' : Tm}

theorem SameLen.refl (H : Hp) : SameLen H H := ⟨rfl, rfl⟩
theorem SameLen.symm {A B : Hp} (h : SameLen A B) : SameLen B A := ⟨h.par.symm, h.loc.symm⟩
theorem SameLen.trans {A B C : Hp} (h : SameLen A B) (k : SameLen B C) : SameLen A C := ⟨k.par.trans h.par, k.loc.trans h.loc⟩
theorem hp_ext {A B : Hp} (h : ∀ i, A.get i = B.get i) : A = B := by
  cases A with
  | mk p l =>
    cases B with
    | mk p' l' =>
      congr 1
      · exact List.ext_getElem? fun n => h (.par n)
      · exact List.ext_getElem? fun n => h (.loc n)

/-- An effect changes what it may alone, and the same everywhere. -/
theorem eff_local {e : Eff} {wr : List Id} (he : e = .keep ∨ ∃ id b, e = .set id b ∧ id ∈ wr ∧ (H.get id).isSome) {H2 : Hp} (hag : ∀ i ∈ wr, H2.get i = H.get i) :
    SameLen H (e.app H) ∧ (∀ i, i ∉ wr → (e.app H).get i = H.get i) ∧ SameLen H2 (e.app H2) ∧ (∀ i ∈ wr, (e.app H2).get i = (e.app H).get i) ∧ ∀ i, i ∉ wr → (e.app H2).get i = H2.get i := by
  rcases he with rfl | ⟨id, b, rfl, hid, hs⟩
  · exact ⟨.refl _, fun _ _ => rfl, .refl _, hag, fun _ _ => rfl⟩
  · obtain ⟨c, hc⟩ := Option.isSome_iff_exists.1 hs
    have hc2 : H2.get id = some c := (hag id hid).trans hc
    refine ⟨set_len _ _ _, fun i hi => Hp.get_set_other (fun e => hi (e ▸ hid)), set_len _ _ _, fun i hi => ?_, fun i hi => Hp.get_set_other (fun e => hi (e ▸ hid))⟩
    by_cases e : i = id
    · subst e
      rw [show (Eff.set i b).app H2 = H2.set i b from rfl, show (Eff.set i b).app H = H.set i b from rfl, Hp.get_set_self hc, Hp.get_set_self hc2]
    · rw [show (Eff.set id b).app H2 = H2.set id b from rfl, show (Eff.set id b).app H = H.set id b from rfl, Hp.get_set_other e, Hp.get_set_other e]
      exact hag i hi

theorem froA_local {a : AV} {H2 : Hp} (h : ∀ i ∈ idsA a, H2.get i = H.get i) : froA H2 a = froA H a := by
  cases a with
  | c c =>
    cases c with
    | os id n => simp only [froA]; rw [h id (by simp [idsA, idsC])]
    | _ => rfl
  | _ => rfl

theorem froAs_local : ∀ {l : List AV} {H2 : Hp}, (∀ i ∈ l.flatMap idsA, H2.get i = H.get i) → froAs H2 l = froAs H l
  | [], _, _ => rfl
  | a :: l, H2, h => by
    simp only [froAs]
    rw [froA_local fun i hi => h i (by simp [hi]), froAs_local fun i hi => h i (List.mem_flatMap.2 (by obtain ⟨x, hx, hy⟩ := List.mem_flatMap.1 hi; exact ⟨x, by simp [hx], hy⟩))]

theorem goM_local {slot : Id} {o : SOp} {v : AV} {fp : Fp} (h : goM P G slot o T H v H' fp) : SameLen H H' ∧ (∀ i, i ∉ fp.wr → H'.get i = H.get i) ∧
    ∀ H2, SameLen H H2 → (∀ i, fp.In i → H2.get i = H.get i) → ∃ H2', goM P G slot o T H2 v H2' fp ∧ SameLen H2 H2' ∧ (∀ i ∈ fp.wr, H2'.get i = H'.get i) ∧ ∀ i, i ∉ fp.wr → H2'.get i = H2.get i := by
  have plain : opM G slot o T H = some ⟨true, v, H'⟩ → fp = ⟨rdO G o T, wrO G slot o T⟩ → SameLen H H' ∧ (∀ i, i ∉ fp.wr → H'.get i = H.get i) ∧
    ∀ H2, SameLen H H2 → (∀ i, fp.In i → H2.get i = H.get i) → ∃ H2', opM G slot o T H2 = some ⟨true, v, H2'⟩ ∧ SameLen H2 H2' ∧ (∀ i ∈ fp.wr, H2'.get i = H'.get i) ∧ ∀ i, i ∉ fp.wr → H2'.get i = H2.get i := by
    rintro h1 rfl
    obtain ⟨e, he, rfl, hl⟩ := opM_eff h1
    obtain ⟨a1, a2, -⟩ := eff_local (H2 := H) he fun _ _ => rfl
    refine ⟨a1, a2, fun H2 hs ha => ?_⟩
    obtain ⟨-, -, b1, b2, b3⟩ := eff_local (H2 := H2) he fun i hi => ha i (.inr hi)
    exact ⟨_, hl H2 hs fun i hi => ha i hi, b1, b2, b3⟩
  cases o with
  | call p f args =>
    simp only [goM] at h ⊢
    split at h
    · rename_i g hg
      rcases h with h | ⟨args', h1, h2, rfl, rfl⟩
      · refine ⟨h.1, h.2.1, fun H2 hs ha => ?_⟩
        obtain ⟨H2', q1, q2, q3, q4⟩ := h.2.2 H2 hs ha
        refine ⟨H2', .inl ⟨q2, q4, fun H3 hs3 ha3 => ?_⟩, q2, q3, q4⟩
        obtain ⟨H3', r1, r2, r3, r4⟩ := h.2.2 H3 (hs.trans hs3) fun i hi => (ha3 i hi).trans (ha i hi)
        exact ⟨H3', r1, r2, fun i hi => (r3 i hi).trans (q3 i hi).symm, r4⟩
      · exact ⟨.refl _, fun _ _ => rfl, fun H2 hs ha => ⟨H2, .inr ⟨args', (froAs_local fun i hi => ha i (.inl hi)).trans h1, h2, rfl, rfl⟩, .refl _, fun i hi => (by cases hi), fun _ _ => rfl⟩⟩
    · exact h.elim
  | _ =>
    obtain ⟨h1, h2, h3⟩ := plain h.1 h.2
    refine ⟨h1, h2, fun H2 hs ha => ?_⟩
    obtain ⟨H2', q1, q2⟩ := h3 H2 hs ha
    exact ⟨H2', ⟨q1, h.2⟩, q2⟩

theorem valM_local {d : DO} {v : AV} (h : valM P G d T H v H') : SameLen H H' ∧ (∀ i, i ∉ d.fp.wr → H'.get i = H.get i) ∧
    ∀ H2, SameLen H H2 → (∀ i, d.fp.In i → H2.get i = H.get i) → ∃ H2', valM P G d T H2 v H2' ∧ SameLen H2 H2' ∧ (∀ i ∈ d.fp.wr, H2'.get i = H'.get i) ∧ ∀ i, i ∉ d.fp.wr → H2'.get i = H2.get i := by
  have skip : v = .tup [] ∧ H' = H → SameLen H H' ∧ (∀ i, i ∉ d.fp.wr → H'.get i = H.get i) ∧
    ∀ H2, SameLen H H2 → (∀ i, d.fp.In i → H2.get i = H.get i) → ∃ H2', (v = .tup [] ∧ H2' = H2) ∧ SameLen H2 H2' ∧ (∀ i ∈ d.fp.wr, H2'.get i = H'.get i) ∧ ∀ i, i ∉ d.fp.wr → H2'.get i = H2.get i := by
    rintro ⟨rfl, rfl⟩
    exact ⟨.refl _, fun _ _ => rfl, fun H2 hs ha => ⟨H2, ⟨rfl, rfl⟩, .refl _, fun i hi => ha i (.inr hi), fun _ _ => rfl⟩⟩
  unfold valM at h ⊢
  cases hg : d.so.guard with
  | none => rw [hg] at h; exact goM_local h
  | some q =>
    obtain ⟨t, want⟩ := q
    rw [hg] at h
    dsimp only at h ⊢
    split at h
    · rename_i b hb
      cases hbw : b == want with
      | true => rw [hbw] at h; exact goM_local h
      | false => rw [hbw] at h; exact skip h
    · exact skip h
    · exact h.elim

theorem opM_congr {slot : Id} {o : SOp} (h : ∀ t ∈ looksO o, T.get t = T'.get t) : opM G slot o T H = opM G slot o T' H := by
  have hok : okM G o T = okM G o T' := by
    cases o <;> try rfl
    simp only [okM]
    rw [evL_congr h]
  unfold opM
  rw [hok, opS_congr h]

theorem saO_looks {o : SOp} {s : SA} (hs : s ∈ saO o) : ∀ t ∈ looksA s, t ∈ looksO o := by
  have hM : ∀ {x : Option SA}, s ∈ saM x → ∀ t ∈ looksA s, t ∈ looksM x := by
    intro x hx t ht
    cases x with
    | none => simp [saM] at hx
    | some y =>
      simp [saM] at hx
      subst hx
      cases s <;> simp_all [looksA, looksM]
  intro t ht
  cases o <;> simp only [saO, looksO, List.mem_cons, List.mem_append, List.mem_map, List.mem_flatMap, List.not_mem_nil, or_false] at hs ⊢
  all_goals first
    | (rcases hs with rfl | rfl | rfl <;> simp [ht]; done)
    | (rcases hs with rfl | rfl <;> simp [ht]; done)
    | (subst hs; exact ht)
    | exact hs.elim
    | (obtain ⟨q, hq, rfl⟩ := hs; exact ⟨q, hq, ht⟩)
    | exact ⟨s, hs, ht⟩
    | skip
  case slStr =>
    rcases hs with rfl | hs | hs
    · exact .inl (.inl ht)
    · exact .inl (.inr (hM hs t ht))
    · exact .inr (hM hs t ht)
  case slSl =>
    rcases hs with rfl | (hs | hs) | hs
    · exact .inl (.inl (.inl ht))
    · exact .inl (.inl (.inr (hM hs t ht)))
    · exact .inl (.inr (hM hs t ht))
    · exact .inr (hM hs t ht)
  case call =>
    rcases hs with rfl | hs
    · exact .inl ht
    · exact .inr ⟨s, hs, ht⟩

theorem rdO_congr {o : SOp} (h : ∀ t ∈ looksO o, T.get t = T'.get t) : rdO G o T = rdO G o T' := by
  unfold rdO
  rw [List.flatMap_def, List.flatMap_def]
  congr 1
  exact List.map_congr_left fun s hs => by rw [evS_congr fun t ht => h t (saO_looks hs t ht)]

theorem wrO_congr {slot : Id} {o : SOp} (h : ∀ t ∈ looksO o, T.get t = T'.get t) : wrO G slot o T = wrO G slot o T' := by
  cases o <;> simp only [wrO]
  all_goals first
    | rfl
    | (rw [evS_congr fun t ht => h t (by simp [looksO, ht])])

theorem goM_congr {slot : Id} {o : SOp} {v : AV} {fp : Fp} (h : ∀ t ∈ looksO o, T.get t = T'.get t) : goM P G slot o T H v H' fp ↔ goM P G slot o T' H v H' fp := by
  cases o
  case call p f args =>
    simp only [looksO, List.mem_append] at h
    simp only [goM]
    rw [evS_congr fun t ht => h t (.inl ht), evL_congr fun t ht => h t (.inr ht)]
  all_goals
    simp only [goM]
    rw [opM_congr h, rdO_congr h, wrO_congr h]

theorem valM_congr {d : DO} {v : AV} (h : ∀ t ∈ d.so.looks, T.get t = T'.get t) : valM P G d T H v H' ↔ valM P G d T' H v H' := by
  have h1 : ∀ t ∈ looksO d.so.op, T.get t = T'.get t := fun t ht => h t (List.mem_append.2 (.inl ht))
  unfold valM
  cases hg : d.so.guard with
  | none => exact goM_congr h1
  | some q =>
    obtain ⟨t, want⟩ := q
    have ht : T.get t = T'.get t := h t (List.mem_append.2 (.inr (by simp [hg])))
    dsimp only
    rw [ht]
    split
    · split
      · exact goM_congr h1
      · exact Iff.rfl
    · exact Iff.rfl
    · exact Iff.rfl

/-- Two that touch nothing that the other one writes. -/
def Fp.apart (a b : Fp) : Prop := (∀ i ∈ a.wr, ¬ b.In i) ∧ ∀ i ∈ b.wr, ¬ a.In i

theorem runM_congr {k : Tm → Hp → Prop} (hk : KR k) : ∀ (l : List DO) {T T' : Tm} {H : Hp}, Teq T T' → runM P G l T H k → runM P G l T' H k
  | [], _, _, _, he, h => hk _ _ _ he h
  | d :: l, T, T', H, he, h => by
    obtain ⟨v, H', h1, h2⟩ := h
    exact ⟨v, H', (valM_congr fun t _ => he t).1 h1, runM_congr hk l (fun t => by rw [get_put, get_put, he t]) h2⟩

theorem swapM {a b : DO} (hab : apartS a.so b.so = true) (hf : a.fp.apart b.fp) {r : List DO} {k : Tm → Hp → Prop} (hk : KR k) (h : runM P G (a :: b :: r) T H k) : runM P G (b :: a :: r) T H k := by
  obtain ⟨h1, h2, h3⟩ := apartS_spec hab
  obtain ⟨va, H1, ha, vb, H2, hb, hr⟩ := h
  obtain ⟨a1, a2, a3⟩ := valM_local ha
  obtain ⟨b1, b2, b3⟩ := valM_local hb
  obtain ⟨H1', hb', c1, c2, c3⟩ := b3 H a1.symm fun i hi => (a2 i fun hw => hf.1 i hw hi).symm
  obtain ⟨H2', ha', d1, d2, d3⟩ := a3 H1' c1 fun i hi => c3 i fun hw => hf.2 i hw hi
  have heq : H2' = H2 := by
    refine hp_ext fun i => ?_
    by_cases hia : i ∈ a.fp.wr
    · rw [d2 i hia, b2 i fun hw => hf.1 i hia (.inr hw)]
    · rw [d3 i hia]
      by_cases hib : i ∈ b.fp.wr
      · rw [c2 i hib]
      · rw [c3 i hib, b2 i hib, a2 i hia]
  subst heq
  refine ⟨vb, H1', (valM_congr fun t ht => ?_).1 hb', va, H2', (valM_congr fun t ht => ?_).1 ha', runM_congr hk r (fun t => ?_) hr⟩
  · rw [get_put, if_neg]
    exact fun e => h1 t e ht
  · rw [get_put, if_neg]
    exact fun e => h3 t e ht
  · simp only [get_put]
    by_cases e1 : a.so.dst = some t
    · have : ¬ b.so.dst = some t := h2 t e1
      simp [e1, this]
    · simp [e1]

theorem bubbleM {x : DO} {k : Tm → Hp → Prop} (hk : KR k) : ∀ (p q : List DO) {T : Tm} {H : Hp}, (∀ a ∈ p, apartS a.so x.so = true ∧ a.fp.apart x.fp) → runM P G (p ++ x :: q) T H k → runM P G (x :: (p ++ q)) T H k
  | [], q, T, H, _, h => h
  | a :: p, q, T, H, hp, h => by
    obtain ⟨h1, h2⟩ := hp a (by simp)
    have ih : ∀ T H, runM P G (p ++ x :: q) T H k → runM P G (x :: (p ++ q)) T H k := fun T H => bubbleM hk p q fun b hb => hp b (by simp [hb])
    refine swapM h1 h2 (r := p ++ q) hk ?_
    obtain ⟨v, H', h3, h4⟩ := h
    exact ⟨v, H', h3, ih _ _ h4⟩
end
end Go.Ab
