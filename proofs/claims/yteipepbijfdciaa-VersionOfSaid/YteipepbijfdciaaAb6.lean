/- Regions whose order is open. No condition. -/
import Derived.Test.YteipepbijfdciaaAb5
set_option linter.unusedSimpArgs false
set_option linter.unusedVariables false
namespace Go.Ab
open Go

section
variable {P : Program} {G : Gl} {N : Nat} {H : Hp} {T T' : Tm}

def Teq (T T' : Tm) : Prop := ∀ t, T.get t = T'.get t

theorem get_put (T : Tm) (d : Option Nat) (v : AV) (t : Nat) : (T.put d v).get t = if d = some t then v else T.get t := by
  cases d with
  | none => rfl
  | some d =>
    simp only [Tm.put, Tm.get, Option.some.injEq]
    by_cases e : d = t
    · subst e; simp [Nat.beq_refl]
    · have : Nat.beq d t = false := by
        cases hb : Nat.beq d t with
        | true => exact absurd (Nat.eq_of_beq_eq_true hb) e
        | false => rfl
      simp [this, e]

theorem evS_congr {s : SA} (h : ∀ t ∈ looksA s, T.get t = T'.get t) : evS G T s = evS G T' s := by
  cases s <;> simp_all [evS, looksA]

theorem evM_congr {s : Option SA} (h : ∀ t ∈ looksM s, T.get t = T'.get t) : s.map (evS G T) = s.map (evS G T') := by
  cases s with
  | none => rfl
  | some s => cases s <;> simp_all [evS, looksM]

theorem evL_congr {l : List SA} (h : ∀ t ∈ l.flatMap looksA, T.get t = T'.get t) : l.map (evS G T) = l.map (evS G T') :=
  List.map_congr_left fun s hs => evS_congr fun t ht => h t (List.mem_flatMap.2 ⟨s, hs, ht⟩)

theorem opS_congr {o : SOp} (h : ∀ t ∈ looksO o, T.get t = T'.get t) : opS G o T H = opS G o T' H := by
  cases o <;> simp only [looksO, List.mem_append] at h <;> simp only [opS]
  case build z ps =>
    have : (ps.map fun q => (q.1, q.2.1, evS G T q.2.2)) = ps.map fun q => (q.1, q.2.1, evS G T' q.2.2) :=
      List.map_congr_left fun q hq => by rw [evS_congr fun t ht => h t (List.mem_flatMap.2 ⟨q, hq, ht⟩)]
    rw [this]
  case lit n ps => rw [evL_congr h]
  case fn g ps => rw [evL_congr h]
  case pick c a b => rw [evS_congr fun t ht => h t (.inl (.inl ht)), evS_congr (s := a) fun t ht => h t (.inl (.inr ht)), evS_congr (s := b) fun t ht => h t (.inr ht)]
  case slStr a l m => rw [evS_congr fun t ht => h t (.inl (.inl ht)), evM_congr (s := l) fun t ht => h t (.inl (.inr ht)), evM_congr (s := m) fun t ht => h t (.inr ht)]
  case slSl sz a l m n => rw [evS_congr fun t ht => h t (.inl (.inl (.inl ht))), evM_congr (s := l) fun t ht => h t (.inl (.inl (.inr ht))), evM_congr (s := m) fun t ht => h t (.inl (.inr ht)), evM_congr (s := n) fun t ht => h t (.inr ht)]
  all_goals first
    | (rw [evS_congr fun t ht => h t (.inl ht), evS_congr (T := T) (T' := T') fun t ht => h t (.inr ht)]; done)
    | (rw [evS_congr h]; done)

theorem stepO_congr {d : Bool} {o : SOp} {k : AV → Hp → Prop} (h : ∀ t ∈ looksO o, T.get t = T'.get t) : stepO P G d o T H k = stepO P G d o T' H k := by
  cases o
  case call p f args =>
    simp only [looksO, List.mem_append] at h
    simp only [stepO]
    rw [evS_congr fun t ht => h t (.inl ht), evL_congr fun t ht => h t (.inr ht)]
  case isnil pos a =>
    simp only [stepO]
    rw [evS_congr h]
  all_goals
    simp only [stepO]
    rw [opS_congr h]

theorem partH {r : Option (Bool × AV)} {res : Res} (h : resOf H r = some res) : res.h = H := (resOf_spec h).2

theorem loadS_h {agg : Bool} {n : Nat} {a : AV} {res : Res} (h : loadS agg n a H = some res) : res.h = H := by
  unfold loadS at h
  repeat' split at h
  all_goals first | exact partH h | (cases h; done) | (simp only [Option.some.injEq] at h; subst h; rfl)

theorem opS_ro {o : SOp} (hr : o.ro = true) {res : Res} (h : opS G o T H = some res) : res.h = H := by
  cases o <;> simp only [SOp.ro, reduceCtorEq, Bool.false_eq_true] at hr <;> simp only [opS, ret] at h
  case load => exact loadS_h h
  case fld =>
    unfold fieldAddrS at h
    repeat' split at h
    all_goals first | (cases h; done) | (simp only [ret, Option.some.injEq] at h; subst h; rfl)
  case fldv =>
    unfold fieldS at h
    repeat' split at h
    all_goals first | exact partH h | (cases h; done)
  case ixArr =>
    unfold ixArr at h
    repeat' split at h
    all_goals first | (cases h; done) | (simp only [Option.some.injEq] at h; subst h; rfl)
  case ixSl =>
    unfold ixSl at h
    repeat' split at h
    all_goals first | (cases h; done) | (simp only [Option.some.injEq] at h; subst h; rfl)
  case ixAgg =>
    unfold ixAgg at h
    repeat' split at h
    all_goals first | (cases h; done) | (simp only [Option.some.injEq] at h; subst h; rfl)
  case ixStr =>
    unfold ixStr at h
    repeat' split at h
    all_goals first | (cases h; done) | (simp only [Option.some.injEq] at h; subst h; rfl)
  case slStr =>
    unfold slStr at h
    repeat' split at h
    all_goals first | (cases h; done) | (simp only [Option.some.injEq] at h; subst h; rfl)
  case len =>
    unfold lenS at h
    repeat' split at h
    all_goals first | (cases h; done) | (simp only [Option.some.injEq] at h; subst h; rfl)
  case bin => exact partH h
  case sh => exact partH h
  all_goals
    repeat' split at h
    all_goals first | (cases h; done) | (simp only [ret, Option.some.injEq] at h; subst h; rfl)

/-- An operation that only reads gives a value. -/
theorem stepO_ro {o : SOp} (hr : o.ro = true) {k : AV → Hp → Prop} : stepO P G true o T H k ↔ ∃ v, stepO P G true o T H (fun v' H' => v' = v ∧ H' = H) ∧ k v H := by
  have plain : (∀ {k : AV → Hp → Prop}, stepO P G true o T H k = match opS G o T H with | some ⟨b, v, H'⟩ => gd b (k v H') | none => False) → (stepO P G true o T H k ↔ ∃ v, stepO P G true o T H (fun v' H' => v' = v ∧ H' = H) ∧ k v H) := by
    intro he
    rw [he]
    simp only [he]
    cases hs : opS G o T H with
    | none => simp
    | some res =>
      have hh := opS_ro hr hs
      obtain ⟨b, v, h⟩ := res
      simp only at hh
      subst hh
      cases b <;> simp [gd]
  cases o <;> try exact plain rfl
  rename_i p f args
  simp only [SOp.ro] at hr
  subst hr
  simp only [stepO, wpCall]
  split
  · simp only [callK]
    constructor
    · rintro ⟨h0, h1, as, h2, v, h3, h4⟩
      exact ⟨v, ⟨h0, h1, as, h2, v, h3, rfl, trivial⟩, h4⟩
    · rintro ⟨v, ⟨h0, h1, as, h2, v', h3, rfl, -⟩, h4⟩
      exact ⟨h0, h1, as, h2, v', h3, h4⟩
  · simp

/-- What an operation gives, or that it is passed by. -/
def valO (P : Program) (G : Gl) (o : SO) (T : Tm) (H : Hp) (v : AV) : Prop :=
  match o.guard with
  | none => stepO P G true o.op T H fun v' H' => v' = v ∧ H' = H
  | some (t, want) => match T.get t with
    | .c (.p (.bool b)) => if b = want then stepO P G true o.op T H (fun v' H' => v' = v ∧ H' = H) else v = .tup []
    | .tup [] => v = .tup []
    | _ => False

theorem wpO_ro {o : SO} (hr : o.op.ro = true) {k : Tm → Hp → Prop} : wpO P G true o T H k ↔ ∃ v, valO P G o T H v ∧ k (T.put o.dst v) H := by
  unfold wpO valO
  cases hg : o.guard with
  | none => exact stepO_ro hr
  | some q =>
    obtain ⟨t, want⟩ := q
    simp only
    have cases3 : (∃ b, T.get t = .c (.p (.bool b))) ∨ T.get t = .tup [] ∨ ((∀ b, T.get t ≠ .c (.p (.bool b))) ∧ T.get t ≠ .tup []) := by
      by_cases h1 : ∃ b, T.get t = .c (.p (.bool b))
      · exact .inl h1
      · by_cases h2 : T.get t = .tup []
        · exact .inr (.inl h2)
        · exact .inr (.inr ⟨fun b e => h1 ⟨b, e⟩, h2⟩)
    rcases cases3 with ⟨b, hb⟩ | hb | ⟨h1, h2⟩
    · rw [hb]
      cases want <;> cases b <;> simp only [brP, if_true, if_false, reduceCtorEq, Bool.true_eq_false, Bool.false_eq_true]
      · exact stepO_ro hr
      · exact ⟨fun h => ⟨_, rfl, h⟩, fun ⟨_, e, h⟩ => e ▸ h⟩
      · exact ⟨fun h => ⟨_, rfl, h⟩, fun ⟨_, e, h⟩ => e ▸ h⟩
      · exact stepO_ro hr
    · rw [hb]
      exact ⟨fun h => ⟨_, rfl, h⟩, fun ⟨v, e, h⟩ => by subst e; exact h⟩
    · split
      · rename_i b hb; exact absurd hb (h1 b)
      · rename_i hb; exact absurd hb h2
      · simp

theorem valO_congr {o : SO} {v : AV} (h : ∀ t ∈ o.looks, T.get t = T'.get t) : valO P G o T H v = valO P G o T' H v := by
  have h1 : ∀ t ∈ looksO o.op, T.get t = T'.get t := fun t ht => h t (List.mem_append.2 (.inl ht))
  unfold valO
  cases hg : o.guard with
  | none => simp only; rw [stepO_congr h1]
  | some q =>
    obtain ⟨t, w⟩ := q
    have ht : T.get t = T'.get t := h t (List.mem_append.2 (.inr (by simp [hg])))
    simp only
    rw [ht, stepO_congr h1]

/-- A postcondition that only asks what is known. -/
def KR (k : Tm → Hp → Prop) : Prop := ∀ T T' H, Teq T T' → k T H → k T' H

theorem nilO_mono {d pos : Bool} {a : AV} {k1 k2 : AV → Hp → Prop} (hk : ∀ v H, k1 v H → k2 v H) (h : nilO d pos a H k1) : nilO d pos a H k2 := by
  unfold nilO at h ⊢
  split at h
  · exact h
  · split at h
    · exact hk _ _ h
    · exact ⟨hk _ _ h.1, hk _ _ h.2⟩
    · exact ⟨hk _ _ h.1, hk _ _ h.2⟩
    · exact hk _ _ h
    · exact hk _ _ h
    · exact h.elim

theorem stepO_mono {d : Bool} {o : SOp} {k1 k2 : AV → Hp → Prop} (hk : ∀ v H, k1 v H → k2 v H) (h : stepO P G d o T H k1) : stepO P G d o T H k2 := by
  have mono : (match opS G o T H with | some ⟨b, v, H'⟩ => gd b (k1 v H') | none => False) → (match opS G o T H with | some ⟨b, v, H'⟩ => gd b (k2 v H') | none => False) := by
    intro h
    cases hr : opS G o T H with
    | none => rw [hr] at h; exact h
    | some q =>
      rw [hr] at h
      obtain ⟨b, v, H'⟩ := q
      obtain ⟨hb, h⟩ := gd_of h
      exact gd_mk hb (hk _ _ h)
  cases o <;> try exact mono h
  case isnil pos a => exact nilO_mono hk h
  rename_i p f args
  simp only [stepO, wpCall] at h ⊢
  generalize evS G T f = V at *
  cases V <;> first | exact (show False from h).elim | skip
  rename_i c
  cases c <;> first | exact (show False from h).elim | skip
  rename_i g caps
  cases d with
  | true =>
    obtain ⟨h0, h1, as, h2, v, h3, h4⟩ := h
    exact ⟨h0, h1, as, h2, v, h3, hk _ _ h4⟩
  | false =>
    obtain ⟨m, as, H1, v, H2, h1, h2, h3⟩ := h
    exact ⟨m, as, H1, v, H2, h1, h2, hk _ _ h3⟩

theorem wpO_congr {o : SO} {k : Tm → Hp → Prop} (hk : KR k) (d : Bool) (he : Teq T T') (h : wpO P G d o T H k) : wpO P G d o T' H k := by
  have hp : ∀ v H, k (T.put o.dst v) H → k (T'.put o.dst v) H := fun v H => hk _ _ H fun t => by rw [get_put, get_put, he t]
  have hs : stepO P G d o.op T H (fun v H => k (T.put o.dst v) H) → stepO P G d o.op T' H (fun v H => k (T'.put o.dst v) H) := by
    intro h
    rw [← stepO_congr (T := T) fun t _ => he t]
    exact stepO_mono hp h
  unfold wpO at h ⊢
  cases hg : o.guard with
  | none => rw [hg] at h; exact hs h
  | some q =>
    obtain ⟨t, want⟩ := q
    rw [hg] at h
    simp only at h ⊢
    rw [← he t]
    generalize T.get t = V at *
    cases V with
    | c c =>
      cases c with
      | p v =>
        cases v with
        | bool b => cases want <;> cases b <;> first | exact hs h | exact hp _ _ h
        | _ => exact h.elim
      | _ => exact h.elim
    | tup vs =>
      cases vs with
      | nil => exact hp _ _ h
      | cons => exact h.elim
    | _ => exact h.elim

theorem wpL_congr {d : Bool} {k : Tm → Hp → Prop} (hk : KR k) : ∀ (l : List SO) {T T' : Tm} {H : Hp}, Teq T T' → wpL P G d l T H k → wpL P G d l T' H k
  | [], T, T', H, he, h => hk _ _ _ he h
  | _ :: l, _, _, _, he, h => wpO_congr (k := fun T H => wpL P G d l T H k) (fun _ _ _ e q => wpL_congr hk l e q) d he h

theorem apartS_spec {x y : SO} (h : apartS x y = true) : (∀ d, x.dst = some d → d ∉ y.looks) ∧ (∀ d, x.dst = some d → y.dst ≠ some d) ∧ (∀ d, y.dst = some d → d ∉ x.looks) := by
  refine ⟨fun d hd => ?_, fun d hd => ?_, fun d hd => ?_⟩ <;> simp [apartS, hd] at h
  · exact h.1.1
  · exact h.1.2
  · exact h.2

/-- Two that only read, side by side, go either way round. -/
theorem swap2 {a b : SO} (ha : a.op.ro = true) (hb : b.op.ro = true) (hab : apartS a b = true) {k : Tm → Hp → Prop} (hk : KR k) (h : wpO P G true a T H fun T H => wpO P G true b T H k) : wpO P G true b T H fun T H => wpO P G true a T H k := by
  obtain ⟨h1, h2, h3⟩ := apartS_spec hab
  obtain ⟨va, hva, h⟩ := (wpO_ro ha).1 h
  obtain ⟨vb, hvb, h⟩ := (wpO_ro hb).1 h
  refine (wpO_ro hb).2 ⟨vb, ?_, (wpO_ro ha).2 ⟨va, ?_, hk _ _ _ (fun t => ?_) h⟩⟩
  · rw [valO_congr (T := T) (T' := T.put a.dst va)]
    · exact hvb
    · intro t ht
      rw [get_put, if_neg]
      exact fun e => h1 t e ht
  · rw [← valO_congr (T := T) (T' := T.put b.dst vb)]
    · exact hva
    · intro t ht
      rw [get_put, if_neg]
      exact fun e => h3 t e ht
  · simp only [get_put]
    by_cases e1 : a.dst = some t
    · have : ¬ b.dst = some t := h2 t e1
      simp [e1, this]
    · simp [e1]

/-- One that stands apart of all before it, taken first. -/
theorem bubble {x : SO} {k : Tm → Hp → Prop} (hk : KR k) : ∀ (p q : List SO) {T : Tm} {H : Hp}, (∀ a ∈ p, a.op.ro = true ∧ x.op.ro = true ∧ apartS a x = true) → wpL P G true (p ++ x :: q) T H k → wpL P G true (x :: (p ++ q)) T H k
  | [], q, T, H, _, h => h
  | a :: p, q, T, H, hp, h => by
    obtain ⟨h1, h2, h3⟩ := hp a (by simp)
    have ih : ∀ T H, wpL P G true (p ++ x :: q) T H k → wpL P G true (x :: (p ++ q)) T H k := fun T H => bubble hk p q fun b hb => hp b (by simp [hb])
    have h' : wpO P G true a T H fun T H => wpO P G true x T H fun T H => wpL P G true (p ++ q) T H k := by
      obtain ⟨v, hv, hq⟩ := (wpO_ro h1).1 (show wpO P G true a T H fun T H => wpL P G true (p ++ x :: q) T H k from h)
      exact (wpO_ro h1).2 ⟨v, hv, ih _ _ hq⟩
    exact swap2 h1 h2 h3 (fun _ _ _ e q' => wpL_congr hk (p ++ q) e q') h'
end
end Go.Ab
