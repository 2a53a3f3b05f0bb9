/- A new block taken to another place: what is given back owns one new slice, all other new blocks forgotten. No condition. slices.Grow of a nil slice: a new slice of no elements that its owner may append to. No condition. Calls that give a new slice, made ready for regions whose order is open. No condition. What is given back comes frozen, new blocks forgotten: one contract for all ways out. No condition. A region whose order is open and whose operations only read, or stand in order, taken as one that writes. No condition. Stepping one operation after the other: what follows stands folded, so that neither the elaborator nor the kernel runs into it; and a cut of the state between two pieces of code. No condition. -/
import Derived.Test.YteoaefbcihoapaaFwE
import Derived.Shelf.Spec.SlicesGrow
set_option linter.unusedSimpArgs false
set_option linter.unusedVariables false
namespace Go.Ab
open Go

/-- A block's name: the one at 'k' is at 'n'. -/
def mvI (n k : Nat) : Id → Id
  | .loc j => match Nat.beq j k with | true => .loc n | false => .loc j
  | .par j => .par j
/-- Every block that a cell names lies below 'n', or at 'k'. -/
def okI (n k : Nat) : Id → Bool
  | .loc j => Nat.beq j k || Nat.blt j n
  | .par _ => true
def okA (n k : Nat) (a : AV) : Bool := (idsT a).all (okI n k)
/-- The block at 'k' put behind the first 'n'. -/
def mvH (n k : Nat) (H : Hp) : Hp := ⟨H.par, H.loc.take n ++ (match H.loc[k]? with | some b => [b] | none => [])⟩
def mvφ (φ : Pl) (n k : Nat) : Pl := fun i => match i with
  | .loc j => match Nat.beq j n with
    | true => φ (.loc k)
    | false => cutφ φ n i
  | .par _ => φ i

section
variable {P : Program} {G : Gl} {N : Nat} {φ φ' : Pl} {H H' : Hp} {F F' : Cl} {w w' : World} {T T' : Tm}

theorem mvI_k {n k : Nat} : mvI n k (.loc k) = .loc n := by simp [mvI]
theorem mvI_under {n k : Nat} (hk : n ≤ k) {i : Id} (h : underI n i = true) : mvI n k i = i := by
  cases i with
  | par j => rfl
  | loc j =>
    simp only [underI, Nat.blt_eq] at h
    have : Nat.beq j k = false := by
      cases e : Nat.beq j k with
      | false => rfl
      | true => have := Nat.eq_of_beq_eq_true e; omega
    simp only [mvI, this]
theorem mvφ_n {n k : Nat} : mvφ φ n k (.loc n) = φ (.loc k) := by simp [mvφ]
theorem mvφ_under {n k : Nat} {i : Id} (h : underI n i = true) : mvφ φ n k i = φ i := by
  cases i with
  | par j => rfl
  | loc j =>
    have h' := h
    simp only [underI, Nat.blt_eq] at h
    have : Nat.beq j n = false := by
      cases e : Nat.beq j n with
      | false => rfl
      | true => have := Nat.eq_of_beq_eq_true e; omega
    simp only [mvφ, this]
    exact cutφ_under h'
theorem mvφ_some {n k : Nat} {i : Id} {r : Nat} (h : mvφ φ n k i = some r) : (underI n i = true ∧ φ i = some r) ∨ (i = .loc n ∧ φ (.loc k) = some r) := by
  cases i with
  | par j => exact .inl ⟨rfl, h⟩
  | loc j =>
    simp only [mvφ] at h
    split at h
    · rename_i e
      exact .inr ⟨by rw [Nat.eq_of_beq_eq_true e], h⟩
    · exact .inl (cutφ_some h)
theorem mvH_under {n k : Nat} (hn : n ≤ H.loc.length) {i : Id} (h : underI n i = true) : (mvH n k H).get i = H.get i := by
  cases i with
  | par j => rfl
  | loc j =>
    simp only [underI, Nat.blt_eq] at h
    simp only [mvH, Hp.get]
    rw [List.getElem?_append_left (by rw [List.length_take]; omega), List.getElem?_take_of_lt h]
theorem mvH_n {n k : Nat} (hn : n ≤ H.loc.length) {b : Blk} (hb : H.loc[k]? = some b) : (mvH n k H).get (.loc n) = some b := by
  simp only [mvH, Hp.get, hb]
  rw [List.getElem?_append_right (by rw [List.length_take]; omega), List.length_take, Nat.min_eq_left hn, Nat.sub_self]
  rfl
theorem mvH_some {n k : Nat} (hn : n ≤ H.loc.length) {b : Blk} (hb : H.loc[k]? = some b) {i : Id} {c : Blk} (h : (mvH n k H).get i = some c) : (underI n i = true ∧ H.get i = some c) ∨ (i = .loc n ∧ c = b) := by
  by_cases hu : underI n i = true
  · exact .inl ⟨hu, by rw [← mvH_under hn hu]; exact h⟩
  · cases i with
    | par j => exact absurd rfl hu
    | loc j =>
      simp only [underI, Nat.blt_eq, Nat.not_lt] at hu
      simp only [mvH, Hp.get, hb] at h
      have hl := (List.getElem?_eq_some_iff.1 h).1
      simp only [List.length_append, List.length_take, List.length_cons, List.length_nil] at hl
      have : j = n := by omega
      subst this
      right
      refine ⟨rfl, ?_⟩
      rw [List.getElem?_append_right (by rw [List.length_take]; omega), List.length_take, Nat.min_eq_left hn, Nat.sub_self] at h
      exact (Option.some.inj h).symm

/-- How names below 'n' and 'k' go over. -/
theorem CR.mv {n k : Nat} (hn : n ≤ k) {b : Blk} (hb : H.loc[k]? = some b) (hr : b.isRow = false) {c : C} {x : Value} (hu : (idsC c).all (okI n k) = true) (h : CR φ H F w c x) : CR (mvφ φ n k) (mvH n k H) F w (c.ren (mvI n k)) x := by
  have hk : k < H.loc.length := (List.getElem?_eq_some_iff.1 hb).1
  have key : ∀ i ∈ idsC c, ∀ q, H.get i = some q → (mvH n k H).get (mvI n k i) = some q ∧ mvφ φ n k (mvI n k i) = φ i := by
    intro i hi q hq
    have h1 := List.all_eq_true.1 hu i hi
    by_cases hu' : underI n i = true
    · rw [mvI_under hn hu']
      exact ⟨by rw [mvH_under (by omega) hu']; exact hq, mvφ_under hu'⟩
    · cases i with
      | par j => exact absurd rfl hu'
      | loc j =>
        simp only [okI, Bool.or_eq_true, underI] at h1 hu'
        rcases h1 with h1 | h1
        · have e := Nat.eq_of_beq_eq_true h1
          subst e
          have e2 : H.get (.loc j) = some b := hb
          rw [e2] at hq; cases hq
          rw [mvI_k]
          exact ⟨mvH_n (by omega) hb, mvφ_n⟩
        · exact absurd h1 hu'
  cases c with
  | ptr id o =>
    obtain ⟨b', r, h1, h2, h3, h4⟩ := h
    obtain ⟨e1, e2⟩ := key id (by simp [idsC]) _ h1
    exact ⟨b', r, e1, h2, e2.trans h3, h4⟩
  | bp g id o =>
    obtain ⟨b', r, h1, h2, h3, h4⟩ := h
    obtain ⟨e1, e2⟩ := key id (by simp [idsC]) _ h1
    exact ⟨b', r, e1, h2, e2.trans h3, h4⟩
  | ms id n0 =>
    obtain ⟨b', r, h1, h2, h3, h4⟩ := h
    obtain ⟨e1, e2⟩ := key id (by simp [idsC]) _ h1
    exact ⟨b', r, e1, h2, e2.trans h3, h4⟩
  | ap id m i o =>
    obtain ⟨sz, fz, es, b', q, h1, h2, h3, h4⟩ := h
    obtain ⟨e1, e2⟩ := key id (by simp [idsC]) _ h1
    exact ⟨sz, fz, es, b', q, e1, h2, h3, fun e => ⟨e2.trans (h4 e).1, (h4 e).2⟩⟩
  | os id m =>
    obtain ⟨sz, fz, es, h1, h2, h3⟩ := h
    obtain ⟨e1, e2⟩ := key id (by simp [idsC]) _ h1
    refine ⟨sz, fz, es, e1, h2, fun e => ?_⟩
    rcases h3 e with h | ⟨r, cap, e', q, q1, q2⟩
    · exact .inl h
    · exact .inr ⟨r, cap, e', q, e2.trans q1, q2⟩
  | fn g caps =>
    obtain ⟨cv, h1, h2⟩ := h
    refine ⟨cv, h1, ?_⟩
    simp only [idsC] at key
    clear h1 hu
    induction h2 with
    | nil => exact .nil
    | cons q _ ih =>
      obtain ⟨b', r, q1, q2, q3, q4⟩ := q
      obtain ⟨e1, e2⟩ := key _ List.mem_cons_self _ q1
      exact .cons ⟨b', r, e1, q2, e2.trans q3, q4⟩ (ih fun i h => key i (by simp [h]))
  | _ => exact h

theorem AR1.mv {n k : Nat} (hn : n ≤ k) {b : Blk} (hb : H.loc[k]? = some b) (hr : b.isRow = false) {a : AV} {x : Value} (hu : (idsA a).all (okI n k) = true) (h : AR1 φ H F w a x) : AR1 (mvφ φ n k) (mvH n k H) F w (a.ren1 (mvI n k)) x := by
  cases h with
  | un x => exact .un x
  | c h hx => exact .c (h.mv hn hb hr hu) hx
  | agg h => exact .agg h
  | mg h =>
    simp only [idsA] at hu
    refine .mg ?_
    induction h with
    | nil => exact .nil
    | cons q _ ih =>
      rw [List.flatMap_cons, List.all_append, Bool.and_eq_true] at hu
      exact .cons ⟨q.1.mv hn hb hr hu.1, q.2⟩ (ih hu.2)

theorem AR.mv {n k : Nat} (hn : n ≤ k) {b : Blk} (hb : H.loc[k]? = some b) (hr : b.isRow = false) {a : AV} {x : Value} (hu : okA n k a = true) (h : AR φ H F w a x) : AR (mvφ φ n k) (mvH n k H) F w (a.ren (mvI n k)) x := by
  cases h with
  | one h =>
    have : a.ren (mvI n k) = a.ren1 (mvI n k) := by cases h <;> rfl
    rw [this]
    refine .one (h.mv hn hb hr ?_)
    cases h <;> exact hu
  | tup h =>
    simp only [okA, idsT] at hu
    refine .tup ?_
    induction h with
    | nil => exact .nil
    | cons q _ ih =>
      rw [List.flatMap_cons, List.all_append, Bool.and_eq_true] at hu
      exact .cons (q.mv hn hb hr hu.1) (ih hu.2)

theorem ren_under {n k : Nat} (hn : n ≤ k) {c : C} (h : (idsC c).all (underI n) = true) : c.ren (mvI n k) = c := ren_id fun i hi => mvI_under hn (List.all_eq_true.1 h i hi)
theorem ok_under {n k : Nat} {l : List Id} (h : l.all (underI n) = true) : l.all (okI n k) = true := by
  rw [List.all_eq_true] at h ⊢
  intro i hi
  have := h i hi
  cases i with
  | par j => rfl
  | loc j => simp only [underI] at this; simp only [okI, this, Bool.or_true]

/-- The new slice at 'k' goes to place 'n': behind the old blocks, or in the place of a shorter slice. -/
theorem srel_mv {n k : Nat} {sz : Nat} {es : List (List PV)} (hS : SRel G φ H F w) (hkn : n ≤ k) (hkH : H.loc.length ≤ k) (hb : H'.loc[k]? = some (.arr sz false es))
    (hn : H.loc.length ≤ n ∨ (H.loc.length ≤ n + 1 ∧ ∃ es0, H.loc[n]? = some (.arr sz false es0) ∧ es0.length < es.length))
    (hu : underH n (cutH n H') = true) (E : Evo φ H F w φ' H' F' w') (S : SRel G φ' H' F' w') : Evo φ H F w (mvφ φ' n k) (mvH n k H') F' w' ∧ SRel G (mvφ φ' n k) (mvH n k H') F' w' := by
  have hk : k < H'.loc.length := (List.getElem?_eq_some_iff.1 hb).1
  have hn' : n ≤ H'.loc.length := by omega
  have hold : ∀ {i b}, H.get i = some b → underI n i = true ∨ i = .loc n := by
    intro i b h
    cases i with
    | par j => exact .inl rfl
    | loc j =>
      have := (List.getElem?_eq_some_iff.1 h).1
      by_cases e : j = n
      · subst e; exact .inr rfl
      · left
        simp only [underI, Nat.blt_eq]
        rcases hn with hn | ⟨hn, _⟩ <;> omega
  refine ⟨{ os := E.os, tape := E.tape, output := E.output, size := E.size, keep := E.keep, kp := E.kp, newF := E.newF, new := fun id r h => ?_, be := fun id b hb' => ?_, shp := E.shp, npar := E.npar }, ?_⟩
  · rcases mvφ_some h with ⟨h1, h2⟩ | ⟨rfl, h2⟩
    · exact E.new id r h2
    · rcases E.new _ r h2 with h3 | h3
      · have := hS.has _ _ h3
        obtain ⟨b, hb'⟩ := Option.isSome_iff_exists.1 this
        have := (List.getElem?_eq_some_iff.1 (show H.loc[k]? = some b from hb')).1
        omega
      · exact .inr h3
  · obtain ⟨b', h1, h2⟩ := E.be id b hb'
    rcases hold hb' with hu' | rfl
    · refine ⟨b', (mvH_under hn' hu').trans h1, ?_⟩
      have := mvφ_under (φ := φ') (k := k) hu'
      cases b <;> cases b' <;> simp_all [BE]
    · rcases hn with hn | ⟨hn, es0, he, hl⟩
      · have := (List.getElem?_eq_some_iff.1 (show H.loc[n]? = some b from hb')).1
        omega
      · have hb'' : H.loc[n]? = some b := hb'
        rw [he] at hb''; cases hb''
        refine ⟨_, mvH_n hn' hb, ?_⟩
        simp only [BE]
        exact ⟨trivial, by omega, fun e => by omega, fun e => by cases e⟩
  · refine ⟨fun i j r hi hj => ?_, fun i r h => ?_, fun i r h => ?_, fun id b h => ?_, S.glob, S.fin⟩
    · rcases mvφ_some hi with ⟨h1, h2⟩ | ⟨rfl, h2⟩ <;> rcases mvφ_some hj with ⟨h3, h4⟩ | ⟨rfl, h4⟩
      · exact S.inj i j r h2 h4
      · have := S.inj _ _ r h2 h4
        subst this
        simp only [underI, Nat.blt_eq] at h1; omega
      · have := S.inj _ _ r h2 h4
        subst this
        simp only [underI, Nat.blt_eq] at h3; omega
      · rfl
    · rcases mvφ_some h with ⟨h1, h2⟩ | ⟨rfl, h2⟩ <;> exact S.dom _ r h2
    · rcases mvφ_some h with ⟨h1, h2⟩ | ⟨rfl, h2⟩
      · rw [mvH_under hn' h1]; exact S.has i r h2
      · rw [mvH_n hn' hb]; rfl
    · rcases mvH_some hn' hb h with ⟨h1, h2⟩ | ⟨rfl, rfl⟩
      · have hB := S.blk id b h2
        have hφ := mvφ_under (φ := φ') (k := k) h1
        have hub : underB n b = true := under_blk hu ((cut_get h1).trans h2)
        cases b with
        | row cs => simpa only [BR, hφ] using hB
        | mrow cs =>
          obtain ⟨r, c, q1, q2, q3, q4⟩ := hB
          refine ⟨r, c, hφ.trans q1, q2, q3, ?_⟩
          simp only [underB] at hub
          clear q2
          generalize c.toList = xs at q4
          clear h2 h
          induction q4 with
          | nil => exact .nil
          | cons q _ ih =>
            rw [List.all_cons, Bool.and_eq_true] at hub
            have := q.1.mv hkn hb rfl (ok_under hub.1)
            rw [ren_under hkn hub.1] at this
            exact .cons ⟨this, q.2⟩ (ih hub.2)
        | arr sz fz es => simpa only [BR, hφ] using hB
        | hole => exact hφ.trans hB
      · have hB := S.blk (.loc k) _ hb
        simpa only [BR, mvφ_n] using hB

/-- What is given back owns one new slice: it comes behind the old blocks. -/
theorem EvG.own {g : FuncId} {args : List AV} {Q Q' : AV → Hp → Prop} (h : EvG P G g args H Q)
    (hq : ∀ r h, Q r h → Q' r h ∨ ∃ k sz es, H.loc.length ≤ k ∧ h.loc[k]? = some (.arr sz false es) ∧ okA H.loc.length k r = true ∧ underH H.loc.length (cutH H.loc.length h) = true ∧ Q' (r.ren (mvI H.loc.length k)) (mvH H.loc.length k h)) : EvG P G g args H Q' := by
  refine ⟨h.1, fun φ F w xs hS hx => ?_⟩
  refine (h.2 φ F w xs hS hx).mono fun e w' ⟨r, h', φ', F', x, hr, he, E, S, A⟩ => ?_
  rcases hq r h' hr with hr | ⟨k, sz, es, k1, k2, k3, k4, k5⟩
  · exact ⟨r, h', φ', F', x, hr, he, E, S, A⟩
  · obtain ⟨E', S'⟩ := srel_mv hS k1 k1 k2 (.inl (Nat.le_refl _)) k4 E S
    exact ⟨_, _, _, F', x, k5, he, E', S', A.mv k1 k2 rfl k3⟩

/-- What a round's end asks, where the new slice at 'k' takes the place of the shorter one at 'n'. -/
def roundO {σ : Type} (Tf : σ → Tm) (Hf : σ → Hp) (μ : σ → Nat) (Inv : σ → Prop) (s : σ) (n : Nat) (K : Ex → Tm → Hp → Prop) (e : Ex) (T : Tm) (H : Hp) : Prop :=
  match e with
  | .norm => ∃ s' k sz es T1, Inv s' ∧ μ s' < μ s ∧ subP T T1 ∧ Tf s' = T1.map (fun p => (p.1, p.2.ren (mvI n k))) ∧ (Hf s).loc.length ≤ k ∧ n ≤ k ∧ H.loc[k]? = some (.arr sz false es) ∧
      ((Hf s).loc.length ≤ n ∨ ((Hf s).loc.length ≤ n + 1 ∧ ∃ es0, (Hf s).loc[n]? = some (.arr sz false es0) ∧ es0.length < es.length)) ∧
      mvH n k H = Hf s' ∧ T1.all (fun p => okA n k p.2) = true ∧ underH n (cutH n H) = true
  | e => K e T H

theorem get_map (f : AV → AV) (hf : f .un = .un) (T : Tm) (t : Nat) : Tm.get (T.map fun p => (p.1, f p.2)) t = f (T.get t) := by
  induction T with
  | nil => exact hf.symm
  | cons p r ih =>
    obtain ⟨u, v⟩ := p
    simp only [List.map_cons, Tm.get]
    split
    · rfl
    · exact ih
theorem okT_get {n k : Nat} {T : Tm} (h : T.all (fun p => okA n k p.2) = true) (t : Nat) : okA n k (T.get t) = true := by
  induction T with
  | nil => rfl
  | cons p r ih =>
    obtain ⟨u, v⟩ := p
    simp only [List.all_cons, Bool.and_eq_true] at h
    simp only [Tm.get]
    split
    · exact h.1
    · exact ih h.2

theorem SemI.mv {x : Item} {T : Tm} {H : Hp} {K K' : Ex → Tm → Hp → Prop} (h : SemI P G N x T H K') (hk : ∀ e T' H', K' e T' H' → K e T' H' ∨ ∃ n k sz es T1, H.loc.length ≤ k ∧ n ≤ k ∧ H'.loc[k]? = some (.arr sz false es) ∧
      (H.loc.length ≤ n ∨ (H.loc.length ≤ n + 1 ∧ ∃ es0, H.loc[n]? = some (.arr sz false es0) ∧ es0.length < es.length)) ∧ Sub T' T1 ∧ T1.all (fun p => okA n k p.2) = true ∧ underH n (cutH n H') = true ∧
      K e (T1.map fun p => (p.1, p.2.ren (mvI n k))) (mvH n k H')) : SemI P G N x T H K := by
  intro φ F w fr k0 cs base hp
  obtain ⟨e, T', H', φ', F', w', tmps', ds', h1, h2, h3, h4⟩ := h φ F w fr k0 cs base hp
  rcases hk e T' H' h1 with h1 | ⟨n, k, sz, es, T1, q1, q2, q3, q4, q5, q6, q7, q8⟩
  · exact ⟨e, T', H', φ', F', w', tmps', ds', h1, h2, h3, h4⟩
  · obtain ⟨E, S⟩ := srel_mv hp.srel q2 q1 q3 q4 q7 h2 h3.srel
    refine ⟨e, _, _, _, F', w', tmps', ds', q8, E, { run := h3.run, size := h3.size, defers := h3.defers, round := h3.round, base := h3.base, srel := S, trel := fun t => ?_ }, h4⟩
    rw [get_map _ rfl]
    exact ((h3.trel.sub q5) t).mv q2 q3 rfl (okT_get q6 t)

end
end Go.Ab

namespace Go.Ab
open Go Go.RowKit Go.Proofs Go.Shelf

section
variable {P : Program} {G : Gl}

/-- A type's size in cells and bytes, where its zero value has as many cells. -/
def growSz (P : Program) (t : TypeId) : Option (Nat × Nat) :=
  match P.info? t with
  | some i => match i.zero with
    | some z => match Nat.beq z.cells.size i.size with
      | true => some (i.size, i.bytes)
      | false => none
    | none => none
  | none => none

end
end Go.Ab

namespace Go.Ab
open Go

section
variable {P : Program} {G : Gl}

theorem OwnNew.of {g : FuncId} {args : List AV} {sz n : Nat} {es : List (List PV)} (h : EvR P G g args ⟨[], []⟩ (.c (.os (.loc 0) n)) ⟨[], [.arr sz false es]⟩) (hn : n = es.length) (ha : args.all pureV1 = true) : OwnNew P G g args sz es := by
  intro H
  subst hn
  have h0 : args.all (inA 0) = true := by
    rw [List.all_eq_true] at ha ⊢
    intro a hm
    have := ha a hm
    cases a with
    | c c => cases c <;> simp [pureV1] at this; rfl
    | agg cs => rfl
    | _ => simp [pureV1] at this
  have hf := EvR.frame (H := H) (is := []) h ⟨List.nodup_nil, rfl, fun k i b h _ => by simp at h, rfl⟩ h0
  have e1 : args.map (AV.ren (rho [] H.loc.length)) = args := by
    clear hf h h0
    induction args with
    | nil => rfl
    | cons a r ih =>
      rw [List.all_cons, Bool.and_eq_true] at ha
      rw [List.map_cons, ih ha.2]
      congr 1
      cases a with
      | c c => cases c <;> simp [pureV1] at ha; rfl
      | agg cs => rfl
      | _ => simp [pureV1] at ha
  rw [e1] at hf
  exact hf
/-! ### Pieces of code, one behind the other -/
theorem SemS.of_wpf (fl : Bool) (hm : P.follows .mixedOrders = true) {N : Nat} {s : SC} {T : Tm} {H : Hp} {K : Ex → Tm → Hp → Prop} (h : wpf P G fl N s T H K) : SemS P G N s T H K := by
  rw [wpf_eq] at h
  exact SemS.of_wps hm h
/-! ### A slice that is made, so long as one does not know -/
end
end Go.Ab

namespace Go.Ab
open Go

section
variable {P : Program} {G : Gl} {H : Hp}

end
end Go.Ab

namespace Go.Ab
open Go

def nearB (x y : SO) : Bool := x.op.ro && y.op.ro && apartS x y
/-- Of those before: the ones that do not stand apart. -/
def maskL (o : SO) : Nat → List SO → Nat
  | _, [] => 0
  | i, x :: r => match nearB x o with
    | true => maskL o (i + 1) r
    | false => 2 ^ i ||| maskL o (i + 1) r
def anL : List SO → List SO → List Nat
  | _, [] => []
  | p, o :: r => maskL o 0 p :: anL (p ++ [o]) r

section
variable {P : Program} {G : Gl} {N : Nat}

end
end Go.Ab

namespace Go.Ab
open Go
section
variable {P : Program} {G : Gl} {fl : Bool} {N : Nat}
theorem wpfS_seq2 {a b : SC} {T : Tm} {H : Hp} {k : Ex → Tm → Hp → Prop} (h : wpfS P G fl N a T H (seqK (wpfS P G fl N b) k)) : wpfS P G fl N (.seq a b) T H k := by
  rw [wpfS_eq] at h ⊢
  exact h
theorem wpfS_cons {d : Bool} {o : SO} {l : List SO} {T : Tm} {H : Hp} {k : Ex → Tm → Hp → Prop} (h : wpf P G fl N (.reg d [o]) T H (seqK (wpfS P G fl N (.reg d l)) k)) : wpfS P G fl N (.reg d (o :: l)) T H k := wpfS_go (wpf_cut 1 h)
theorem wpfS_nil {d : Bool} {T : Tm} {H : Hp} {k : Ex → Tm → Hp → Prop} (h : k .norm T H) : wpfS P G fl N (.reg d []) T H k := wpfS_go h
theorem wpfS_cond {c : SA} {t e : SC} {T : Tm} {H : Hp} {k : Ex → Tm → Hp → Prop} (h : match evS G T c with
    | .c (.p (.bool b)) => brP b (wpfS P G fl N t T H k) (wpfS P G fl N e T H k)
    | _ => False) : wpfS P G fl N (.cond c t e) T H k := by
  rw [wpfS_eq] at h ⊢
  exact h
theorem wpfS_block {id : Nat} {b : SC} {T : Tm} {H : Hp} {k : Ex → Tm → Hp → Prop} (h : wpfS P G fl N b T H (blockK id k)) : wpfS P G fl N (.block id b) T H k := by
  rw [wpfS_eq] at h ⊢
  exact h
/-- What a piece of code's end asks, where the state is weakened before what follows. -/
def seqCut (Tf : Tm) (Hf : Hp) (n : Nat) (K : Ex → Tm → Hp → Prop) (e : Ex) (T : Tm) (H : Hp) : Prop :=
  match e with
  | .norm => subP T Tf ∧ cutH n H = Hf
  | e => K e T H
theorem wpf_of_S {s : SC} {T : Tm} {H : Hp} {k : Ex → Tm → Hp → Prop} (h : wpfS P G fl N s T H k) : wpf P G fl N s T H k := by
  rw [wpfS_eq] at h
  exact h
/-! ### A region whose footprints are looked at, one operation after the other -/
inductive lMS (P : Program) (G : Gl) (fl : Bool) (an : List Nat) (l : List SO) (j s : Nat) (T : Tm) (H : Hp) (log : List Fp) (k : Tm → Hp → Prop) : Prop
  | mk (h : lMF P G fl an l j s T H log k)
theorem lMS_eq {an : List Nat} : lMS P G fl an = lMF P G fl an := by
  funext l j s T H log k
  exact propext ⟨fun ⟨h⟩ => h, fun h => ⟨h⟩⟩
theorem lMS_cons {an : List Nat} {o : SO} {r : List SO} {j s : Nat} {T : Tm} {H : Hp} {log : List Fp} {k : Tm → Hp → Prop} (h : oMF P G fl s o T H fun T H fp => gd (okFp (an.getD j 0) fp 0 log) (fLog (log ++ [fp]) fun log => fSlot o.op.adds s fun s => lMS P G fl an r (j + 1) s T H log k)) : lMS P G fl an (o :: r) j s T H log k := by
  rw [lMS_eq] at h ⊢
  exact h
theorem lMS_nil {an : List Nat} {j s : Nat} {T : Tm} {H : Hp} {log : List Fp} {k : Tm → Hp → Prop} (h : k T H) : lMS P G fl an [] j s T H log k := by
  rw [lMS_eq]
  exact h
theorem wpfS_dr {an : List Nat} {ops : List SO} {T : Tm} {H : Hp} {k : Ex → Tm → Hp → Prop} (h : fN (cnt ops + cntC ops) fun n => fH fl (withHoles H n) fun H' => fN H.loc.length fun s => lMS P G fl an ops 0 s T H' [] (endF2 fl (cntC ops) (H.loc.length + cnt ops) (k .norm))) : wpfS P G fl N (.dr an ops) T H k := by
  rw [fN_eq, fH_eq, fN_eq, lMS_eq] at h
  exact wpfS_go h
end
end Go.Ab
