/- A loop's first round taken by itself; blocks forgotten. No condition. -/
import Derived.Test.YteipepbijfdciaaDoorAb14
set_option linter.unusedSimpArgs false
set_option linter.unusedVariables false
namespace Go.Ab
open Go

section
variable {P : Program} {G : Gl} {N : Nat}

theorem steps_from {m m1 m2 : Machine} (h : Steps P m m2) (h1 : step P m = .next m1) (hne : m ≠ m2) : Steps P m1 m2 := by
  cases steps_iff.1 h with
  | refl => exact absurd rfl hne
  | head _ hs ht => rw [h1] at hs; cases hs; exact steps_iff.2 ht

theorem sem_loop1 {b : Code} {T : Tm} {H : Hp} {K : Ex → Tm → Hp → Prop} (h : SemC P G N b T H fun e T H => match e with | .norm => SemC P G N (.loop b) T H K | e => K e T H) : SemC P G N (.loop b) T H K := by
  intro φ F w fr k cs base hp
  obtain ⟨e, T', H', φ', F', w', tmps', ds', h1, h2, h3, h4⟩ := h φ F w fr (.inLoop b :: k) cs base hp
  have hs : step P (lone { fr with todo := .code (.loop b) :: k } cs w) = .next (lone { fr with todo := .code b :: .inLoop b :: k } cs w) := step_lone_go (by simp [stepG, stepG.exec, hp.run])
  cases e with
  | norm =>
    obtain ⟨e, T2, H2, φ2, F2, w2, tmps2, ds2, g1, g2, g3, g4⟩ := h1 φ' F' w' _ k cs base h3
    have hs1 : step P (lone { fr with tmps := tmps', defers := ds', todo := .code (.loop b) :: k } cs w') = .next (lone { fr with tmps := tmps', defers := ds', todo := .code b :: .inLoop b :: k } cs w') := step_lone_go (by simp [stepG, stepG.exec, hp.run])
    have hs2 : step P (lone { fr with tmps := tmps', defers := ds', todo := .inLoop b :: k } cs w') = .next (lone { fr with tmps := tmps', defers := ds', todo := .code b :: .inLoop b :: k } cs w') := step_lone_go (by simp [stepG, stepG.exec, hp.run])
    have key : ∀ {t : List Item} {tm : Array Value} {ds : List Deferred} {w2 : World}, t ≠ .code (.loop b) :: k → Steps P (lone { fr with tmps := tmps', defers := ds', todo := .code (.loop b) :: k } cs w') (lone { fr with tmps := tm, defers := ds, todo := t } cs w2) →
        Steps P (lone { fr with todo := .code (.loop b) :: k } cs w) (lone { fr with tmps := tm, defers := ds, todo := t } cs w2) := by
      intro t tm ds w2 hne hst
      refine .head hs (Steps.trans h4 (.head hs2 (steps_from hst hs1 fun e => hne ?_)))
      have : ({ fr with tmps := tmps', defers := ds', todo := .code (.loop b) :: k } : Frame).todo = ({ fr with tmps := tm, defers := ds, todo := t } : Frame).todo := by
        have := congrArg (fun m : Machine => m.gs.map fun g => g.frame.todo) e
        simpa [lone] using this
      exact this.symm
    refine ⟨e, T2, H2, φ2, F2, w2, tmps2, ds2, g1, h2.trans g2, g3, ?_⟩
    cases e with
    | norm => exact key (fun e => by have := congrArg List.length e; simp at this) g4
    | exit id => obtain ⟨k', h5, h6⟩ := g4; exact ⟨k', h5, key (by simp) h6⟩
    | ret => obtain ⟨k', h6⟩ := g4; exact ⟨k', key (by simp) h6⟩
  | exit id => obtain ⟨k', h5, h6⟩ := h4; exact ⟨.exit id, T', H', φ', F', w', tmps', ds', h1, h2, h3, k', by rw [h5]; rfl, .head hs h6⟩
  | ret => obtain ⟨k', h6⟩ := h4; exact ⟨.ret, T', H', φ', F', w', tmps', ds', h1, h2, h3, k', .head hs h6⟩

/-- A place that one does not know as a numeral. -/
theorem fN_mk {n : Nat} {k : Nat → Prop} (h : k n) : fN n k := by rw [fN_eq]; exact h

/-- What a round's end asks, where the loop goes on. -/
def againF (P : Program) (G : Gl) (N : Nat) (b : SC) (K : Ex → Tm → Hp → Prop) (e : Ex) (T : Tm) (H : Hp) : Prop :=
  match e with
  | .norm => SemS P G N (.loop b) T H K
  | e => K e T H

/-- A loop's first round. -/
theorem SemS.loop1 (fl : Bool) (hm : P.follows .mixedOrders = true) {b : SC} {T : Tm} {H : Hp} {K : Ex → Tm → Hp → Prop} (h : wpf P G fl N b T H (againF P G N b K)) : SemS P G N (.loop b) T H K := by
  intro c
  induction c with
  | scope c ih =>
    intro hc
    exact sem_scope (ih (by simpa only [compC] using hc))
  | loop cb _ =>
    intro hc
    rcases compC_loop _ hc with ⟨cb', e, hcb⟩ | ⟨c', e, _⟩
    · cases e
      rw [wpf_eq] at h
      refine sem_loop1 ((wps_sound hm cb b hcb h).mono ?_)
      intro e T H h
      cases e with
      | norm => exact h _ hc
      | exit i => exact h
      | ret => exact h
    · cases e
  | _ =>
    intro hc
    rcases compC_loop _ hc with ⟨cb', e, h⟩ | ⟨c', e, _⟩ <;> cases e

/-! ### Blocks forgotten -/
def idsT : AV → List Id
  | .tup vs => vs.flatMap idsA
  | a => idsA a
def underI (n : Nat) : Id → Bool
  | .loc k => Nat.blt k n
  | .par _ => true
def underA (n : Nat) (a : AV) : Bool := (idsT a).all (underI n)
def underB (n : Nat) : Blk → Bool
  | .mrow cs => cs.all fun c => (idsC c).all (underI n)
  | _ => true
def cutH (n : Nat) (H : Hp) : Hp := ⟨H.par, H.loc.take n⟩
def underH (n : Nat) (H : Hp) : Bool := H.par.all (underB n) && H.loc.all (underB n)
def underT (n : Nat) (T : Tm) : Bool := T.all fun p => underA n p.2
def cutφ (φ : Pl) (n : Nat) : Pl := fun i => match underI n i with | true => φ i | false => none

variable {φ φ' : Pl} {H H' : Hp} {F F' : Cl} {w w' : World} {T T' : Tm}

theorem cut_get {n : Nat} {i : Id} (h : underI n i = true) : (cutH n H).get i = H.get i := by
  cases i with
  | par k => rfl
  | loc k =>
    simp only [underI, Nat.blt_eq] at h
    simp only [cutH, Hp.get]
    rw [List.getElem?_take_of_lt h]
theorem cut_get_some {n : Nat} {i : Id} {b : Blk} (h : (cutH n H).get i = some b) : underI n i = true ∧ H.get i = some b := by
  cases i with
  | par k => exact ⟨rfl, h⟩
  | loc k =>
    simp only [cutH, Hp.get] at h ⊢
    have := (List.getElem?_eq_some_iff.1 h).1
    simp only [List.length_take] at this
    have hk : k < n := by omega
    rw [List.getElem?_take_of_lt hk] at h
    exact ⟨by simpa [underI] using hk, h⟩
theorem cutφ_under {n : Nat} {i : Id} (h : underI n i = true) : cutφ φ n i = φ i := by simp [cutφ, h]
theorem cutφ_some {n : Nat} {i : Id} {r : Nat} (h : cutφ φ n i = some r) : underI n i = true ∧ φ i = some r := by
  unfold cutφ at h
  split at h
  · rename_i hu; exact ⟨hu, h⟩
  · cases h

theorem CR.cut {n : Nat} {c : C} {x : Value} (hu : (idsC c).all (underI n) = true) (h : CR φ H F w c x) : CR (cutφ φ n) (cutH n H) F w c x := by
  have hi : ∀ i ∈ idsC c, (cutH n H).get i = H.get i ∧ cutφ φ n i = φ i := fun i hi => ⟨cut_get (List.all_eq_true.1 hu i hi), cutφ_under (List.all_eq_true.1 hu i hi)⟩
  cases c with
  | ptr id o => obtain ⟨h1, h2⟩ := hi id (by simp [idsC]); simpa only [CR, h1, h2] using h
  | ap id m j o => obtain ⟨h1, h2⟩ := hi id (by simp [idsC]); simpa only [CR, h1, h2] using h
  | os id m => obtain ⟨h1, h2⟩ := hi id (by simp [idsC]); simpa only [CR, OsV, h1, h2] using h
  | fn g caps =>
    obtain ⟨cv, h1, h2⟩ := h
    refine ⟨cv, h1, ?_⟩
    simp only [idsC] at hi
    clear h1 hu
    induction h2 with
    | nil => exact .nil
    | cons q _ ih =>
      obtain ⟨b, r, q1, q2, q3, q4⟩ := q
      obtain ⟨e1, e2⟩ := hi _ List.mem_cons_self
      exact .cons ⟨b, r, e1.trans q1, q2, e2.trans q3, q4⟩ (ih fun i h => hi i (by simp [h]))
  | _ => exact h
theorem AR1.cut {n : Nat} {a : AV} {x : Value} (hu : (idsA a).all (underI n) = true) (h : AR1 φ H F w a x) : AR1 (cutφ φ n) (cutH n H) F w a x := by
  cases h with
  | un x => exact .un x
  | c h hx => exact .c (h.cut hu) hx
  | agg h => exact .agg h
  | mg h =>
    simp only [idsA] at hu
    refine .mg ?_
    induction h with
    | nil => exact .nil
    | cons q _ ih =>
      rw [List.flatMap_cons, List.all_append, Bool.and_eq_true] at hu
      exact .cons ⟨q.1.cut hu.1, q.2⟩ (ih hu.2)
theorem AR.cut {n : Nat} {a : AV} {x : Value} (hu : underA n a = true) (h : AR φ H F w a x) : AR (cutφ φ n) (cutH n H) F w a x := by
  cases h with
  | one h =>
    refine .one (h.cut ?_)
    cases h <;> exact hu
  | tup h =>
    simp only [underA, idsT] at hu
    refine .tup ?_
    induction h with
    | nil => exact .nil
    | cons q _ ih =>
      rw [List.flatMap_cons, List.all_append, Bool.and_eq_true] at hu
      exact .cons (q.cut hu.1) (ih hu.2)
theorem BR.cut {n : Nat} {id : Id} {b : Blk} (hid : underI n id = true) (hu : underB n b = true) (h : BR φ H F w id b) : BR (cutφ φ n) (cutH n H) F w id b := by
  have hφ := cutφ_under (φ := φ) hid
  cases b with
  | row cs => simpa only [BR, hφ] using h
  | mrow cs =>
    obtain ⟨r, c, h1, h2, h3, h4⟩ := h
    refine ⟨r, c, hφ.trans h1, h2, h3, ?_⟩
    simp only [underB] at hu
    clear h2
    generalize c.toList = xs at h4
    induction h4 with
    | nil => exact .nil
    | cons q _ ih =>
      rw [List.all_cons, Bool.and_eq_true] at hu
      exact .cons ⟨q.1.cut hu.1, q.2⟩ (ih hu.2)
  | arr sz fz es => simpa only [BR, hφ] using h
  | hole => exact hφ.trans h

theorem under_get {n : Nat} (h : underT n T = true) (t : Nat) : underA n (T.get t) = true := by
  induction T with
  | nil => rfl
  | cons p r ih =>
    obtain ⟨u, v⟩ := p
    simp only [underT, List.all_cons, Bool.and_eq_true] at h
    simp only [Tm.get]
    split
    · exact h.1
    · exact ih h.2
theorem under_blk {n : Nat} (h : underH n H = true) {i : Id} {b : Blk} (hg : H.get i = some b) : underB n b = true := by
  simp only [underH, Bool.and_eq_true] at h
  cases i with
  | par k => exact List.all_eq_true.1 h.1 b (List.mem_of_getElem? hg)
  | loc k => exact List.all_eq_true.1 h.2 b (List.mem_of_getElem? hg)

theorem srel_cut {n : Nat} (hn : H.loc.length ≤ n) (hu : underH n (cutH n H') = true) (E : Evo φ H F w φ' H' F' w') (S : SRel G φ' H' F' w') : Evo φ H F w (cutφ φ' n) (cutH n H') F' w' ∧ SRel G (cutφ φ' n) (cutH n H') F' w' := by
  have hold : ∀ {i b}, H.get i = some b → underI n i = true := by
    intro i b h
    cases i with
    | par k => rfl
    | loc k =>
      have := (List.getElem?_eq_some_iff.1 h).1
      simp [underI]; omega
  refine ⟨{ os := E.os, tape := E.tape, output := E.output, size := E.size, keep := E.keep, kp := E.kp, newF := E.newF, new := fun id r h => E.new id r (cutφ_some h).2, be := fun id b hb => ?_, shp := E.shp, npar := E.npar }, ?_⟩
  · obtain ⟨b', h1, h2⟩ := E.be id b hb
    refine ⟨b', (cut_get (hold hb)).trans h1, ?_⟩
    have := cutφ_under (φ := φ') (hold hb)
    cases b <;> cases b' <;> simp_all [BE]
  · refine ⟨fun i j r hi hj => S.inj i j r (cutφ_some hi).2 (cutφ_some hj).2, fun i r h => S.dom i r (cutφ_some h).2, fun i r h => ?_, fun id b hb => ?_, S.glob, S.fin⟩
    · obtain ⟨h1, h2⟩ := cutφ_some h
      rw [cut_get h1]
      exact S.has i r h2
    · obtain ⟨h1, h2⟩ := cut_get_some hb
      exact (S.blk id b h2).cut h1 (under_blk hu hb)

/-- What a piece of code comes to, with blocks forgotten that nothing names. -/
theorem SemI.cut {x : Item} {K K' : Ex → Tm → Hp → Prop} (h : SemI P G N x T H K') (hk : ∀ e T' H', K' e T' H' → K e T' H' ∨ ∃ n T1, H.loc.length ≤ n ∧ Sub T' T1 ∧ underT n T1 = true ∧ underH n (cutH n H') = true ∧ K e T1 (cutH n H')) : SemI P G N x T H K := by
  intro φ F w fr k cs base hp
  obtain ⟨e, T', H', φ', F', w', tmps', ds', h1, h2, h3, h4⟩ := h φ F w fr k cs base hp
  rcases hk e T' H' h1 with h1 | ⟨n, T1, q1, q2, q3, q4, q5⟩
  · exact ⟨e, T', H', φ', F', w', tmps', ds', h1, h2, h3, h4⟩
  · obtain ⟨E, S⟩ := srel_cut q1 q4 h2 h3.srel
    exact ⟨e, T1, _, _, F', w', tmps', ds', q5, E, { run := h3.run, size := h3.size, defers := h3.defers, round := h3.round, base := h3.base, srel := S, trel := fun t => ((h3.trel.sub q2) t).cut (under_get q3 t) }, h4⟩

/-- What a round's end asks of the next head; blocks behind may be forgotten. -/
def roundC {σ : Type} (Tf : σ → Tm) (Hf : σ → Hp) (μ : σ → Nat) (Inv : σ → Prop) (s : σ) (K : Ex → Tm → Hp → Prop) (e : Ex) (T : Tm) (H : Hp) : Prop :=
  match e with
  | .norm => ∃ s' n, Inv s' ∧ μ s' < μ s ∧ subP T (Tf s') ∧ (Hf s).loc.length ≤ n ∧ cutH n H = Hf s' ∧ underT n (Tf s') = true ∧ underH n (Hf s') = true
  | e => K e T H

theorem SemS.loopC (fl : Bool) (hm : P.follows .mixedOrders = true) {b : SC} {K : Ex → Tm → Hp → Prop} {σ : Type} (Tf : σ → Tm) (Hf : σ → Hp) (μ : σ → Nat) (Inv : σ → Prop) (s0 : σ) (h0 : Inv s0) (hT : subP T (Tf s0)) (hH : H = Hf s0)
    (round : ∀ s, Inv s → wpf P G fl N b (Tf s) (Hf s) (roundC Tf Hf μ Inv s K)) : SemS P G N (.loop b) T H K := by
  have main : ∀ cb, compC P N cb = some b → SemC P G N (.loop cb) T H K := by
    intro cb hcb
    refine sem_loop (fun s T H => Inv s ∧ Sub T (Tf s) ∧ H = Hf s) μ s0 ⟨h0, .of hT, hH⟩ fun s T H ⟨h1, h2, h3⟩ => ?_
    subst h3
    have hr := round s h1
    rw [wpf_eq] at hr
    refine SemI.sub h2 ((wps_sound hm cb b hcb hr).cut fun e T' H' hk => ?_)
    cases e with
    | norm =>
      obtain ⟨s', n, q1, q2, q3, q4, q5, q6, q7⟩ := hk
      exact .inr ⟨n, Tf s', q4, .of q3, q6, by rw [q5]; exact q7, s', ⟨q1, fun _ => .inr rfl, q5⟩, q2⟩
    | exit i => exact .inl hk
    | ret => exact .inl hk
  intro c
  induction c with
  | scope c ih =>
    intro hc
    exact sem_scope (ih (by simpa only [compC] using hc))
  | loop cb _ =>
    intro hc
    rcases compC_loop _ hc with ⟨cb', e, h⟩ | ⟨c', e, _⟩
    · cases e; exact main cb h
    · cases e
  | _ =>
    intro hc
    rcases compC_loop _ hc with ⟨cb', e, h⟩ | ⟨c', e, _⟩ <;> cases e
end
end Go.Ab
