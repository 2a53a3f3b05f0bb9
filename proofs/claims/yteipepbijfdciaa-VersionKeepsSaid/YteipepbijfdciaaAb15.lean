/- A loop's first round taken by itself; blocks forgotten. No condition. -/
import Derived.Test.YteipepbijfdciaaAb14
set_option linter.unusedSimpArgs false
set_option linter.unusedVariables false
namespace Go.Ab
open Go

section
variable {P : Program} {G : Gl} {N : Nat}

theorem steps_from {m m1 m2 : Machine} (h : Steps P m m2) (h1 : step P m = .next m1) (hne : m ≠ m2) : Steps P m1 m2 := by
  cases steps_iff.1 h with
  | refl => exact absurd rfl hne
  | head _ hs ht => rw [h1] at hs; cases hs; exact steps_iff.2 ht

theorem sem_loop1 {b : Code} {T : Tm} {H : Hp} {K : Ex → Tm → Hp → Prop} (h : SemC P G N b T H fun e T H => match e with | .norm => SemC P G N (.loop b) T H K | e => K e T H) : SemC P G N (.loop b) T H K := by
  intro φ F w fr k cs base hp
  obtain ⟨e, T', H', φ', F', w', tmps', ds', h1, h2, h3, h4⟩ := h φ F w fr (.inLoop b :: k) cs base hp
  have hs : step P (lone { fr with todo := .code (.loop b) :: k } cs w) = .next (lone { fr with todo := .code b :: .inLoop b :: k } cs w) := step_lone_go (by simp [stepG, stepG.exec, hp.run])
  cases e with
  | norm =>
    obtain ⟨e, T2, H2, φ2, F2, w2, tmps2, ds2, g1, g2, g3, g4⟩ := h1 φ' F' w' _ k cs base h3
    have hs1 : step P (lone { fr with tmps := tmps', defers := ds', todo := .code (.loop b) :: k } cs w') = .next (lone { fr with tmps := tmps', defers := ds', todo := .code b :: .inLoop b :: k } cs w') := step_lone_go (by simp [stepG, stepG.exec, hp.run])
    have hs2 : step P (lone { fr with tmps := tmps', defers := ds', todo := .inLoop b :: k } cs w') = .next (lone { fr with tmps := tmps', defers := ds', todo := .code b :: .inLoop b :: k } cs w') := step_lone_go (by simp [stepG, stepG.exec, hp.run])
    have key : ∀ {t : List Item} {tm : Array Value} {ds : List Deferred} {w2 : World}, t ≠ .code (.loop b) :: k → Steps P (lone { fr with tmps := tmps', defers := ds', todo := .code (.loop b) :: k } cs w') (lone { fr with tmps := tm, defers := ds, todo := t } cs w2) →
        Steps P (lone { fr with todo := .code (.loop b) :: k } cs w) (lone { fr with tmps := tm, defers := ds, todo := t } cs w2) := by
      intro t tm ds w2 hne hst
      refine .head hs (Steps.trans h4 (.head hs2 (steps_from hst hs1 fun e => hne ?_)))
      have : ({ fr with tmps := tmps', defers := ds', todo := .code (.loop b) :: k } : Frame).todo = ({ fr with tmps := tm, defers := ds, todo := t } : Frame).todo := by
        have := congrArg (fun m : Machine => m.gs.map fun g => g.frame.todo) e
        simpa [lone] using this
      exact this.symm
    refine ⟨e, T2, H2, φ2, F2, w2, tmps2, ds2, g1, h2.trans g2, g3, ?_⟩
    cases e with
    | norm => exact key (fun e => by have := congrArg List.length e; simp at this) g4
    | exit id => obtain ⟨k', h5, h6⟩ := g4; exact ⟨k', h5, key (by simp) h6⟩
    | ret => obtain ⟨k', h6⟩ := g4; exact ⟨k', key (by simp) h6⟩
  | exit id => obtain ⟨k', h5, h6⟩ := h4; exact ⟨.exit id, T', H', φ', F', w', tmps', ds', h1, h2, h3, k', by rw [h5]; rfl, .head hs h6⟩
  | ret => obtain ⟨k', h6⟩ := h4; exact ⟨.ret, T', H', φ', F', w', tmps', ds', h1, h2, h3, k', .head hs h6⟩

/-- A place that one does not know as a numeral. -/
theorem fN_mk {n : Nat} {k : Nat → Prop} (h : k n) : fN n k := by rw [fN_eq]; exact h

/-- What a round's end asks, where the loop goes on. -/
def againF (P : Program) (G : Gl) (N : Nat) (b : SC) (K : Ex → Tm → Hp → Prop) (e : Ex) (T : Tm) (H : Hp) : Prop :=
  match e with
  | .norm => SemS P G N (.loop b) T H K
  | e => K e T H

/-- A loop's first round. -/
theorem SemS.loop1 (fl : Bool) (hm : P.follows .mixedOrders = true) {b : SC} {T : Tm} {H : Hp} {K : Ex → Tm → Hp → Prop} (h : wpf P G fl N b T H (againF P G N b K)) : SemS P G N (.loop b) T H K := by
  intro c
  induction c with
  | scope c ih =>
    intro hc
    exact sem_scope (ih (by simpa only [compC] using hc))
  | loop cb _ =>
    intro hc
    rcases compC_loop _ hc with ⟨cb', e, hcb⟩ | ⟨c', e, _⟩
    · cases e
      rw [wpf_eq] at h
      refine sem_loop1 ((wps_sound hm cb b hcb h).mono ?_)
      intro e T H h
      cases e with
      | norm => exact h _ hc
      | exit i => exact h
      | ret => exact h
    · cases e
  | _ =>
    intro hc
    rcases compC_loop _ hc with ⟨cb', e, h⟩ | ⟨c', e, _⟩ <;> cases e

variable {φ φ' : Pl} {H H' : Hp} {F F' : Cl} {w w' : World} {T T' : Tm}

/-- What a round's end asks of the next head; blocks behind may be forgotten. -/
def roundC {σ : Type} (Tf : σ → Tm) (Hf : σ → Hp) (μ : σ → Nat) (Inv : σ → Prop) (s : σ) (K : Ex → Tm → Hp → Prop) (e : Ex) (T : Tm) (H : Hp) : Prop :=
  match e with
  | .norm => ∃ s' n, Inv s' ∧ μ s' < μ s ∧ subP T (Tf s') ∧ (Hf s).loc.length ≤ n ∧ cutH n H = Hf s' ∧ underT n (Tf s') = true ∧ underH n (Hf s') = true
  | e => K e T H

theorem SemS.loopC (fl : Bool) (hm : P.follows .mixedOrders = true) {b : SC} {K : Ex → Tm → Hp → Prop} {σ : Type} (Tf : σ → Tm) (Hf : σ → Hp) (μ : σ → Nat) (Inv : σ → Prop) (s0 : σ) (h0 : Inv s0) (hT : subP T (Tf s0)) (hH : H = Hf s0)
    (round : ∀ s, Inv s → wpf P G fl N b (Tf s) (Hf s) (roundC Tf Hf μ Inv s K)) : SemS P G N (.loop b) T H K := by
  have main : ∀ cb, compC P N cb = some b → SemC P G N (.loop cb) T H K := by
    intro cb hcb
    refine sem_loop (fun s T H => Inv s ∧ Sub T (Tf s) ∧ H = Hf s) μ s0 ⟨h0, .of hT, hH⟩ fun s T H ⟨h1, h2, h3⟩ => ?_
    subst h3
    have hr := round s h1
    rw [wpf_eq] at hr
    refine SemI.sub h2 ((wps_sound hm cb b hcb hr).cut fun e T' H' hk => ?_)
    cases e with
    | norm =>
      obtain ⟨s', n, q1, q2, q3, q4, q5, q6, q7⟩ := hk
      exact .inr ⟨n, Tf s', q4, .of q3, q6, by rw [q5]; exact q7, s', ⟨q1, fun _ => .inr rfl, q5⟩, q2⟩
    | exit i => exact .inl hk
    | ret => exact .inl hk
  intro c
  induction c with
  | scope c ih =>
    intro hc
    exact sem_scope (ih (by simpa only [compC] using hc))
  | loop cb _ =>
    intro hc
    rcases compC_loop _ hc with ⟨cb', e, h⟩ | ⟨c', e, _⟩
    · cases e; exact main cb h
    · cases e
  | _ =>
    intro hc
    rcases compC_loop _ hc with ⟨cb', e, h⟩ | ⟨c', e, _⟩ <;> cases e
end
end Go.Ab
