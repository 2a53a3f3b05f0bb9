/- The evaluator over whole code, and its soundness; loops. No condition. -/
import Derived.Test.YteipepbijfdciaaAb7
set_option linter.unusedSimpArgs false
set_option linter.unusedVariables false
namespace Go.Ab
open Go

section
variable (P : Program) (G : Gl) (N : Nat)

def seqK (f : Tm → Hp → (Ex → Tm → Hp → Prop) → Prop) (k : Ex → Tm → Hp → Prop) (e : Ex) (T : Tm) (H : Hp) : Prop :=
  match e with
  | .norm => f T H k
  | e => k e T H

def blockK (id : Nat) (k : Ex → Tm → Hp → Prop) (e : Ex) (T : Tm) (H : Hp) : Prop :=
  match e with
  | .exit i => match Nat.beq i id with
    | true => k .norm T H
    | false => k (.exit i) T H
  | e => k e T H

def wps : SC → Tm → Hp → (Ex → Tm → Hp → Prop) → Prop
  | .skip, T, H, k => k .norm T H
  | .reg d ops, T, H, k => wpL P G d ops T H (k .norm)
  | .seq a b, T, H, k => wps a T H (seqK (wps b) k)
  | .cond c t e, T, H, k => match evS G T c with
    | .c (.p (.bool b)) => brP b (wps t T H k) (wps e T H k)
    | _ => False
  | .block id b, T, H, k => wps b T H (blockK id k)
  | .loop b, T, H, k => SemS P G N (.loop b) T H k
  | .rf f ps a b, T, H, k => SemS P G N (.rf f ps a b) T H k
  | .exit id, T, H, k => k (.exit id) T H
  | .ret, T, H, k => k .ret T H
  | .dr an ops, T, H, k => lM P G an ops 0 H.loc.length T (withHoles H (cnt ops)) [] (k .norm)
end

section
variable {P : Program} {G : Gl} {N : Nat}

theorem wps_sound (hm : P.follows .mixedOrders = true) : ∀ (c : Code) (s : SC) {T : Tm} {H : Hp} {K : Ex → Tm → Hp → Prop}, compC P N c = some s → wps P G N s T H K → SemC P G N c T H K
  | .skip, s, T, H, K, hc, h => by simp only [compC, Option.some.injEq] at hc; subst hc; exact sem_skip h
  | .label _, s, T, H, K, hc, h => by simp only [compC, Option.some.injEq] at hc; subst hc; exact sem_label h
  | .exit _, s, T, H, K, hc, h => by simp only [compC, Option.some.injEq] at hc; subst hc; exact sem_exit h
  | .ret, s, T, H, K, hc, h => by simp only [compC, Option.some.injEq] at hc; subst hc; exact sem_ret h
  | .goto _, s, T, H, K, hc, h => by simp [compC] at hc
  | .refuse _, s, T, H, K, hc, h => by simp [compC] at hc
  | .scope b, s, T, H, K, hc, h => sem_scope (wps_sound hm b s (by simpa only [compC] using hc) h)
  | .region id ops draw, s, T, H, K, hc, h => by
    simp only [compC] at hc
    split at hc
    · rename_i l hl
      split at hc
      · rename_i hd
        simp only [Option.some.injEq] at hc
        subst hc
        cases draw with
        | false => exact sem_region hl h
        | true => exact sem_region_draw hm hl (by simpa using hd) h
      · rename_i hd
        split at hc
        · rename_i hd2
          simp only [Option.some.injEq] at hc
          subst hc
          cases draw with
          | false => simp at hd
          | true => exact sem_region_M hm hl hd2 h
        · cases hc
    · cases hc
  | .seq a b, s, T, H, K, hc, h => by
    simp only [compC] at hc
    split at hc
    · rename_i x y h1 h2
      simp only [Option.some.injEq] at hc
      subst hc
      refine sem_seq ((wps_sound hm a x h1 (show wps P G N x T H (seqK (wps P G N y) K) from h)).mono fun e T H hk => ?_)
      cases e with
      | norm => exact wps_sound hm b y h2 hk
      | exit i => exact hk
      | ret => exact hk
    · cases hc
  | .cond c t e, s, T, H, K, hc, h => by
    simp only [compC] at hc
    split at hc
    · rename_i z x y h0 h1 h2
      simp only [Option.some.injEq] at hc
      subst hc
      simp only [wps] at h
      split at h
      · rename_i b hb
        refine sem_cond h0 hb ?_
        cases b with
        | true => exact wps_sound hm t x h1 h
        | false => exact wps_sound hm e y h2 h
      · exact h.elim
    · cases hc
  | .block id b, s, T, H, K, hc, h => by
    simp only [compC] at hc
    split at hc
    · rename_i x h1
      simp only [Option.some.injEq] at hc
      subst hc
      refine sem_block ((wps_sound hm b x h1 (show wps P G N x T H (blockK id K) from h)).mono fun e T H hk => ?_)
      cases e with
      | norm => exact hk
      | ret => exact hk
      | exit i =>
        simp only [blockK] at hk
        by_cases hi : i = id
        · subst hi
          rw [Nat.beq_refl] at hk
          simpa using hk
        · have hb : Nat.beq i id = false := by
            cases hb : Nat.beq i id with
            | true => exact absurd (Nat.eq_of_beq_eq_true hb) hi
            | false => rfl
          rw [hb] at hk
          simpa [hi] using hk
    · cases hc
  | .loop b, s, T, H, K, hc, h => by
    have hc' := hc
    simp only [compC] at hc
    split at hc
    · rename_i x h1
      simp only [Option.some.injEq] at hc
      subst hc
      exact h _ hc'
    · cases hc
  | .rangeFunc f ps a b, s, T, H, K, hc, h => by
    have hc' := hc
    simp only [compC] at hc
    split at hc
    · simp only [Option.some.injEq] at hc
      subst hc
      exact h _ hc'
    · cases hc

theorem SemS.of_wps (hm : P.follows .mixedOrders = true) {s : SC} {T : Tm} {H : Hp} {K : Ex → Tm → Hp → Prop} (h : wps P G N s T H K) : SemS P G N s T H K := fun c hc => wps_sound hm c s hc h

theorem SemS.mono {s : SC} {T : Tm} {H : Hp} {K K' : Ex → Tm → Hp → Prop} (h : SemS P G N s T H K) (hk : ∀ e T H, K e T H → K' e T H) : SemS P G N s T H K' := fun c hc => (h c hc).mono hk

theorem compC_loop {b : SC} : ∀ (c : Code), compC P N c = some (.loop b) → (∃ cb, c = .loop cb ∧ compC P N cb = some b) ∨ ∃ c', c = .scope c' ∧ compC P N c' = some (.loop b)
  | .skip, h => by simp [compC] at h
  | .label _, h => by simp [compC] at h
  | .exit _, h => by simp [compC] at h
  | .ret, h => by simp [compC] at h
  | .goto _, h => by simp [compC] at h
  | .refuse _, h => by simp [compC] at h
  | .scope c, h => .inr ⟨c, rfl, by simpa only [compC] using h⟩
  | .region .., h => by
    simp only [compC] at h
    repeat' split at h
    all_goals (first | (cases h; done) | (simp at h; done))
  | .seq .., h => by simp only [compC] at h; split at h <;> simp at h
  | .cond .., h => by simp only [compC] at h; split at h <;> simp at h
  | .block .., h => by simp only [compC] at h; split at h <;> simp at h
  | .rangeFunc .., h => by simp only [compC] at h; split at h <;> simp at h
  | .loop cb, h => by
    simp only [compC] at h
    split at h
    · rename_i x hx
      simp only [Option.some.injEq, SC.loop.injEq] at h
      subst h
      exact .inl ⟨cb, rfl, hx⟩
    · cases h

/-- What a round's end asks of the next head. -/
def roundK {σ : Type} (Tf : σ → Tm) (Hf : σ → Hp) (μ : σ → Nat) (Inv : σ → Prop) (s : σ) (K : Ex → Tm → Hp → Prop) (e : Ex) (T : Tm) (H : Hp) : Prop :=
  match e with
  | .norm => ∃ s', Inv s' ∧ μ s' < μ s ∧ Sub T (Tf s') ∧ H = Hf s'
  | e => K e T H

/-- A loop, over states of one's own: what the variables hold at each round's head, what goes down. -/
theorem SemS.loop (hm : P.follows .mixedOrders = true) {b : SC} {T : Tm} {H : Hp} {K : Ex → Tm → Hp → Prop} {σ : Type} (Tf : σ → Tm) (Hf : σ → Hp) (μ : σ → Nat) (Inv : σ → Prop) (s0 : σ) (h0 : Inv s0) (hT : Sub T (Tf s0)) (hH : H = Hf s0)
    (round : ∀ s, Inv s → wps P G N b (Tf s) (Hf s) (roundK Tf Hf μ Inv s K)) : SemS P G N (.loop b) T H K := by
  have main : ∀ cb, compC P N cb = some b → SemC P G N (.loop cb) T H K := by
    intro cb hcb
    refine sem_loop (fun s T H => Inv s ∧ Sub T (Tf s) ∧ H = Hf s) μ s0 ⟨h0, hT, hH⟩ fun s T H ⟨h1, h2, h3⟩ => ?_
    subst h3
    refine SemI.sub h2 ((wps_sound hm cb b hcb (round s h1)).mono fun e T' H' hk => ?_)
    cases e with
    | norm => obtain ⟨s', q1, q2, q3, q4⟩ := hk; exact ⟨s', ⟨q1, q3, q4⟩, q2⟩
    | exit i => exact hk
    | ret => exact hk
  intro c
  induction c with
  | scope c ih =>
    intro hc
    exact sem_scope (ih (by simpa only [compC] using hc))
  | loop cb _ =>
    intro hc
    rcases compC_loop _ hc with ⟨cb', e, h⟩ | ⟨c', e, _⟩
    · cases e; exact main cb h
    · cases e
  | _ =>
    intro hc
    rcases compC_loop _ hc with ⟨cb', e, h⟩ | ⟨c', e, _⟩ <;> cases e
end
end Go.Ab
