/- What a piece of code does, said abstractly; each construct's rule. No condition. -/
import Derived.Test.YteipepbijfdciaaAb3n
set_option linter.unusedSimpArgs false
set_option linter.unusedVariables false
namespace Go.Ab
open Go

inductive Ex where
  | norm
  | exit (id : Nat)
  | ret
  deriving DecidableEq, Inhabited

def TRel (φ : Pl) (H : Hp) (F : Cl) (w : World) (T : Tm) (tmps : Array Value) : Prop := ∀ t, AR φ H F w (T.get t) (tmps.getD t undef)

/-- The marks of loops over functions among the deferred calls. -/
def DOk (w : World) (base : Nat) (ds : List Deferred) : Prop :=
  ∃ rs : List Nat, ds = rs.map (fun r => { target := .collected r, args := #[] }) ∧ rs.Nodup ∧ ∀ r ∈ rs, base ≤ r ∧ w.heap[r]? = some (.deferred (some []))

def RoundOk (w : World) (ro : Option Nat) : Prop := ∀ l, ro = some l → ∃ r, w.heap[l]? = some (.loop r)

def Goes (P : Program) (fr : Frame) (x : Item) (k : List Item) (cs : List Frame) (w : World) (e : Ex) (fr' : Frame) (w' : World) : Prop :=
  match e with
  | .norm => Steps P (lone { fr with todo := x :: k } cs w) (lone { fr' with todo := k } cs w')
  | .exit id => ∃ k', exitTo id k' = exitTo id k ∧ Steps P (lone { fr with todo := x :: k } cs w) (lone { fr' with todo := .code (.exit id) :: k' } cs w')
  | .ret => ∃ k', Steps P (lone { fr with todo := x :: k } cs w) (lone { fr' with todo := .code .ret :: k' } cs w')

/-- What is held before a piece of code. -/
structure Pre (G : Gl) (N base : Nat) (φ : Pl) (H : Hp) (F : Cl) (w : World) (T : Tm) (fr : Frame) : Prop where
  run : fr.mode = .run
  size : fr.tmps.size = N
  defers : DOk w base fr.defers
  round : RoundOk w fr.roundOf
  base : base ≤ w.heap.size
  srel : SRel G φ H F w
  trel : TRel φ H F w T fr.tmps

def SemI (P : Program) (G : Gl) (N : Nat) (x : Item) (T : Tm) (H : Hp) (K : Ex → Tm → Hp → Prop) : Prop :=
  ∀ φ F w (fr : Frame) (k : List Item) (cs : List Frame) base, Pre G N base φ H F w T fr →
    ∃ e T' H' φ' F' w' tmps' ds', K e T' H' ∧ Evo φ H F w φ' H' F' w' ∧ Pre G N base φ' H' F' w' T' { fr with tmps := tmps', defers := ds' } ∧
      Goes P fr x k cs w e { fr with tmps := tmps', defers := ds' } w'

abbrev SemC (P : Program) (G : Gl) (N : Nat) (c : Code) (T : Tm) (H : Hp) (K : Ex → Tm → Hp → Prop) : Prop := SemI P G N (.code c) T H K

section
variable {P : Program} {G : Gl} {N : Nat} {φ φ' : Pl} {H H' : Hp} {F F' : Cl} {w w' : World} {T T' : Tm}

theorem owned_cells (hS : SRel G φ H F w) {id : Id} {r : Nat} (h : φ id = some r) : ∃ c e, w.heap[r]? = some (.cells c e (0, 0)) := by
  obtain ⟨b, hb⟩ := Option.isSome_iff_exists.1 (hS.has id r h)
  have hB := hS.blk id b hb
  cases b with
  | row cs => obtain ⟨r', c, h1, ⟨e, h2⟩, _⟩ := hB; rw [h] at h1; cases h1; exact ⟨c, e, h2⟩
  | mrow cs => obtain ⟨r', c, h1, ⟨e, h2⟩, _⟩ := hB; rw [h] at h1; cases h1; exact ⟨c, e, h2⟩
  | arr sz fz es =>
    obtain ⟨_, _, h2⟩ := hB
    rcases h2 with ⟨h3, _⟩ | ⟨r', c, h1, ⟨e, h2⟩, _⟩
    · rw [h] at h3; cases h3
    · rw [h] at h1; cases h1; exact ⟨c, e, h2⟩
  | hole => rw [show φ id = none from hB] at h; cases h

theorem Evo.other (hS : SRel G φ H F w) (E : Evo φ H F w φ' H' F' w') {r : Nat} {o : Obj} (h : w.heap[r]? = some o) (ho : ∀ c e f, o ≠ .cells c e f) : w'.heap[r]? = some o := by
  have hlt : r < w.heap.size := (Array.getElem?_eq_some_iff.1 h).1
  rw [E.keep r hlt, h]
  intro id e
  obtain ⟨c, e', h'⟩ := owned_cells hS e
  rw [h] at h'
  cases h'
  exact ho _ _ _ rfl

theorem DOk.evo (hS : SRel G φ H F w) (E : Evo φ H F w φ' H' F' w') {base : Nat} {ds : List Deferred} (h : DOk w base ds) : DOk w' base ds := by
  obtain ⟨rs, h1, h2, h3⟩ := h
  exact ⟨rs, h1, h2, fun r hr => ⟨(h3 r hr).1, E.other hS (h3 r hr).2 (by simp)⟩⟩

theorem RoundOk.evo (hS : SRel G φ H F w) (E : Evo φ H F w φ' H' F' w') {ro : Option Nat} (h : RoundOk w ro) : RoundOk w' ro := fun l hl => by
  obtain ⟨r, hr⟩ := h l hl
  exact ⟨r, E.other hS hr (by simp)⟩

theorem TRel.evo (E : Evo φ H F w φ' H' F' w') {tmps : Array Value} (h : TRel φ H F w T tmps) : TRel φ' H' F' w' T tmps := fun t => (h t).evo E

theorem TRel.put {tmps : Array Value} {d : Nat} {v : AV} {x : Value} (h : TRel φ H F w T tmps) (hd : d < tmps.size) (hv : AR φ H F w v x) : TRel φ H F w (T.put (some d) v) (tmps.setIfInBounds d x) := by
  intro t
  simp only [Tm.put, Tm.get]
  by_cases e : d = t
  · subst e
    rw [Nat.beq_refl]
    simpa [Array.getD_eq_getD_getElem?, hd] using hv
  · have : Nat.beq d t = false := by
      cases hb : Nat.beq d t with
      | true => exact absurd (Nat.eq_of_beq_eq_true hb) e
      | false => rfl
    rw [this]
    simpa [Array.getD_eq_getD_getElem?, Array.getElem?_setIfInBounds_ne e] using h t

/-- Less is known. -/
def Sub (T T' : Tm) : Prop := ∀ t, T'.get t = .un ∨ T'.get t = T.get t

theorem TRel.sub {tmps : Array Value} (h : TRel φ H F w T tmps) (hs : Sub T T') : TRel φ H F w T' tmps := fun t => by
  rcases hs t with e | e
  · rw [e]; exact .one (.un _)
  · rw [e]; exact h t

theorem Pre.sub {base : Nat} {fr : Frame} (h : Pre G N base φ H F w T fr) (hs : Sub T T') : Pre G N base φ H F w T' fr := { h with trel := h.trel.sub hs }

theorem SemI.mono {x : Item} {K K' : Ex → Tm → Hp → Prop} (h : SemI P G N x T H K) (hk : ∀ e T H, K e T H → K' e T H) : SemI P G N x T H K' := by
  intro φ F w fr k cs base hp
  obtain ⟨e, T', H', φ', F', w', tmps', ds', h1, h2⟩ := h φ F w fr k cs base hp
  exact ⟨e, T', H', φ', F', w', tmps', ds', hk _ _ _ h1, h2⟩

theorem SemI.sub {x : Item} {K : Ex → Tm → Hp → Prop} (hs : Sub T T') (h : SemI P G N x T' H K) : SemI P G N x T H K :=
  fun φ F w fr k cs base hp => h φ F w fr k cs base (hp.sub hs)

/-- One step that only turns what is to be done. -/
theorem SemI.stay {x : Item} {K : Ex → Tm → Hp → Prop} (hk : K .norm T H) (hs : ∀ (fr : Frame) (k : List Item) (cs : List Frame) (w : World), fr.mode = .run → step P (lone { fr with todo := x :: k } cs w) = .next (lone { fr with todo := k } cs w)) : SemI P G N x T H K :=
  fun φ F w fr k cs base hp => ⟨.norm, T, H, φ, F, w, fr.tmps, fr.defers, hk, Evo.refl φ H F w, hp, .one (hs fr k cs w hp.run)⟩

theorem sem_skip {K : Ex → Tm → Hp → Prop} (hk : K .norm T H) : SemC P G N .skip T H K :=
  .stay hk fun fr k cs w hm => step_lone_go (by simp [stepG, stepG.exec, hm])
theorem sem_label {l : Nat} {K : Ex → Tm → Hp → Prop} (hk : K .norm T H) : SemC P G N (.label l) T H K :=
  .stay hk fun fr k cs w hm => step_lone_go (by simp [stepG, stepG.exec, hm])
theorem sem_exit {id : Nat} {K : Ex → Tm → Hp → Prop} (hk : K (.exit id) T H) : SemC P G N (.exit id) T H K :=
  fun φ F w fr k cs base hp => ⟨.exit id, T, H, φ, F, w, fr.tmps, fr.defers, hk, Evo.refl φ H F w, hp, k, rfl, .refl _ _⟩
theorem sem_ret {K : Ex → Tm → Hp → Prop} (hk : K .ret T H) : SemC P G N .ret T H K :=
  fun φ F w fr k cs base hp => ⟨.ret, T, H, φ, F, w, fr.tmps, fr.defers, hk, Evo.refl φ H F w, hp, k, .refl _ _⟩

/-- Behind one step, a piece of the work and what follows. -/
theorem Goes.head {fr fr' : Frame} {x y : Item} {k k0 : List Item} {cs : List Frame} {e : Ex} (hk : ∀ id, exitTo id k0 = exitTo id k) (hne : e = .norm → k0 = k)
    (hs : step P (lone { fr with todo := x :: k } cs w) = .next (lone { fr with todo := y :: k0 } cs w)) (h : Goes P fr y k0 cs w e fr' w') : Goes P fr x k cs w e fr' w' := by
  cases e with
  | norm => have := hne rfl; subst this; exact Steps.head hs h
  | exit id => obtain ⟨k', h1, h2⟩ := h; exact ⟨k', h1.trans (hk id), Steps.head hs h2⟩
  | ret => obtain ⟨k', h2⟩ := h; exact ⟨k', Steps.head hs h2⟩

theorem sem_scope {b : Code} {K : Ex → Tm → Hp → Prop} (h : SemC P G N b T H K) : SemC P G N (.scope b) T H K := by
  intro φ F w fr k cs base hp
  obtain ⟨e, T', H', φ', F', w', tmps', ds', h1, h2, h3, h4⟩ := h φ F w fr (.inScope b :: k) cs base hp
  have hs : step P (lone { fr with todo := .code (.scope b) :: k } cs w) = .next (lone { fr with todo := .code b :: .inScope b :: k } cs w) := step_lone_go (by simp [stepG, stepG.exec, hp.run])
  refine ⟨e, T', H', φ', F', w', tmps', ds', h1, h2, h3, ?_⟩
  cases e with
  | norm => exact Steps.head hs (Steps.trans h4 (.one (step_lone_go (by simp [stepG, stepG.exec, hp.run]))))
  | exit id => obtain ⟨k', h5, h6⟩ := h4; exact ⟨k', by rw [h5]; rfl, Steps.head hs h6⟩
  | ret => obtain ⟨k', h6⟩ := h4; exact ⟨k', Steps.head hs h6⟩

theorem sem_seq {a b : Code} {K : Ex → Tm → Hp → Prop} (h : SemC P G N a T H fun e T H => match e with | .norm => SemC P G N b T H K | e => K e T H) : SemC P G N (.seq a b) T H K := by
  intro φ F w fr k cs base hp
  obtain ⟨e, T', H', φ', F', w', tmps', ds', h1, h2, h3, h4⟩ := h φ F w fr (.code b :: k) cs base hp
  have hs : step P (lone { fr with todo := .code (.seq a b) :: k } cs w) = .next (lone { fr with todo := .code a :: .code b :: k } cs w) := step_lone_go (by simp [stepG, stepG.exec, hp.run])
  cases e with
  | norm =>
    obtain ⟨e, T2, H2, φ2, F2, w2, tmps2, ds2, g1, g2, g3, g4⟩ := h1 φ' F' w' _ k cs base h3
    refine ⟨e, T2, H2, φ2, F2, w2, tmps2, ds2, g1, h2.trans g2, g3, ?_⟩
    cases e with
    | norm => exact Steps.head hs (Steps.trans h4 g4)
    | exit id => obtain ⟨k', h5, h6⟩ := g4; exact ⟨k', h5, Steps.head hs (Steps.trans h4 h6)⟩
    | ret => obtain ⟨k', h6⟩ := g4; exact ⟨k', Steps.head hs (Steps.trans h4 h6)⟩
  | exit id => obtain ⟨k', h5, h6⟩ := h4; exact ⟨.exit id, T', H', φ', F', w', tmps', ds', h1, h2, h3, k', by rw [h5]; rfl, Steps.head hs h6⟩
  | ret => obtain ⟨k', h6⟩ := h4; exact ⟨.ret, T', H', φ', F', w', tmps', ds', h1, h2, h3, k', Steps.head hs h6⟩

theorem eval_tmp {fr : Frame} (x : Operand) (todo : List Item) : ({ fr with todo := todo } : Frame).eval x = fr.eval x := by cases x <;> rfl

/-- An operand's value. -/
theorem eval_rel {fr : Frame} (hS : SRel G φ H F w) (hT : TRel φ H F w T fr.tmps) : ∀ (a : Operand) (s : SA), compA a = some s → AR φ H F w (evS G T s) (fr.eval a) := by
  intro a s h
  cases a with
  | tmp t => simp only [compA, Option.some.injEq] at h; subst h; exact hT t
  | const v =>
    simp only [compA] at h
    split at h
    · rename_i a ha
      simp only [Option.some.injEq] at h
      subst h
      exact constA_rel ha
    · cases h
  | global g =>
    simp only [compA, Option.some.injEq] at h
    subst h
    simp only [evS]
    cases hg : G g with
    | none => exact .one (.un _)
    | some cs => exact .ofCR ⟨g, 0, rfl, hS.glob g cs hg⟩ rfl
  | func f =>
    simp only [compA, Option.some.injEq] at h
    subst h
    exact .ofCR ⟨[], rfl, .nil⟩ rfl

theorem sem_cond {c : Operand} {s : SA} {t e : Code} {b : Bool} {K : Ex → Tm → Hp → Prop} (hc : compA c = some s) (hv : evS G T s = .c (.p (.bool b))) (h : SemC P G N (if b then t else e) T H K) : SemC P G N (.cond c t e) T H K := by
  intro φ F w fr k cs base hp
  obtain ⟨x, T', H', φ', F', w', tmps', ds', h1, h2, h3, h4⟩ := h φ F w fr k cs base hp
  have hr := eval_rel hp.srel hp.trel c s hc
  rw [hv] at hr
  have hs : step P (lone { fr with todo := .code (.cond c t e) :: k } cs w) = .next (lone { fr with todo := .code (if b then t else e) :: k } cs w) :=
    step_lone_go (by
      have he : ({ fr with todo := .code (.cond c t e) :: k } : Frame).eval c = .bool b := (eval_tmp c _).trans hr.bool
      simp only [stepG, hp.run] at he ⊢
      simp [stepG.exec, he])
  exact ⟨x, T', H', φ', F', w', tmps', ds', h1, h2, h3, h4.head (fun _ => rfl) (fun _ => rfl) hs⟩

theorem sem_block {id : Nat} {b : Code} {K : Ex → Tm → Hp → Prop} (h : SemC P G N b T H fun e T H => match e with | .exit i => if i = id then K .norm T H else K (.exit i) T H | e => K e T H) : SemC P G N (.block id b) T H K := by
  intro φ F w fr k cs base hp
  obtain ⟨e, T', H', φ', F', w', tmps', ds', h1, h2, h3, h4⟩ := h φ F w fr (.inBlock id :: k) cs base hp
  have hs : step P (lone { fr with todo := .code (.block id b) :: k } cs w) = .next (lone { fr with todo := .code b :: .inBlock id :: k } cs w) := step_lone_go (by simp [stepG, stepG.exec, hp.run])
  cases e with
  | norm => exact ⟨.norm, T', H', φ', F', w', tmps', ds', h1, h2, h3, Steps.head hs (Steps.trans h4 (.one (step_lone_go (by simp [stepG, stepG.exec, hp.run]))))⟩
  | exit i =>
    obtain ⟨k', h5, h6⟩ := h4
    by_cases hi : i = id
    · subst hi
      simp only [if_true] at h1
      refine ⟨.norm, T', H', φ', F', w', tmps', ds', h1, h2, h3, Steps.head hs (Steps.trans h6 (.one (step_lone_go ?_)))⟩
      have : exitTo i (.inBlock i :: k) = some k := by simp [exitTo]
      rw [this] at h5
      simp [stepG, stepG.exec, hp.run, h5]
    · simp only [hi, if_false] at h1
      refine ⟨.exit i, T', H', φ', F', w', tmps', ds', h1, h2, h3, k', ?_, Steps.head hs h6⟩
      rw [h5]
      have : (id == i) = false := by simp; exact fun h => hi h.symm
      simp [exitTo, this]
  | ret => obtain ⟨k', h6⟩ := h4; exact ⟨.ret, T', H', φ', F', w', tmps', ds', h1, h2, h3, k', Steps.head hs h6⟩

/-- A loop: what holds at each round's head, and what goes down. -/
theorem sem_loop {σ : Type} {b : Code} {K : Ex → Tm → Hp → Prop} (I : σ → Tm → Hp → Prop) (μ : σ → Nat) (s0 : σ) (h0 : I s0 T H)
    (round : ∀ s T H, I s T H → SemC P G N b T H fun e T' H' => match e with | .norm => ∃ s', I s' T' H' ∧ μ s' < μ s | e => K e T' H') : SemC P G N (.loop b) T H K := by
  intro φ F w fr k cs base hp
  have key : ∀ n s T H φ F w (fr : Frame), μ s = n → I s T H → Pre G N base φ H F w T fr →
      ∃ e T' H' φ' F' w' tmps' ds', K e T' H' ∧ Evo φ H F w φ' H' F' w' ∧ Pre G N base φ' H' F' w' T' { fr with tmps := tmps', defers := ds' } ∧
        (match e with
          | .norm => Steps P (lone { fr with todo := .code b :: .inLoop b :: k } cs w) (lone { fr with tmps := tmps', defers := ds', todo := k } cs w')
          | .exit id => ∃ k', exitTo id k' = exitTo id k ∧ Steps P (lone { fr with todo := .code b :: .inLoop b :: k } cs w) (lone { fr with tmps := tmps', defers := ds', todo := .code (.exit id) :: k' } cs w')
          | .ret => ∃ k', Steps P (lone { fr with todo := .code b :: .inLoop b :: k } cs w) (lone { fr with tmps := tmps', defers := ds', todo := .code .ret :: k' } cs w')) := by
    intro n
    induction n using Nat.strongRecOn with
    | _ n ih =>
      intro s T H φ F w fr hn hI hp
      obtain ⟨e, T', H', φ', F', w', tmps', ds', h1, h2, h3, h4⟩ := round s T H hI φ F w fr (.inLoop b :: k) cs base hp
      cases e with
      | norm =>
        obtain ⟨s', hI', hlt⟩ := h1
        obtain ⟨e, T2, H2, φ2, F2, w2, tmps2, ds2, g1, g2, g3, g4⟩ := ih _ (hn ▸ hlt) s' T' H' φ' F' w' _ rfl hI' h3
        have hs : step P (lone { fr with tmps := tmps', defers := ds', todo := .inLoop b :: k } cs w') = .next (lone { fr with tmps := tmps', defers := ds', todo := .code b :: .inLoop b :: k } cs w') := step_lone_go (by simp [stepG, stepG.exec, hp.run])
        refine ⟨e, T2, H2, φ2, F2, w2, tmps2, ds2, g1, h2.trans g2, g3, ?_⟩
        cases e with
        | norm => exact Steps.trans h4 (Steps.head hs g4)
        | exit id => obtain ⟨k', h5, h6⟩ := g4; exact ⟨k', h5, Steps.trans h4 (Steps.head hs h6)⟩
        | ret => obtain ⟨k', h6⟩ := g4; exact ⟨k', Steps.trans h4 (Steps.head hs h6)⟩
      | exit id => obtain ⟨k', h5, h6⟩ := h4; exact ⟨.exit id, T', H', φ', F', w', tmps', ds', h1, h2, h3, k', by rw [h5]; rfl, h6⟩
      | ret => obtain ⟨k', h6⟩ := h4; exact ⟨.ret, T', H', φ', F', w', tmps', ds', h1, h2, h3, k', h6⟩
  obtain ⟨e, T', H', φ', F', w', tmps', ds', h1, h2, h3, h4⟩ := key _ s0 T H φ F w fr rfl h0 hp
  have hs : step P (lone { fr with todo := .code (.loop b) :: k } cs w) = .next (lone { fr with todo := .code b :: .inLoop b :: k } cs w) := step_lone_go (by simp [stepG, stepG.exec, hp.run])
  refine ⟨e, T', H', φ', F', w', tmps', ds', h1, h2, h3, ?_⟩
  cases e with
  | norm => exact Steps.head hs h4
  | exit id => obtain ⟨k', h5, h6⟩ := h4; exact ⟨k', h5, Steps.head hs h6⟩
  | ret => obtain ⟨k', h6⟩ := h4; exact ⟨k', Steps.head hs h6⟩
end
end Go.Ab
