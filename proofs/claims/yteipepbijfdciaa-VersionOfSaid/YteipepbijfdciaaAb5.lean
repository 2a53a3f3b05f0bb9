/- Operations with calls, regions in the text's order, regions whose order is open. No condition. -/
import Derived.Test.YteipepbijfdciaaAb4
set_option linter.unusedSimpArgs false
set_option linter.unusedVariables false
namespace Go.Ab
open Go

def callable (P : Program) (g : FuncId) : Bool := match P.funcs[g]? with
  | some fn => fn.body.isSome && !(fn.name == "runtime.NumGoroutine")
  | none => false

/-- A call of a Go function: from memory that the abstract heap describes, it returns, and what it gives and leaves is so. -/
def EvG (P : Program) (G : Gl) (g : FuncId) (args : List AV) (H : Hp) (Q : AV → Hp → Prop) : Prop :=
  callable P g = true ∧ ∀ φ F w (xs : List Value), SRel G φ H F w → F2 (AR φ H F w) args xs → Calls P g xs.toArray w fun e w' => ∃ r H' φ' F' x, Q r H' ∧ e = .returned x ∧ Evo φ H F w φ' H' F' w' ∧ SRel G φ' H' F' w' ∧ AR φ' H' F' w' r x

def pureV1 : AV → Bool
  | .c (.p _) => true
  | .agg _ => true
  | _ => false

def pureV : AV → Bool
  | .tup vs => vs.all pureV1
  | v => pureV1 v

/-- A function of values alone. -/
def EvP (P : Program) (G : Gl) (g : FuncId) (args : List AV) (v : AV) : Prop :=
  args.all pureV1 = true ∧ pureV v = true ∧ EvG P G g args ⟨[], []⟩ fun r _ => r = v

def EvR (P : Program) (G : Gl) (g : FuncId) (args : List AV) (H : Hp) (v : AV) (H' : Hp) : Prop := EvG P G g args H fun r h => r = v ∧ h = H'

def gd (b : Bool) (p : Prop) : Prop := match b with | true => p | false => False
def brP (b : Bool) (p q : Prop) : Prop := match b with | true => p | false => q

theorem gd_of {b : Bool} {p : Prop} (h : gd b p) : b = true ∧ p := by
  cases b
  · exact h.elim
  · exact ⟨rfl, h⟩
theorem gd_mk {b : Bool} {p : Prop} (h : b = true) (hp : p) : gd b p := by subst h; exact hp
theorem brP_mk {b : Bool} {p q : Prop} (h1 : b = true → p) (h2 : b = false → q) : brP b p q := by
  cases b
  · exact h2 rfl
  · exact h1 rfl

section
variable (P : Program) (G : Gl)

/-- Arguments are handed over frozen, or as they are. -/
def frzM (m : Bool) (H : Hp) (args : List AV) : Option (Bool × List AV × Hp) :=
  match m with
  | true => freezeAs H args
  | false => some (true, args, H)

def callK (keep pure : Bool) (g : FuncId) (caps : List Id) (args : List AV) (H : Hp) (k : AV → Hp → Prop) : Prop :=
  match keep with
  | true => pure = true ∧ caps = [] ∧ ∃ args', freezeAs H args = some (true, args', H) ∧ ∃ v, EvP P G g args' v ∧ k v H
  | false => ∃ m args' H' v H'', frzM m H args = some (true, args', H') ∧ EvR P G g (args' ++ caps.map fun i => .c (.ptr i 0)) H' v H'' ∧ k v H''

def wpCall (keep pure : Bool) (f : AV) (args : List AV) (H : Hp) (k : AV → Hp → Prop) : Prop :=
  match f with
  | .c (.fn g caps) => callK P G keep pure g caps args H k
  | _ => False

/-- Whether a slice is the nil one: an empty one can be either. -/
def nilO (d pos : Bool) (a : AV) (H : Hp) (k : AV → Hp → Prop) : Prop :=
  match d with
  | true => False
  | false => match a with
    | .c .nils => k (.c (.p (.bool pos))) H
    | .c (.p (.sl [])) | .c (.ti []) => k (.c (.p (.bool true))) H ∧ k (.c (.p (.bool false))) H
    | .c (.p (.sl (_ :: _))) | .c (.ti (_ :: _)) => k (.c (.p (.bool (!pos)))) H
    | _ => False

def stepO (d : Bool) (o : SOp) (T : Tm) (H : Hp) (k : AV → Hp → Prop) : Prop :=
  match o with
  | .call pure f args => wpCall P G d pure (evS G T f) (args.map (evS G T)) H k
  | .isnil pos a => nilO d pos (evS G T a) H k
  | o => match opS G o T H with
    | some ⟨b, v, H'⟩ => gd b (k v H')
    | none => False

def wpO (d : Bool) (o : SO) (T : Tm) (H : Hp) (k : Tm → Hp → Prop) : Prop :=
  match o.guard with
  | none => stepO P G d o.op T H fun v H => k (T.put o.dst v) H
  | some (t, want) => match T.get t with
    | .c (.p (.bool b)) => match want with
      | true => brP b (stepO P G d o.op T H fun v H => k (T.put o.dst v) H) (k (T.put o.dst (.tup [])) H)
      | false => brP b (k (T.put o.dst (.tup [])) H) (stepO P G d o.op T H fun v H => k (T.put o.dst v) H)
    | .tup [] => k (T.put o.dst (.tup [])) H
    | _ => False

def wpL (d : Bool) : List SO → Tm → Hp → (Tm → Hp → Prop) → Prop
  | [], T, H, k => k T H
  | o :: r, T, H, k => wpO P G d o T H fun T H => wpL d r T H k
end

section
variable {P : Program} {G : Gl} {N : Nat} {φ φ' : Pl} {H H' : Hp} {F F' : Cl} {w w' : World} {T T' : Tm}

theorem pureV1_rel {a : AV} (h : pureV1 a = true) {x : Value} (hr : AR φ H F w a x) (φ' : Pl) (H' : Hp) : AR φ' H' F w a x := by
  cases a with
  | c c =>
    cases c <;> simp [pureV1] at h
    exact .ofRp hr.cc.1
  | agg cs => obtain ⟨xs, rfl, hx⟩ := hr.aggr; exact .one (.agg hx)
  | _ => simp [pureV1] at h

theorem AR1.of_AR {a : AV} (h : pureV1 a = true) {x : Value} (hr : AR φ H F w a x) : AR1 φ H F w a x := by
  cases hr with
  | one h => exact h
  | tup _ => simp [pureV1] at h

theorem pureV_rel {a : AV} (h : pureV a = true) {x : Value} (hr : AR φ H F w a x) (φ' : Pl) (H' : Hp) : AR φ' H' F w a x := by
  cases a with
  | tup vs =>
    obtain ⟨xs, rfl, hx⟩ := hr.tupr
    simp only [pureV, List.all_eq_true] at h
    refine .tup ?_
    clear hr
    induction hx with
    | nil => exact .nil
    | cons h1 _ ih => exact .cons (AR1.of_AR (h _ (by simp)) (pureV1_rel (h _ (by simp)) (.one h1) φ' H')) (ih fun v hv => h v (by simp [hv]))
  | _ => exact pureV1_rel (by exact h) hr φ' H'

/-- A function of values, called from anywhere. -/
theorem EvP.at {g : FuncId} {args : List AV} {v : AV} (h : EvP P G g args v) (H : Hp) : EvG P G g args H fun r h => r = v ∧ h = H := by
  obtain ⟨h1, h2, h0, h3⟩ := h
  refine ⟨h0, fun φ F w xs hS hx => ?_⟩
  have hS0 : SRel G (fun _ => none) ⟨[], []⟩ F w := ⟨(fun _ _ _ h => by cases h), (fun _ _ h => by cases h), (fun _ _ h => by cases h), (fun id b h => by cases id <;> simp [Hp.get] at h), hS.glob, hS.fin⟩
  have hx0 : F2 (AR (fun _ => none) ⟨[], []⟩ F w) args xs := by
    simp only [List.all_eq_true] at h1
    clear h3
    induction hx with
    | nil => exact .nil
    | cons h _ ih => exact .cons (pureV1_rel (h1 _ (by simp)) h _ _) (ih fun v hv => h1 v (by simp [hv]))
  refine (h3 _ F w xs hS0 hx0).mono fun e w' ⟨r, H', φ', F', x, hr, he, E, S, A⟩ => ?_
  subst hr
  have E' : Evo φ H F w φ H F' w' :=
    { os := E.os, tape := E.tape, output := E.output, size := E.size
      keep := fun r hr _ => E.keep r hr fun _ h => by cases h
      kp := E.kp
      newF := fun b o f => by
        rcases E.newF b o f with f | ⟨_, f⟩ | f
        · exact .inl f
        · cases f
        · exact .inr (.inr f)
      new := fun _ _ h => .inl h
      be := fun id b h => ⟨b, h, BE.refl φ id b⟩
      shp := E.shp
      npar := rfl }
  refine ⟨r, H, φ, F', x, ⟨rfl, rfl⟩, he, E', ⟨hS.inj, fun i r h => Nat.lt_of_lt_of_le (hS.dom i r h) E.size, hS.has, fun id b h => ?_, fun g cs h => (hS.glob g cs h).keeps E.kp, S.fin⟩, pureV_rel h2 A φ H⟩
  refine BR.evo E' rfl (fun r hr => E.keep r (hS.dom id r hr) fun _ h => by cases h) (fun r o hr => ⟨fun f => ?_, E.kp.mono r o⟩) (hS.blk id b h)
  rcases E.newF r o f with f | ⟨_, f⟩ | f
  · exact f
  · cases f
  · have := hS.dom id r hr; omega

theorem EvG.mono {g : FuncId} {args : List AV} {Q Q' : AV → Hp → Prop} (h : EvG P G g args H Q) (hq : ∀ r h, Q r h → Q' r h) : EvG P G g args H Q' :=
  ⟨h.1, fun φ F w xs hS hx => (h.2 φ F w xs hS hx).mono fun _ _ ⟨r, H', φ', F', x, h1, h2⟩ => ⟨r, H', φ', F', x, hq _ _ h1, h2⟩⟩

/-! ### One operation -/

/-- What an operation comes to: the next state of the frame. -/
def OpGoes (P : Program) (G : Gl) (φ : Pl) (H : Hp) (F : Cl) (w : World) (fr : Frame) (ops : Array Oper) (i : Nat) (rest : List Nat) (k0 : List Item) (cs : List Frame) (k : AV → Hp → Prop) : Prop :=
  ∃ v H' φ' F' w' x, k v H' ∧ Evo φ H F w φ' H' F' w' ∧ SRel G φ' H' F' w' ∧ AR φ' H' F' w' v x ∧
    Steps P (lone { fr with todo := .inRegion ops (i :: rest) :: k0 } cs w) (lone (({ fr with todo := .inRegion ops (i :: rest) :: k0 } : Frame).finish x) cs w')

theorem step_op {fr : Frame} {ops : Array Oper} {i : Nat} {rest : List Nat} {k0 : List Item} {cs : List Frame} {o : Oper} (hm : fr.mode = .run) (ho : ops[i]? = some o) (hw : Region.wanted o (yielded ops fr.tmps) = true) (hd : ∀ c, o.op ≠ .defer c) :
    stepG P true { frame := { fr with todo := .inRegion ops (i :: rest) :: k0 }, callers := cs, status := .running, dying := none } w =
      stepG.apply P true { fr with todo := .inRegion ops (i :: rest) :: k0 } cs none (execOp fr.eval o) w := by
  obtain ⟨fn, tmps, todo, defers, mode, kind, ro⟩ := fr
  obtain ⟨dst, op, type, pos, after, guard⟩ := o
  simp only at hm hw
  subst hm
  have he : ∀ td : List Item, Frame.eval { fn, tmps, todo := td, defers, mode := .run, kind, roundOf := ro } = Frame.eval { fn, tmps, todo, defers, mode := .run, kind, roundOf := ro } := fun td => funext fun x => by cases x <;> rfl
  simp only [stepG, stepG.exec, ho, Option.map_some, Option.getD_some, hw, if_true, stepG.oper, Frame.oper?, he]
  cases ro <;> cases op <;> first | rfl | exact absurd rfl (hd _)

theorem isnil_op {o : Oper} {pos : Bool} {a : SA} (hc : compOp P o.op = some (.isnil pos a)) : ∃ op t x y yt e, o.op = .binOp op t x y yt ∧ compA x = some a ∧ compA y = some (.v (.c .nils)) ∧ P.underlying t = some (.slice e) ∧ ((op = .eql ∧ pos = true) ∨ (op = .neq ∧ pos = false)) := by
  obtain ⟨dst, op, type, pos', after, guard⟩ := o
  simp only at hc ⊢
  cases op <;> simp only [compOp, reduceCtorEq] at hc
  case build t ps =>
    unfold compBuild at hc
    split at hc <;> (try cases hc) <;> (split at hc <;> (try cases hc)) <;> (split at hc <;> (try cases hc))
  case binOp op t x y yt =>
    split at hc
    · rename_i sx sy hx hy
      have key : (op = .eql ∨ op = .neq) → (match P.underlying t with
          | some (.slice _) => compNil (op == .eql) sx sy
          | _ => none) = some (.isnil pos a) → ∃ op' t' x' y' yt' e, Op.binOp op t x y yt = .binOp op' t' x' y' yt' ∧ compA x' = some a ∧ compA y' = some (.v (.c .nils)) ∧ P.underlying t' = some (.slice e) ∧ ((op' = .eql ∧ pos = true) ∨ (op' = .neq ∧ pos = false)) := by
        intro ho h
        split at h
        · rename_i e hu
          unfold compNil at h
          split at h
          · simp only [Option.some.injEq, SOp.isnil.injEq] at h
            obtain ⟨rfl, rfl⟩ := h
            refine ⟨op, t, x, y, yt, e, rfl, hx, hy, hu, ?_⟩
            rcases ho with rfl | rfl
            · exact .inl ⟨rfl, rfl⟩
            · exact .inr ⟨rfl, rfl⟩
          · cases h
        · cases h
      have sl : (op = .eql ∨ op = .neq) → compBin P op t sx sy = some (.isnil pos a) → (match P.underlying t with
          | some (.slice _) => compNil (op == .eql) sx sy
          | _ => none) = some (.isnil pos a) := by
        rintro (rfl | rfl) h <;> simp only [compBin] at h <;> (split at h <;> first | (cases h; done) | (rename_i e hu; rw [hu]; exact h) | (split at h <;> cases h))
      cases op <;> first | exact key (.inl rfl) (sl (.inl rfl) hc) | exact key (.inr rfl) (sl (.inr rfl) hc) | (simp [compBin] at hc)
    · cases hc
  case convert s d a =>
    split at hc
    · unfold compConv at hc
      split at hc <;> (try cases hc) <;> (split at hc <;> (try cases hc)) <;> (split at hc <;> (try cases hc)) <;> (split at hc <;> (try cases hc))
    · cases hc
  case call c =>
    obtain ⟨callee, cargs, argTypes⟩ := c
    cases callee <;> simp only [compOp, reduceCtorEq] at hc
    case value g =>
      split at hc <;> cases hc
    case builtin b =>
      unfold compCall at hc
      split at hc <;> (try cases hc) <;> (split at hc <;> (try cases hc)) <;> (split at hc <;> (try cases hc)) <;> (split at hc <;> (try cases hc))
  case makeFunc fn first caps =>
    cases fn <;> simp only [reduceCtorEq] at hc
    split at hc <;> cases hc
  all_goals (first | (split at hc <;> (try cases hc) <;> (split at hc <;> (try cases hc)) <;> (split at hc <;> (try cases hc)) <;> (split at hc <;> (try cases hc))) | cases hc)

theorem nil_val {a : AV} {x : Value} (h : AR φ H F w a x) {pos : Bool} {k : AV → Hp → Prop} (hn : nilO false pos a H k) : ∃ ad n c, x = .slice ad n c ∧ k (.c (.p (.bool (if pos then ad.isNone else !ad.isNone)))) H := by
  have both : k (.c (.p (.bool true))) H ∧ k (.c (.p (.bool false))) H → ∀ b, k (.c (.p (.bool b))) H := fun h b => by cases b; exact h.2; exact h.1
  have some_ : ∀ {es : List (List PV)} {ad : Option Addr}, SlAt F w es ad → es ≠ [] → ad.isNone = false := by
    rintro es ad (h | ⟨b, o, sz, rfl, _⟩) he
    · exact absurd h he
    · rfl
  cases a with
  | c c =>
    have hc := h.cc.1
    cases c with
    | p v =>
      cases v with
      | sl es =>
        obtain ⟨ad, cap, rfl, h1, h2⟩ := Rp.slAt hc
        refine ⟨ad, _, cap, rfl, ?_⟩
        cases es with
        | nil => exact both hn _
        | cons e es => rw [some_ h2 (by simp)]; cases pos <;> exact hn
      | _ => exact hn.elim
    | ti es =>
      obtain ⟨ad, rfl, h2⟩ := hc
      refine ⟨ad, _, _, rfl, ?_⟩
      cases es with
      | nil => exact both hn _
      | cons e es => rw [some_ h2 (by simp)]; cases pos <;> exact hn
    | nils =>
      cases (show x = .slice none 0 0 from hc)
      exact ⟨none, 0, 0, rfl, by cases pos <;> exact hn⟩
    | _ => exact hn.elim
  | _ => exact hn.elim

theorem nil_goes {d : Bool} {o : Oper} {pos : Bool} {a : SA} (hc : compOp P o.op = some (.isnil pos a)) {k : AV → Hp → Prop} (h : nilO d pos (evS G T a) H k) {fr : Frame} {base : Nat} (hp : Pre G N base φ H F w T fr) {ops : Array Oper} {i : Nat} {rest : List Nat} {k0 : List Item} {cs : List Frame}
    (ho : ops[i]? = some o) (hw : Region.wanted o (yielded ops fr.tmps) = true) : OpGoes P G φ H F w fr ops i rest k0 cs k := by
  cases d with
  | true => exact h.elim
  | false =>
    have hd : ∀ c, o.op ≠ .defer c := by
      intro c e
      rw [e] at hc
      simp [compOp] at hc
    have hρ := eval_rel hp.srel hp.trel
    obtain ⟨op, t, x, y, yt, e, h1, h2, h3, h4, h5⟩ := isnil_op hc
    obtain ⟨ad, n, c, hx, hk⟩ := nil_val (hρ x a h2) h
    have hy : fr.eval y = .slice none 0 0 := (hρ y _ h3).cc.1
    refine ⟨_, _, φ, F, w, _, hk, Evo.refl φ H F w, hp.srel, AR.ofBool _, .one (step_lone_go ?_)⟩
    rw [step_op hp.run ho hw hd]
    have hr : (execOp fr.eval o).run P w = .ok (.value (.bool (if pos then ad.isNone else !ad.isNone))) w := by
      obtain ⟨dst, op', type, pos', after, guard⟩ := o
      simp only at h1
      subst h1
      have hg : (eqGuard op t x y (.slice ad n c) (.slice none 0 0)).run P w = .ok () w := by
        rcases h5 with ⟨rfl, rfl⟩ | ⟨rfl, rfl⟩ <;> rfl
      have hb : (binOp op t (.slice ad n c) (.slice none 0 0)).run P w = .ok (.bool (if pos then ad.isNone else !ad.isNone)) w := by
        rcases h5 with ⟨rfl, rfl⟩ | ⟨rfl, rfl⟩
        · exact Lib.run_eql_slice_nil w t e ad n c 0 0 h4
        · exact run_neq_slice_nil_any w t e ad n c 0 0 h4
      simp [execOp, hx, hy, hg, hb]
    simp [stepG.apply, Sem.runT_eq, hr, GStep.bare_after]

theorem stepO_goes {d : Bool} {o : Oper} {so : SOp} (hc : compOp P o.op = some so) {k : AV → Hp → Prop} (h : stepO P G d so T H k) {fr : Frame} {base : Nat} (hp : Pre G N base φ H F w T fr) {ops : Array Oper} {i : Nat} {rest : List Nat} {k0 : List Item} {cs : List Frame}
    (ho : ops[i]? = some o) (hw : Region.wanted o (yielded ops fr.tmps) = true) : OpGoes P G φ H F w fr ops i rest k0 cs k := by
  have hd : ∀ c, o.op ≠ .defer c := by
    intro c e
    rw [e] at hc
    simp [compOp] at hc
  have hρ := eval_rel hp.srel hp.trel
  have plain : ∀ {res : Res}, opS G so T H = some res → gd res.pre (k res.v res.h) → OpGoes P G φ H F w fr ops i rest k0 cs k := by
    intro res h1 h2
    obtain ⟨h3, h4⟩ := gd_of h2
    obtain ⟨nx, xv, w', φ', F', r1, r2, E, S, A⟩ := opS_sound hc h1 h3 hp.srel hρ
    refine ⟨_, _, φ', F', w', xv, h4, E, S, A, .one (step_lone_go ?_)⟩
    rw [step_op hp.run ho hw hd]
    rcases r2 with rfl | ⟨rfl, rfl⟩
    · simp [stepG.apply, Sem.runT_eq, r1, GStep.bare_after]
    · simp [stepG.apply, Sem.runT_eq, r1, GStep.bare_after]
  have other : (match opS G so T H with
    | some ⟨b, v, H'⟩ => gd b (k v H')
    | none => False) → OpGoes P G φ H F w fr ops i rest k0 cs k := by
    intro h
    split at h
    · rename_i b v H' he
      exact plain he h
    · exact h.elim
  cases so <;> try exact other h
  case isnil pos a => exact nil_goes hc h hp ho hw
  rename_i pure f args
  have h : wpCall P G d pure (evS G T f) (args.map (evS G T)) H k := h
  -- the call
  obtain ⟨dst, op, type, pos, after, guard⟩ := o
  obtain ⟨callee, cargs, argTypes, rfl, hf, hargs⟩ : ∃ callee cargs argTypes, op = .call { callee := .value callee, args := cargs, argTypes } ∧ compA callee = some f ∧ compAs cargs.toList = some args := by
    clear h plain other hw ho hd
    cases op <;> simp only [compOp, reduceCtorEq] at hc
    case build t ps =>
      unfold compBuild at hc
      split at hc <;> (try cases hc) <;> (split at hc <;> (try cases hc)) <;> (split at hc <;> (try cases hc))
    case binOp op t a b yt =>
      split at hc
      · rename_i x y hx hy
        cases op <;> simp only [compBin, compNil, reduceCtorEq, Option.some.injEq] at hc <;> (split at hc <;> (try cases hc)) <;> (split at hc <;> (try cases hc))
      · cases hc
    case convert s d a =>
      split at hc
      · unfold compConv at hc
        split at hc <;> (try cases hc) <;> (split at hc <;> (try cases hc)) <;> (split at hc <;> (try cases hc)) <;> (split at hc <;> (try cases hc))
      · cases hc
    case call c =>
      obtain ⟨callee, cargs, argTypes⟩ := c
      cases callee <;> simp only [compOp, reduceCtorEq] at hc
      case value g =>
        split at hc
        · rename_i x l hx hl
          cases hc
          exact ⟨g, cargs, argTypes, rfl, hx, hl⟩
        · cases hc
      case builtin b =>
        unfold compCall at hc
        split at hc <;> (try cases hc) <;> (split at hc <;> (try cases hc)) <;> (split at hc <;> (try cases hc)) <;> (split at hc <;> (try cases hc))
    case makeFunc fn first caps =>
      cases fn <;> simp only [reduceCtorEq] at hc
      split at hc <;> cases hc
    all_goals (first | (split at hc <;> (try cases hc) <;> (split at hc <;> (try cases hc)) <;> (split at hc <;> (try cases hc)) <;> (split at hc <;> (try cases hc))) | cases hc)
  unfold wpCall at h
  split at h
  · rename_i g caps hfv
    have hfr := hρ callee f hf
    rw [hfv] at hfr
    obtain ⟨cv, hcv, hcaps⟩ := hfr.cc.1
    have hax := compAs_rel hρ hargs
    have hres : (execOp fr.eval { dst := dst, op := .call { callee := .value callee, args := cargs, argTypes := argTypes }, type := type, pos := pos, after := after, guard := guard }).run P w = (callFunc g ((cargs.toList.map fr.eval ++ cv).toArray)).run P w := by
      have : cargs.map fr.eval ++ cv.toArray = (cargs.toList.map fr.eval ++ cv).toArray := by
        apply Array.ext'
        simp
      simp [execOp, resolve, hcv, Deferred.ofValue, invoke, this]
    have fin : ∀ {xs : List Value} {Q : AV → Hp → Prop} {as : List AV} {Hc : Hp} {F1 : Cl}, xs = cargs.toList.map fr.eval ++ cv → Evo φ H F w φ Hc F1 w → SRel G φ Hc F1 w → F2 (AR φ Hc F1 w) as xs → EvG P G g as Hc Q → (∀ r h, Q r h → k r h) →
        (callFunc g xs.toArray).run P w = .ok (.enter g xs.toArray) w → OpGoes P G φ H F w fr ops i rest k0 cs k := by
      intro xs Q as Hc F1 hxs Ec Sc Ac hev hq hrun
      obtain ⟨e, w', fr', ⟨r, H', φ', F', x, q, rfl, E, S, A⟩, hcomes, hfn, hleave⟩ := hev.2 φ F1 w xs Sc Ac ({ fr with todo := .inRegion ops (i :: rest) :: k0 } :: cs)
      refine ⟨r, H', φ', F', w', x, hq _ _ q, Ec.trans E, S, A, .head (m₁ := lone (Frame.enter P g xs.toArray .normal) ({ fr with todo := .inRegion ops (i :: rest) :: k0 } :: cs) w) (step_lone_go ?_) (hcomes.trans (.one (step_leave_returned hleave)))⟩
      rw [step_op hp.run ho hw hd]
      subst hxs
      simp [stepG.apply, Sem.runT_eq, hres, hrun, GStep.bare_after]
    have enter : ∀ {as : List AV} {Hc : Hp} {Q : AV → Hp → Prop}, EvG P G g as Hc Q → ∀ xs : List Value, (callFunc g xs.toArray).run P w = .ok (.enter g xs.toArray) w := by
      intro as Hc Q hev xs
      have hcb := hev.1
      unfold callable at hcb
      split at hcb
      · rename_i fn hfn
        simp only [Bool.and_eq_true, Bool.not_eq_true'] at hcb
        have hb : ¬ fn.body = none := by
          intro hbb
          rw [hbb] at hcb
          simp at hcb
        have hn : ¬ fn.name = "runtime.NumGoroutine" := by
          have := hcb.2
          simpa using this
        simp [callFunc, hfn, hn, hb]
      · cases hcb
    unfold callK at h
    split at h
    · obtain ⟨-, rfl, args', hfz, v, hev, hk⟩ := h
      obtain ⟨F1, E1, S1, A1⟩ := freezeAs_run hp.srel hax hfz rfl
      cases hcaps
      exact fin (by simp) E1 S1 A1 (hev.at _) (fun r h ⟨e1, e2⟩ => by rw [e1, e2]; exact hk) (enter (hev.at ⟨[], []⟩) _)
    · obtain ⟨m, args', H1, v, H2, hfz, hev, hk⟩ := h
      obtain ⟨F1, E1, S1, A1⟩ : ∃ F1, Evo φ H F w φ H1 F1 w ∧ SRel G φ H1 F1 w ∧ F2 (AR φ H1 F1 w) args' (cargs.toList.map fr.eval) := by
        cases m with
        | true => exact freezeAs_run hp.srel hax hfz rfl
        | false =>
          simp only [frzM, Option.some.injEq, Prod.mk.injEq, true_and] at hfz
          obtain ⟨rfl, rfl⟩ := hfz
          exact ⟨F, Evo.refl φ H F w, hp.srel, hax⟩
      refine fin rfl E1 S1 (A1.app ?_) hev (fun r h ⟨e1, e2⟩ => by rw [e1, e2]; exact hk) (enter hev _)
      refine F2.mapl.2 ((hcaps.imp fun id v ⟨b, r, q1, q2, q3, q4⟩ => ?_))
      obtain ⟨b', q1', q2', q3'⟩ := E1.row q1 q2
      exact .ofCR ⟨b', r, q1', q2', q3'.trans q3, q4⟩ (by rw [q4]; rfl)
  · exact h.elim

/-! ### A region, operation by operation -/

theorem compOps_get {n : Nat} {all : List Oper} : ∀ {l : List Oper} {ss : List SO}, compOps P n all l = some ss → l.length = ss.length ∧ ∀ {i : Nat} {o : Oper}, l[i]? = some o →
    ∃ s, ss[i]? = some s ∧ s.dst = o.dst ∧ compOp P o.op = some s.op ∧ compG all o.guard = some s.guard ∧ (∀ d, o.dst = some d → d < n)
  | [], ss, h => by simp only [compOps, Option.some.injEq] at h; subst h; exact ⟨rfl, fun h => by simp at h⟩
  | o :: l, ss, h => by
    simp only [compOps] at h
    split at h
    · rename_i s g l' h1 h2 h3 h4
      simp only [Option.some.injEq] at h
      subst h
      obtain ⟨e1, e2⟩ := compOps_get h3
      refine ⟨by simp [e1], fun {i o'} hi => ?_⟩
      cases i with
      | zero =>
        simp only [List.getElem?_cons_zero, Option.some.injEq] at hi
        subst hi
        refine ⟨_, rfl, rfl, h1, h2, fun d hd => ?_⟩
        rw [hd] at h4
        simpa using h4
      | succ i => simpa using e2 (by simpa using hi)
    · cases h

def putT (tmps : Array Value) (d : Option Nat) (x : Value) : Array Value := match d with | some d => tmps.setIfInBounds d x | none => tmps

theorem finish_region {fr : Frame} {ops : Array Oper} {i : Nat} {rest : List Nat} {k0 : List Item} {o : Oper} (ho : ops[i]? = some o) (x : Value) :
    ({ fr with todo := .inRegion ops (i :: rest) :: k0 } : Frame).finish x = { fr with tmps := putT fr.tmps o.dst x, todo := .inRegion ops rest :: k0 } := by
  cases hd : o.dst <;> simp [Frame.finish, ho, hd, putT]

theorem put_size {tmps : Array Value} {d : Option Nat} {x : Value} : (putT tmps d x).size = tmps.size := by cases d <;> simp [putT]

theorem TRel.putO {tmps : Array Value} {d : Option Nat} {v : AV} {x : Value} (h : TRel φ H F w T tmps) (hd : ∀ t, d = some t → t < tmps.size) (hv : AR φ H F w v x) : TRel φ H F w (T.put d v) (putT tmps d x) := by
  cases d with
  | none => exact h
  | some d => exact h.put (hd d rfl) hv

theorem wpL_goes {d : Bool} {ops : Array Oper} {ss : List SO} (hcomp : compOps P N ops.toList ops.toList = some ss) {k : Tm → Hp → Prop} : ∀ (l : List Nat) {T : Tm} {H : Hp} {φ : Pl} {F : Cl} {w : World} {fr : Frame} {base : Nat} (k0 : List Item) (cs : List Frame),
    (∀ i ∈ l, i < ops.size) → wpL P G d (l.filterMap (ss[·]?)) T H k → Pre G N base φ H F w T fr →
    ∃ T' H' φ' F' w' tmps', k T' H' ∧ Evo φ H F w φ' H' F' w' ∧ Pre G N base φ' H' F' w' T' { fr with tmps := tmps' } ∧
      Steps P (lone { fr with todo := .inRegion ops l :: k0 } cs w) (lone { fr with tmps := tmps', todo := k0 } cs w')
  | [], T, H, φ, F, w, fr, base, k0, cs, _, h, hp => ⟨T, H, φ, F, w, fr.tmps, h, Evo.refl φ H F w, hp, .one (step_lone_go (by simp [stepG, stepG.exec, hp.run]))⟩
  | i :: rest, T, H, φ, F, w, fr, base, k0, cs, hl, h, hp => by
    have hi : i < ops.size := hl i (by simp)
    have ho : ops[i]? = some ops[i] := Array.getElem?_eq_getElem hi
    have ho' : ops.toList[i]? = some ops[i] := by simp [hi]
    obtain ⟨s, hs, hdst, hop, hgd, hdn⟩ := (compOps_get hcomp).2 ho'
    rw [List.filterMap_cons, hs] at h
    have h : wpO P G d s T H fun T H => wpL P G d (rest.filterMap (ss[·]?)) T H k := h
    have hdn' : ∀ t, ops[i].dst = some t → t < fr.tmps.size := fun t ht => by rw [hp.size]; exact hdn t ht
    -- how it goes on
    have on : ∀ {v : AV} {H1 : Hp} {φ1 : Pl} {F1 : Cl} {w1 : World} {x : Value}, wpL P G d (rest.filterMap (ss[·]?)) (T.put s.dst v) H1 k → Evo φ H F w φ1 H1 F1 w1 → SRel G φ1 H1 F1 w1 → AR φ1 H1 F1 w1 v x →
        Steps P (lone { fr with todo := .inRegion ops (i :: rest) :: k0 } cs w) (lone (({ fr with todo := .inRegion ops (i :: rest) :: k0 } : Frame).finish x) cs w1) →
        ∃ T' H' φ' F' w' tmps', k T' H' ∧ Evo φ H F w φ' H' F' w' ∧ Pre G N base φ' H' F' w' T' { fr with tmps := tmps' } ∧
          Steps P (lone { fr with todo := .inRegion ops (i :: rest) :: k0 } cs w) (lone { fr with tmps := tmps', todo := k0 } cs w') := by
      intro v H1 φ1 F1 w1 x hk E S A hst
      rw [finish_region ho] at hst
      rw [hdst] at hk
      have hp1 : Pre G N base φ1 H1 F1 w1 (T.put ops[i].dst v) { fr with tmps := putT fr.tmps ops[i].dst x } :=
        { run := hp.run, size := put_size.trans hp.size, defers := hp.defers.evo hp.srel E, round := hp.round.evo hp.srel E, base := Nat.le_trans hp.base E.size, srel := S, trel := (hp.trel.evo E).putO hdn' A }
      obtain ⟨T', H', φ', F', w', tmps', g1, g2, g3, g4⟩ := wpL_goes hcomp rest k0 cs (fun j hj => hl j (by simp [hj])) hk hp1
      exact ⟨T', H', φ', F', w', tmps', g1, E.trans g2, g3, hst.trans g4⟩
    have run : Region.wanted ops[i] (yielded ops fr.tmps) = true → stepO P G d s.op T H (fun v H => wpL P G d (rest.filterMap (ss[·]?)) (T.put s.dst v) H k) →
        ∃ T' H' φ' F' w' tmps', k T' H' ∧ Evo φ H F w φ' H' F' w' ∧ Pre G N base φ' H' F' w' T' { fr with tmps := tmps' } ∧
          Steps P (lone { fr with todo := .inRegion ops (i :: rest) :: k0 } cs w) (lone { fr with tmps := tmps', todo := k0 } cs w') := by
      intro hw hst
      obtain ⟨v, H1, φ1, F1, w1, x, g1, g2, g3, g4, g5⟩ := stepO_goes hop hst hp (k0 := k0) (cs := cs) (rest := rest) ho hw
      exact on g1 g2 g3 g4 g5
    have skip : Region.wanted ops[i] (yielded ops fr.tmps) = false → wpL P G d (rest.filterMap (ss[·]?)) (T.put s.dst (.tup [])) H k →
        ∃ T' H' φ' F' w' tmps', k T' H' ∧ Evo φ H F w φ' H' F' w' ∧ Pre G N base φ' H' F' w' T' { fr with tmps := tmps' } ∧
          Steps P (lone { fr with todo := .inRegion ops (i :: rest) :: k0 } cs w) (lone { fr with tmps := tmps', todo := k0 } cs w') := by
      intro hw hk
      refine on hk (Evo.refl φ H F w) hp.srel (x := undef) (.tup .nil) (.one (step_lone_go ?_))
      obtain ⟨fn, tmps, todo, defers, mode, kind, ro⟩ := fr
      have hm := hp.run
      simp only at hm
      subst hm
      have hw' : ((ops[i]?).map (Region.wanted · (yielded ops tmps))).getD false = false := by rw [ho]; exact hw
      simp [stepG, stepG.exec, hw']
    -- the guard
    unfold wpO at h
    cases hg : ops[i].guard with
    | none =>
      rw [hg] at hgd
      simp only [compG, Option.some.injEq] at hgd
      rw [← hgd] at h
      exact run (by simp [Region.wanted, hg]) h
    | some q =>
      obtain ⟨j, want⟩ := q
      rw [hg] at hgd
      simp only [compG] at hgd
      split at hgd
      · rename_i oj hoj
        split at hgd
        · rename_i t ht
          simp only [Option.some.injEq] at hgd
          rw [← hgd] at h
          have hoj' : ops[j]? = some oj := by simpa using hoj
          have hwant : Region.wanted ops[i] (yielded ops fr.tmps) = (yielded ops fr.tmps j == some want) := by simp [Region.wanted, hg]
          have hy : yielded ops fr.tmps j = match fr.tmps[t]? with | some (.bool b) => some b | _ => none := by
            simp only [yielded, hoj', ht, Option.bind_some]
            cases fr.tmps[t]? with
            | none => rfl
            | some v => cases v <;> rfl
          have hrel := hp.trel t
          simp only at h
          split at h
          · rename_i b hb
            rw [hb] at hrel
            have hbv := hrel.bool
            have hget : fr.tmps[t]? = some (.bool b) := by
              rw [Array.getD_eq_getD_getElem?] at hbv
              cases hc : fr.tmps[t]? with
              | none => rw [hc] at hbv; cases hbv
              | some v => rw [hc] at hbv; simp at hbv; rw [hbv]
            rw [hy, hget] at hwant
            cases want <;> cases b
            · exact run (by rw [hwant]; rfl) h
            · exact skip (by rw [hwant]; rfl) h
            · exact skip (by rw [hwant]; rfl) h
            · exact run (by rw [hwant]; rfl) h
          · rename_i hb
            rw [hb] at hrel
            obtain ⟨xs, hx, hxs⟩ := hrel.tupr
            cases hxs
            have hnb : (match fr.tmps[t]? with | some (.bool b) => some b | _ => none) = none := by
              rw [Array.getD_eq_getD_getElem?] at hx
              cases hc : fr.tmps[t]? with
              | none => rfl
              | some v => rw [hc] at hx; simp at hx; subst hx; rfl
            rw [hy, hnb] at hwant
            exact skip (by rw [hwant]; rfl) h
          · exact h.elim
        · cases hgd
      · cases hgd

theorem filterMap_range {ss : List SO} : ∀ (n k : Nat), k + n = ss.length → (List.range' k n).filterMap (ss[·]?) = ss.drop k
  | 0, k, h => by simp; omega
  | n + 1, k, h => by
    have hk : k < ss.length := by omega
    rw [List.range'_succ, List.filterMap_cons, List.getElem?_eq_getElem hk, filterMap_range n (k + 1) (by omega)]
    exact (List.drop_eq_getElem_cons hk).symm

/-- A region in the text's order. -/
theorem sem_region {id : Nat} {ops : Array Oper} {ss : List SO} (hcomp : compOps P N ops.toList ops.toList = some ss) {d : Bool} {K : Ex → Tm → Hp → Prop} (h : wpL P G d ss T H (K .norm)) : SemC P G N (.region id ops false) T H K := by
  intro φ F w fr k cs base hp
  have hl := (compOps_get hcomp).1
  simp only [Array.length_toList] at hl
  have hr : (List.range ops.size).filterMap (ss[·]?) = ss := by
    rw [List.range_eq_range', filterMap_range ops.size 0 (by omega)]
    rfl
  obtain ⟨T', H', φ', F', w', tmps', g1, g2, g3, g4⟩ := wpL_goes hcomp (List.range ops.size) k cs (by simp) (by rw [hr]; exact h) hp
  refine ⟨.norm, T', H', φ', F', w', tmps', fr.defers, g1, g2, g3, Steps.head ?_ g4⟩
  exact step_lone_go (by simp [stepG, stepG.exec, hp.run])
end
end Go.Ab
