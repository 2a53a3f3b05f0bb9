/- Operations with calls, regions in the text's order, regions whose order is open. No condition. Regions whose order is open. No condition. Regions whose order is open, ended. No condition. What an operation does to memory, said apart from the rest of memory. No condition. Blocks renamed; new blocks in places kept for them. No condition. Regions whose order is open and that write. No condition. -/
import Derived.Test.YteoaefbcihoapaaFwB
import Derived.Orders
set_option linter.unusedSimpArgs false
set_option linter.unusedVariables false
namespace Go.Ab
open Go

def callable (P : Program) (g : FuncId) : Bool := match P.funcs[g]? with
  | some fn => fn.body.isSome && !(fn.name == "runtime.NumGoroutine")
  | none => false

/-- A call of a Go function: from memory that the abstract heap describes, it returns, and what it gives and leaves is so. -/
def EvG (P : Program) (G : Gl) (g : FuncId) (args : List AV) (H : Hp) (Q : AV → Hp → Prop) : Prop :=
  callable P g = true ∧ ∀ φ F w (xs : List Value), SRel G φ H F w → F2 (AR φ H F w) args xs → Calls P g xs.toArray w fun e w' => ∃ r H' φ' F' x, Q r H' ∧ e = .returned x ∧ Evo φ H F w φ' H' F' w' ∧ SRel G φ' H' F' w' ∧ AR φ' H' F' w' r x

def pureV1 : AV → Bool
  | .c (.p _) => true
  | .agg _ => true
  | _ => false

def pureV : AV → Bool
  | .tup vs => vs.all pureV1
  | v => pureV1 v

/-- A function of values alone. -/
def EvP (P : Program) (G : Gl) (g : FuncId) (args : List AV) (v : AV) : Prop :=
  args.all pureV1 = true ∧ pureV v = true ∧ EvG P G g args ⟨[], []⟩ fun r _ => r = v

def EvR (P : Program) (G : Gl) (g : FuncId) (args : List AV) (H : Hp) (v : AV) (H' : Hp) : Prop := EvG P G g args H fun r h => r = v ∧ h = H'

def gd (b : Bool) (p : Prop) : Prop := match b with | true => p | false => False
def brP (b : Bool) (p q : Prop) : Prop := match b with | true => p | false => q

theorem gd_of {b : Bool} {p : Prop} (h : gd b p) : b = true ∧ p := by
  cases b
  · exact h.elim
  · exact ⟨rfl, h⟩
theorem gd_mk {b : Bool} {p : Prop} (h : b = true) (hp : p) : gd b p := by subst h; exact hp
theorem brP_mk {b : Bool} {p q : Prop} (h1 : b = true → p) (h2 : b = false → q) : brP b p q := by
  cases b
  · exact h2 rfl
  · exact h1 rfl

section
variable (P : Program) (G : Gl)

/-- Arguments are handed over frozen, or as they are. -/
def frzM (m : Bool) (H : Hp) (args : List AV) : Option (Bool × List AV × Hp) :=
  match m with
  | true => freezeAs H args
  | false => some (true, args, H)

def callK (keep pure : Bool) (g : FuncId) (caps : List Id) (args : List AV) (H : Hp) (k : AV → Hp → Prop) : Prop :=
  match keep, pure with
  | true, true => pure = true ∧ caps = [] ∧ ∃ args', freezeAs H args = some (true, args', H) ∧ ∃ v, EvP P G g args' v ∧ k v H
  | _, _ => ∃ m args' H' v H'', frzM m H args = some (true, args', H') ∧ EvR P G g (args' ++ caps.map fun i => .c (.ptr i 0)) H' v H'' ∧ k v H''

/-- A call of a function that is bound to values; not where the order is open. -/
def closK (keep : Bool) (g : FuncId) (args : List AV) (H : Hp) (k : AV → Hp → Prop) : Prop :=
  match keep with
  | true => False
  | false => callK P G false false g [] args H k

def wpCall (keep pure : Bool) (f : AV) (args : List AV) (H : Hp) (k : AV → Hp → Prop) : Prop :=
  match f with
  | .c (.fn g caps) => callK P G keep pure g caps args H k
  | .c (.p (.fn g first)) => closK P G keep g (first.map bndA ++ args) H k
  | .c (.bp g id o) => closK P G keep g (.c (.ptr id o) :: args) H k
  | _ => False

/-- Whether a slice is the nil one: an empty one can be either. -/
def nilO (d pos : Bool) (a : AV) (H : Hp) (k : AV → Hp → Prop) : Prop :=
  match d with
  | true => False
  | false => match a with
    | .c .nils => k (.c (.p (.bool pos))) H
    | .c (.p (.sl [])) | .c (.ti []) => k (.c (.p (.bool true))) H ∧ k (.c (.p (.bool false))) H
    | .c (.p (.sl (_ :: _))) | .c (.ti (_ :: _)) => k (.c (.p (.bool (!pos)))) H
    | _ => False

def stepO (d : Bool) (o : SOp) (T : Tm) (H : Hp) (k : AV → Hp → Prop) : Prop :=
  match o with
  | .call pure f args => wpCall P G d pure (evS G T f) (args.map (evS G T)) H k
  | .isnil pos a => nilO d pos (evS G T a) H k
  | o => match opS G o T H with
    | some ⟨b, v, H'⟩ => gd b (k v H')
    | none => False

def wpO (d : Bool) (o : SO) (T : Tm) (H : Hp) (k : Tm → Hp → Prop) : Prop :=
  match o.guard with
  | none => stepO P G d o.op T H fun v H => k (T.put o.dst v) H
  | some (t, want) => match T.get t with
    | .c (.p (.bool b)) => match want with
      | true => brP b (stepO P G d o.op T H fun v H => k (T.put o.dst v) H) (k (T.put o.dst (.tup [])) H)
      | false => brP b (k (T.put o.dst (.tup [])) H) (stepO P G d o.op T H fun v H => k (T.put o.dst v) H)
    | .tup [] => k (T.put o.dst (.tup [])) H
    | _ => False

def wpL (d : Bool) : List SO → Tm → Hp → (Tm → Hp → Prop) → Prop
  | [], T, H, k => k T H
  | o :: r, T, H, k => wpO P G d o T H fun T H => wpL d r T H k
end

section
variable {P : Program} {G : Gl} {N : Nat} {φ φ' : Pl} {H H' : Hp} {F F' : Cl} {w w' : World} {T T' : Tm}

theorem pureV1_rel {a : AV} (h : pureV1 a = true) {x : Value} (hr : AR φ H F w a x) (φ' : Pl) (H' : Hp) : AR φ' H' F w a x := by
  cases a with
  | c c =>
    cases c <;> simp [pureV1] at h
    exact .ofRp hr.cc.1
  | agg cs => obtain ⟨xs, rfl, hx⟩ := hr.aggr; exact .one (.agg hx)
  | _ => simp [pureV1] at h

theorem AR1.of_AR {a : AV} (h : pureV1 a = true) {x : Value} (hr : AR φ H F w a x) : AR1 φ H F w a x := by
  cases hr with
  | one h => exact h
  | tup _ => simp [pureV1] at h

theorem pureV_rel {a : AV} (h : pureV a = true) {x : Value} (hr : AR φ H F w a x) (φ' : Pl) (H' : Hp) : AR φ' H' F w a x := by
  cases a with
  | tup vs =>
    obtain ⟨xs, rfl, hx⟩ := hr.tupr
    simp only [pureV, List.all_eq_true] at h
    refine .tup ?_
    clear hr
    induction hx with
    | nil => exact .nil
    | cons h1 _ ih => exact .cons (AR1.of_AR (h _ (by simp)) (pureV1_rel (h _ (by simp)) (.one h1) φ' H')) (ih fun v hv => h v (by simp [hv]))
  | _ => exact pureV1_rel (by exact h) hr φ' H'

/-- A function of values, called from anywhere. -/
theorem EvP.at {g : FuncId} {args : List AV} {v : AV} (h : EvP P G g args v) (H : Hp) : EvG P G g args H fun r h => r = v ∧ h = H := by
  obtain ⟨h1, h2, h0, h3⟩ := h
  refine ⟨h0, fun φ F w xs hS hx => ?_⟩
  have hS0 : SRel G (fun _ => none) ⟨[], []⟩ F w := ⟨(fun _ _ _ h => by cases h), (fun _ _ h => by cases h), (fun _ _ h => by cases h), (fun id b h => by cases id <;> simp [Hp.get] at h), hS.glob, hS.fin⟩
  have hx0 : F2 (AR (fun _ => none) ⟨[], []⟩ F w) args xs := by
    simp only [List.all_eq_true] at h1
    clear h3
    induction hx with
    | nil => exact .nil
    | cons h _ ih => exact .cons (pureV1_rel (h1 _ (by simp)) h _ _) (ih fun v hv => h1 v (by simp [hv]))
  refine (h3 _ F w xs hS0 hx0).mono fun e w' ⟨r, H', φ', F', x, hr, he, E, S, A⟩ => ?_
  subst hr
  have E' : Evo φ H F w φ H F' w' :=
    { os := E.os, tape := E.tape, output := E.output, size := E.size
      keep := fun r hr _ => E.keep r hr fun _ h => by cases h
      kp := E.kp
      newF := fun b o f => by
        rcases E.newF b o f with f | ⟨_, f⟩ | f
        · exact .inl f
        · cases f
        · exact .inr (.inr f)
      new := fun _ _ h => .inl h
      be := fun id b h => ⟨b, h, BE.refl φ id b⟩
      shp := E.shp
      npar := rfl }
  refine ⟨r, H, φ, F', x, ⟨rfl, rfl⟩, he, E', ⟨hS.inj, fun i r h => Nat.lt_of_lt_of_le (hS.dom i r h) E.size, hS.has, fun id b h => ?_, fun g cs h => (hS.glob g cs h).keeps E.kp, S.fin⟩, pureV_rel h2 A φ H⟩
  refine BR.evo E' rfl (fun r hr => E.keep r (hS.dom id r hr) fun _ h => by cases h) (fun r o hr => ⟨fun f => ?_, E.kp.mono r o⟩) (hS.blk id b h)
  rcases E.newF r o f with f | ⟨_, f⟩ | f
  · exact f
  · cases f
  · have := hS.dom id r hr; omega

theorem EvG.mono {g : FuncId} {args : List AV} {Q Q' : AV → Hp → Prop} (h : EvG P G g args H Q) (hq : ∀ r h, Q r h → Q' r h) : EvG P G g args H Q' :=
  ⟨h.1, fun φ F w xs hS hx => (h.2 φ F w xs hS hx).mono fun _ _ ⟨r, H', φ', F', x, h1, h2⟩ => ⟨r, H', φ', F', x, hq _ _ h1, h2⟩⟩

/-! ### One operation -/

/-- What an operation comes to: the next state of the frame. -/
def OpGoes (P : Program) (G : Gl) (φ : Pl) (H : Hp) (F : Cl) (w : World) (fr : Frame) (ops : Array Oper) (i : Nat) (rest : List Nat) (k0 : List Item) (cs : List Frame) (k : AV → Hp → Prop) : Prop :=
  ∃ v H' φ' F' w' x, k v H' ∧ Evo φ H F w φ' H' F' w' ∧ SRel G φ' H' F' w' ∧ AR φ' H' F' w' v x ∧
    Steps P (lone { fr with todo := .inRegion ops (i :: rest) :: k0 } cs w) (lone (({ fr with todo := .inRegion ops (i :: rest) :: k0 } : Frame).finish x) cs w')

theorem step_op {fr : Frame} {ops : Array Oper} {i : Nat} {rest : List Nat} {k0 : List Item} {cs : List Frame} {o : Oper} (hm : fr.mode = .run) (ho : ops[i]? = some o) (hw : Region.wanted o (yielded ops fr.tmps) = true) (hd : ∀ c, o.op ≠ .defer c) :
    stepG P true { frame := { fr with todo := .inRegion ops (i :: rest) :: k0 }, callers := cs, status := .running, dying := none } w =
      stepG.apply P true { fr with todo := .inRegion ops (i :: rest) :: k0 } cs none (execOp fr.eval o) w := by
  obtain ⟨fn, tmps, todo, defers, mode, kind, ro⟩ := fr
  obtain ⟨dst, op, type, pos, after, guard⟩ := o
  simp only at hm hw
  subst hm
  have he : ∀ td : List Item, Frame.eval { fn, tmps, todo := td, defers, mode := .run, kind, roundOf := ro } = Frame.eval { fn, tmps, todo, defers, mode := .run, kind, roundOf := ro } := fun td => funext fun x => by cases x <;> rfl
  simp only [stepG, stepG.exec, ho, Option.map_some, Option.getD_some, hw, if_true, stepG.oper, Frame.oper?, he]
  cases ro <;> cases op <;> first | rfl | exact absurd rfl (hd _)

theorem isnil_op {o : Oper} {pos : Bool} {a : SA} (hc : compOp P o.op = some (.isnil pos a)) : ∃ op t x y yt e, o.op = .binOp op t x y yt ∧ compA x = some a ∧ compA y = some (.v (.c .nils)) ∧ P.underlying t = some (.slice e) ∧ ((op = .eql ∧ pos = true) ∨ (op = .neq ∧ pos = false)) := by
  obtain ⟨dst, op, type, pos', after, guard⟩ := o
  simp only at hc ⊢
  cases op <;> simp only [compOp, reduceCtorEq] at hc
  case build t ps =>
    unfold compBuild at hc
    split at hc <;> (try cases hc) <;> (split at hc <;> (try cases hc)) <;> (split at hc <;> (try cases hc))
  case binOp op t x y yt =>
    split at hc
    · rename_i sx sy hx hy
      have key : (op = .eql ∨ op = .neq) → (match P.underlying t with
          | some (.slice _) => compNil (op == .eql) sx sy
          | _ => none) = some (.isnil pos a) → ∃ op' t' x' y' yt' e, Op.binOp op t x y yt = .binOp op' t' x' y' yt' ∧ compA x' = some a ∧ compA y' = some (.v (.c .nils)) ∧ P.underlying t' = some (.slice e) ∧ ((op' = .eql ∧ pos = true) ∨ (op' = .neq ∧ pos = false)) := by
        intro ho h
        split at h
        · rename_i e hu
          unfold compNil at h
          split at h
          · simp only [Option.some.injEq, SOp.isnil.injEq] at h
            obtain ⟨rfl, rfl⟩ := h
            refine ⟨op, t, x, y, yt, e, rfl, hx, hy, hu, ?_⟩
            rcases ho with rfl | rfl
            · exact .inl ⟨rfl, rfl⟩
            · exact .inr ⟨rfl, rfl⟩
          · cases h
        · cases h
      have sl : (op = .eql ∨ op = .neq) → compBin P op t sx sy = some (.isnil pos a) → (match P.underlying t with
          | some (.slice _) => compNil (op == .eql) sx sy
          | _ => none) = some (.isnil pos a) := by
        rintro (rfl | rfl) h <;> simp only [compBin] at h <;> (split at h <;> first | (cases h; done) | (rename_i e hu; rw [hu]; exact h) | (split at h <;> cases h))
      cases op <;> first | exact key (.inl rfl) (sl (.inl rfl) hc) | exact key (.inr rfl) (sl (.inr rfl) hc) | (simp [compBin] at hc)
    · cases hc
  case convert s d a =>
    split at hc
    · unfold compConv at hc
      split at hc <;> (try cases hc) <;> (split at hc <;> (try cases hc)) <;> (split at hc <;> (try cases hc)) <;> (split at hc <;> (try cases hc))
    · cases hc
  case call c =>
    obtain ⟨callee, cargs, argTypes⟩ := c
    cases callee <;> simp only [compOp, reduceCtorEq] at hc
    case value g =>
      split at hc <;> cases hc
    case builtin b =>
      unfold compCall at hc
      split at hc <;> (try cases hc) <;> (split at hc <;> (try cases hc)) <;> (split at hc <;> (try cases hc)) <;> (split at hc <;> (try cases hc))
  case makeFunc fn first caps =>
    cases fn <;> simp only [reduceCtorEq] at hc
    split at hc <;> (try cases hc) <;> (split at hc <;> cases hc)
  all_goals (first | (split at hc <;> (try cases hc) <;> (split at hc <;> (try cases hc)) <;> (split at hc <;> (try cases hc)) <;> (split at hc <;> (try cases hc))) | cases hc)

theorem nil_val {a : AV} {x : Value} (h : AR φ H F w a x) {pos : Bool} {k : AV → Hp → Prop} (hn : nilO false pos a H k) : ∃ ad n c, x = .slice ad n c ∧ k (.c (.p (.bool (if pos then ad.isNone else !ad.isNone)))) H := by
  have both : k (.c (.p (.bool true))) H ∧ k (.c (.p (.bool false))) H → ∀ b, k (.c (.p (.bool b))) H := fun h b => by cases b; exact h.2; exact h.1
  have some_ : ∀ {es : List (List PV)} {ad : Option Addr}, SlAt F w es ad → es ≠ [] → ad.isNone = false := by
    rintro es ad (h | ⟨b, o, sz, rfl, _⟩) he
    · exact absurd h he
    · rfl
  cases a with
  | c c =>
    have hc := h.cc.1
    cases c with
    | p v =>
      cases v with
      | sl es =>
        obtain ⟨ad, cap, rfl, h1, h2⟩ := Rp.slAt hc
        refine ⟨ad, _, cap, rfl, ?_⟩
        cases es with
        | nil => exact both hn _
        | cons e es => rw [some_ h2 (by simp)]; cases pos <;> exact hn
      | _ => exact hn.elim
    | ti es =>
      obtain ⟨ad, rfl, h2⟩ := hc
      refine ⟨ad, _, _, rfl, ?_⟩
      cases es with
      | nil => exact both hn _
      | cons e es => rw [some_ h2 (by simp)]; cases pos <;> exact hn
    | nils =>
      cases (show x = .slice none 0 0 from hc)
      exact ⟨none, 0, 0, rfl, by cases pos <;> exact hn⟩
    | _ => exact hn.elim
  | _ => exact hn.elim

theorem nil_goes {d : Bool} {o : Oper} {pos : Bool} {a : SA} (hc : compOp P o.op = some (.isnil pos a)) {k : AV → Hp → Prop} (h : nilO d pos (evS G T a) H k) {fr : Frame} {base : Nat} (hp : Pre G N base φ H F w T fr) {ops : Array Oper} {i : Nat} {rest : List Nat} {k0 : List Item} {cs : List Frame}
    (ho : ops[i]? = some o) (hw : Region.wanted o (yielded ops fr.tmps) = true) : OpGoes P G φ H F w fr ops i rest k0 cs k := by
  cases d with
  | true => exact h.elim
  | false =>
    have hd : ∀ c, o.op ≠ .defer c := by
      intro c e
      rw [e] at hc
      simp [compOp] at hc
    have hρ := eval_rel hp.srel hp.trel
    obtain ⟨op, t, x, y, yt, e, h1, h2, h3, h4, h5⟩ := isnil_op hc
    obtain ⟨ad, n, c, hx, hk⟩ := nil_val (hρ x a h2) h
    have hy : fr.eval y = .slice none 0 0 := (hρ y _ h3).cc.1
    refine ⟨_, _, φ, F, w, _, hk, Evo.refl φ H F w, hp.srel, AR.ofBool _, .one (step_lone_go ?_)⟩
    rw [step_op hp.run ho hw hd]
    have hr : (execOp fr.eval o).run P w = .ok (.value (.bool (if pos then ad.isNone else !ad.isNone))) w := by
      obtain ⟨dst, op', type, pos', after, guard⟩ := o
      simp only at h1
      subst h1
      have hg : (eqGuard op t x y (.slice ad n c) (.slice none 0 0)).run P w = .ok () w := by
        rcases h5 with ⟨rfl, rfl⟩ | ⟨rfl, rfl⟩ <;> rfl
      have hb : (binOp op t (.slice ad n c) (.slice none 0 0)).run P w = .ok (.bool (if pos then ad.isNone else !ad.isNone)) w := by
        rcases h5 with ⟨rfl, rfl⟩ | ⟨rfl, rfl⟩
        · exact Lib.run_eql_slice_nil w t e ad n c 0 0 h4
        · exact run_neq_slice_nil_any w t e ad n c 0 0 h4
      simp [execOp, hx, hy, hg, hb]
    simp [stepG.apply, Sem.runT_eq, hr, GStep.bare_after]

theorem bndV_rel : ∀ {first : List (Bool × List PV)} {vs : List (List Value)}, vs.length = first.length →
    (∀ (i : Nat) (f : Bool × List PV) (v : List Value), first[i]? = some f → vs[i]? = some v → v.length = f.2.length ∧ (f.1 = false → f.2.length = 1)) →
    (∀ (i : Nat) (f : Bool × List PV) (v : List Value) (j : Nat) (c : PV) (x : Value), first[i]? = some f → vs[i]? = some v → f.2[j]? = some c → v[j]? = some x → Rp F w c x) → F2 (AR φ H F w) (first.map bndA) (bndV first vs)
  | [], [], _, _, _ => .nil
  | [], _ :: _, h, _, _ => by simp at h
  | _ :: _, [], h, _, _ => by simp at h
  | (b, cs) :: first, v :: vs, hl, hn, hR => by
    refine .cons ?_ (bndV_rel (by simpa using hl) (fun i f v h1 h2 => hn (i + 1) f v (by simpa using h1) (by simpa using h2)) (fun i f v j c x h1 h2 => hR (i + 1) f v j c x (by simpa using h1) (by simpa using h2)))
    obtain ⟨e1, e2⟩ := hn 0 (b, cs) v rfl rfl
    have hr : F2 (Rp F w) cs v := F2.of_get e1.symm fun j c x hc hx => hR 0 (b, cs) v j c x rfl rfl hc hx
    cases b with
    | true => exact .one (.agg hr)
    | false =>
      have e2 := e2 rfl
      match cs, v, hr, e2 with
      | [c], [x], .cons h .nil, _ => exact .ofRp h
theorem bnd_args {g : Nat} {first : List (Bool × List PV)} {x : Value} (h : Rp F w (.fn g first) x) : ∃ fv : List Value, x = .func (.func g) fv.toArray #[] ∧ F2 (AR φ H F w) (first.map bndA) fv := by
  cases h with
  | fn _ _ vs hl hn hR => exact ⟨_, rfl, bndV_rel hl hn hR⟩

theorem stepO_goes {d : Bool} {o : Oper} {so : SOp} (hc : compOp P o.op = some so) {k : AV → Hp → Prop} (h : stepO P G d so T H k) {fr : Frame} {base : Nat} (hp : Pre G N base φ H F w T fr) {ops : Array Oper} {i : Nat} {rest : List Nat} {k0 : List Item} {cs : List Frame}
    (ho : ops[i]? = some o) (hw : Region.wanted o (yielded ops fr.tmps) = true) : OpGoes P G φ H F w fr ops i rest k0 cs k := by
  have hd : ∀ c, o.op ≠ .defer c := by
    intro c e
    rw [e] at hc
    simp [compOp] at hc
  have hρ := eval_rel hp.srel hp.trel
  have plain : ∀ {res : Res}, opS G so T H = some res → gd res.pre (k res.v res.h) → OpGoes P G φ H F w fr ops i rest k0 cs k := by
    intro res h1 h2
    obtain ⟨h3, h4⟩ := gd_of h2
    obtain ⟨nx, xv, w', φ', F', r1, r2, E, S, A⟩ := opS_sound hc h1 h3 hp.srel hρ
    refine ⟨_, _, φ', F', w', xv, h4, E, S, A, .one (step_lone_go ?_)⟩
    rw [step_op hp.run ho hw hd]
    rcases r2 with rfl | ⟨rfl, rfl⟩
    · simp [stepG.apply, Sem.runT_eq, r1, GStep.bare_after]
    · simp [stepG.apply, Sem.runT_eq, r1, GStep.bare_after]
  have other : (match opS G so T H with
    | some ⟨b, v, H'⟩ => gd b (k v H')
    | none => False) → OpGoes P G φ H F w fr ops i rest k0 cs k := by
    intro h
    split at h
    · rename_i b v H' he
      exact plain he h
    · exact h.elim
  cases so <;> try exact other h
  case isnil pos a => exact nil_goes hc h hp ho hw
  rename_i pure f args
  have h : wpCall P G d pure (evS G T f) (args.map (evS G T)) H k := h
  -- the call
  obtain ⟨dst, op, type, pos, after, guard⟩ := o
  obtain ⟨callee, cargs, argTypes, rfl, hf, hargs⟩ : ∃ callee cargs argTypes, op = .call { callee := .value callee, args := cargs, argTypes } ∧ compA callee = some f ∧ compAs cargs.toList = some args := by
    clear h plain other hw ho hd
    cases op <;> simp only [compOp, reduceCtorEq] at hc
    case build t ps =>
      unfold compBuild at hc
      split at hc <;> (try cases hc) <;> (split at hc <;> (try cases hc)) <;> (split at hc <;> (try cases hc))
    case binOp op t a b yt =>
      split at hc
      · rename_i x y hx hy
        cases op <;> simp only [compBin, compNil, reduceCtorEq, Option.some.injEq] at hc <;> (split at hc <;> (try cases hc)) <;> (split at hc <;> (try cases hc))
      · cases hc
    case convert s d a =>
      split at hc
      · unfold compConv at hc
        split at hc <;> (try cases hc) <;> (split at hc <;> (try cases hc)) <;> (split at hc <;> (try cases hc)) <;> (split at hc <;> (try cases hc))
      · cases hc
    case call c =>
      obtain ⟨callee, cargs, argTypes⟩ := c
      cases callee <;> simp only [compOp, reduceCtorEq] at hc
      case value g =>
        split at hc
        · rename_i x l hx hl
          cases hc
          exact ⟨g, cargs, argTypes, rfl, hx, hl⟩
        · cases hc
      case builtin b =>
        unfold compCall at hc
        split at hc <;> (try cases hc) <;> (split at hc <;> (try cases hc)) <;> (split at hc <;> (try cases hc)) <;> (split at hc <;> (try cases hc))
    case makeFunc fn first caps =>
      cases fn <;> simp only [reduceCtorEq] at hc
      split at hc <;> (try cases hc) <;> (split at hc <;> cases hc)
    all_goals (first | (split at hc <;> (try cases hc) <;> (split at hc <;> (try cases hc)) <;> (split at hc <;> (try cases hc)) <;> (split at hc <;> (try cases hc))) | cases hc)
  have hax := compAs_rel hρ hargs
  have go : ∀ (g : FuncId) (fv cv : List Value) (pre : List AV) (caps : List Id) (pure : Bool), fr.eval callee = .func (.func g) fv.toArray cv.toArray → F2 (AR φ H F w) pre fv →
      F2 (fun id v => ∃ b r, H.get id = some b ∧ b.isRow = true ∧ φ id = some r ∧ v = .pointer (some ⟨r, 0, none⟩)) caps cv → callK P G d pure g caps (pre ++ args.map (evS G T)) H k → OpGoes P G φ H F w fr ops i rest k0 cs k := by
    intro g fv cv pre caps pure hcv hpre hcaps h
    have hax := hpre.app hax
    have hres : (execOp fr.eval { dst := dst, op := .call { callee := .value callee, args := cargs, argTypes := argTypes }, type := type, pos := pos, after := after, guard := guard }).run P w = (callFunc g ((fv ++ cargs.toList.map fr.eval ++ cv).toArray)).run P w := by
      have : fv.toArray ++ cargs.map fr.eval ++ cv.toArray = (fv ++ cargs.toList.map fr.eval ++ cv).toArray := by
        apply Array.ext'
        simp
      simp [execOp, resolve, hcv, Deferred.ofValue, invoke, this]
    have fin : ∀ {xs : List Value} {Q : AV → Hp → Prop} {as : List AV} {Hc : Hp} {F1 : Cl}, xs = fv ++ cargs.toList.map fr.eval ++ cv → Evo φ H F w φ Hc F1 w → SRel G φ Hc F1 w → F2 (AR φ Hc F1 w) as xs → EvG P G g as Hc Q → (∀ r h, Q r h → k r h) →
        (callFunc g xs.toArray).run P w = .ok (.enter g xs.toArray) w → OpGoes P G φ H F w fr ops i rest k0 cs k := by
      intro xs Q as Hc F1 hxs Ec Sc Ac hev hq hrun
      obtain ⟨e, w', fr', ⟨r, H', φ', F', x, q, rfl, E, S, A⟩, hcomes, hfn, hleave⟩ := hev.2 φ F1 w xs Sc Ac ({ fr with todo := .inRegion ops (i :: rest) :: k0 } :: cs)
      refine ⟨r, H', φ', F', w', x, hq _ _ q, Ec.trans E, S, A, .head (m₁ := lone (Frame.enter P g xs.toArray .normal) ({ fr with todo := .inRegion ops (i :: rest) :: k0 } :: cs) w) (step_lone_go ?_) (hcomes.trans (.one (step_leave_returned hleave)))⟩
      rw [step_op hp.run ho hw hd]
      rw [← hxs] at hres
      simp [stepG.apply, Sem.runT_eq, hres, hrun, GStep.bare_after]
    have enter : ∀ {as : List AV} {Hc : Hp} {Q : AV → Hp → Prop}, EvG P G g as Hc Q → ∀ xs : List Value, (callFunc g xs.toArray).run P w = .ok (.enter g xs.toArray) w := by
      intro as Hc Q hev xs
      have hcb := hev.1
      unfold callable at hcb
      split at hcb
      · rename_i fn hfn
        simp only [Bool.and_eq_true, Bool.not_eq_true'] at hcb
        have hb : ¬ fn.body = none := by
          intro hbb
          rw [hbb] at hcb
          simp at hcb
        have hn : ¬ fn.name = "runtime.NumGoroutine" := by
          have := hcb.2
          simpa using this
        simp [callFunc, hfn, hn, hb]
      · cases hcb
    unfold callK at h
    split at h
    · obtain ⟨-, rfl, args', hfz, v, hev, hk⟩ := h
      obtain ⟨F1, E1, S1, A1⟩ := freezeAs_run hp.srel hax hfz rfl
      cases hcaps
      exact fin (by simp) E1 S1 A1 (hev.at _) (fun r h ⟨e1, e2⟩ => by rw [e1, e2]; exact hk) (enter (hev.at ⟨[], []⟩) _)
    · obtain ⟨m, args', H1, v, H2, hfz, hev, hk⟩ := h
      obtain ⟨F1, E1, S1, A1⟩ : ∃ F1, Evo φ H F w φ H1 F1 w ∧ SRel G φ H1 F1 w ∧ F2 (AR φ H1 F1 w) args' (fv ++ cargs.toList.map fr.eval) := by
        cases m with
        | true => exact freezeAs_run hp.srel hax hfz rfl
        | false =>
          simp only [frzM, Option.some.injEq, Prod.mk.injEq, true_and] at hfz
          obtain ⟨rfl, rfl⟩ := hfz
          exact ⟨F, Evo.refl φ H F w, hp.srel, hax⟩
      refine fin rfl E1 S1 (A1.app ?_) hev (fun r h ⟨e1, e2⟩ => by rw [e1, e2]; exact hk) (enter hev _)
      refine F2.mapl.2 ((hcaps.imp fun id v ⟨b, r, q1, q2, q3, q4⟩ => ?_))
      obtain ⟨b', q1', q2', q3'⟩ := E1.row q1 q2
      exact .ofCR ⟨b', r, q1', q2', q3'.trans q3, q4⟩ (by rw [q4]; rfl)
  unfold wpCall at h
  split at h
  · rename_i g caps hfv
    have hfr := hρ callee f hf
    rw [hfv] at hfr
    obtain ⟨cv, hcv, hcaps⟩ := hfr.cc.1
    exact go g [] cv [] caps pure hcv .nil hcaps h
  · rename_i g first hfv
    have hfr := hρ callee f hf
    rw [hfv] at hfr
    obtain ⟨fv, hcv, hfv⟩ := bnd_args hfr.cc.1
    cases d with
    | true => exact h.elim
    | false => exact go g fv [] (first.map bndA) [] false hcv hfv .nil h
  · rename_i g id o hfv
    have hfr := hρ callee f hf
    rw [hfv] at hfr
    obtain ⟨b, r, q1, q2, q3, hcv⟩ := hfr.cc.1
    cases d with
    | true => exact h.elim
    | false => exact go g [_] [] [.c (.ptr id o)] [] false hcv (.cons (.ofCR ⟨b, r, q1, q2, q3, rfl⟩ rfl) .nil) .nil h
  · exact h.elim

/-! ### A region, operation by operation -/

theorem compOps_get {n : Nat} {all : List Oper} : ∀ {l : List Oper} {ss : List SO}, compOps P n all l = some ss → l.length = ss.length ∧ ∀ {i : Nat} {o : Oper}, l[i]? = some o →
    ∃ s, ss[i]? = some s ∧ s.dst = o.dst ∧ compB P o.op = s.op ∧ compG all o.guard = some s.guard ∧ (∀ d, o.dst = some d → d < n)
  | [], ss, h => by simp only [compOps, Option.some.injEq] at h; subst h; exact ⟨rfl, fun h => by simp at h⟩
  | o :: l, ss, h => by
    simp only [compOps] at h
    split at h
    · rename_i s g l' h1 h2 h3 h4
      simp only [Option.some.injEq] at h
      subst h
      obtain ⟨e1, e2⟩ := compOps_get h3
      refine ⟨by simp [e1], fun {i o'} hi => ?_⟩
      cases i with
      | zero =>
        simp only [List.getElem?_cons_zero, Option.some.injEq] at hi
        subst hi
        refine ⟨_, rfl, rfl, Option.some.inj h1, h2, fun d hd => ?_⟩
        rw [hd] at h4
        simpa using h4
      | succ i => simpa using e2 (by simpa using hi)
    · cases h

def putT (tmps : Array Value) (d : Option Nat) (x : Value) : Array Value := match d with | some d => tmps.setIfInBounds d x | none => tmps

theorem finish_region {fr : Frame} {ops : Array Oper} {i : Nat} {rest : List Nat} {k0 : List Item} {o : Oper} (ho : ops[i]? = some o) (x : Value) :
    ({ fr with todo := .inRegion ops (i :: rest) :: k0 } : Frame).finish x = { fr with tmps := putT fr.tmps o.dst x, todo := .inRegion ops rest :: k0 } := by
  cases hd : o.dst <;> simp [Frame.finish, ho, hd, putT]

theorem put_size {tmps : Array Value} {d : Option Nat} {x : Value} : (putT tmps d x).size = tmps.size := by cases d <;> simp [putT]

theorem TRel.putO {tmps : Array Value} {d : Option Nat} {v : AV} {x : Value} (h : TRel φ H F w T tmps) (hd : ∀ t, d = some t → t < tmps.size) (hv : AR φ H F w v x) : TRel φ H F w (T.put d v) (putT tmps d x) := by
  cases d with
  | none => exact h
  | some d => exact h.put (hd d rfl) hv

theorem wpL_goes {d : Bool} {ops : Array Oper} {ss : List SO} (hcomp : compOps P N ops.toList ops.toList = some ss) {k : Tm → Hp → Prop} : ∀ (l : List Nat) {T : Tm} {H : Hp} {φ : Pl} {F : Cl} {w : World} {fr : Frame} {base : Nat} (k0 : List Item) (cs : List Frame),
    (∀ i ∈ l, i < ops.size) → wpL P G d (l.filterMap (ss[·]?)) T H k → Pre G N base φ H F w T fr →
    ∃ T' H' φ' F' w' tmps', k T' H' ∧ Evo φ H F w φ' H' F' w' ∧ Pre G N base φ' H' F' w' T' { fr with tmps := tmps' } ∧
      Steps P (lone { fr with todo := .inRegion ops l :: k0 } cs w) (lone { fr with tmps := tmps', todo := k0 } cs w')
  | [], T, H, φ, F, w, fr, base, k0, cs, _, h, hp => ⟨T, H, φ, F, w, fr.tmps, h, Evo.refl φ H F w, hp, .one (step_lone_go (by simp [stepG, stepG.exec, hp.run]))⟩
  | i :: rest, T, H, φ, F, w, fr, base, k0, cs, hl, h, hp => by
    have hi : i < ops.size := hl i (by simp)
    have ho : ops[i]? = some ops[i] := Array.getElem?_eq_getElem hi
    have ho' : ops.toList[i]? = some ops[i] := by simp [hi]
    obtain ⟨s, hs, hdst, hop, hgd, hdn⟩ := (compOps_get hcomp).2 ho'
    rw [List.filterMap_cons, hs] at h
    have h : wpO P G d s T H fun T H => wpL P G d (rest.filterMap (ss[·]?)) T H k := h
    have hdn' : ∀ t, ops[i].dst = some t → t < fr.tmps.size := fun t ht => by rw [hp.size]; exact hdn t ht
    -- how it goes on
    have on : ∀ {v : AV} {H1 : Hp} {φ1 : Pl} {F1 : Cl} {w1 : World} {x : Value}, wpL P G d (rest.filterMap (ss[·]?)) (T.put s.dst v) H1 k → Evo φ H F w φ1 H1 F1 w1 → SRel G φ1 H1 F1 w1 → AR φ1 H1 F1 w1 v x →
        Steps P (lone { fr with todo := .inRegion ops (i :: rest) :: k0 } cs w) (lone (({ fr with todo := .inRegion ops (i :: rest) :: k0 } : Frame).finish x) cs w1) →
        ∃ T' H' φ' F' w' tmps', k T' H' ∧ Evo φ H F w φ' H' F' w' ∧ Pre G N base φ' H' F' w' T' { fr with tmps := tmps' } ∧
          Steps P (lone { fr with todo := .inRegion ops (i :: rest) :: k0 } cs w) (lone { fr with tmps := tmps', todo := k0 } cs w') := by
      intro v H1 φ1 F1 w1 x hk E S A hst
      rw [finish_region ho] at hst
      rw [hdst] at hk
      have hp1 : Pre G N base φ1 H1 F1 w1 (T.put ops[i].dst v) { fr with tmps := putT fr.tmps ops[i].dst x } :=
        { run := hp.run, size := put_size.trans hp.size, defers := hp.defers.evo hp.srel E, round := hp.round.evo hp.srel E, base := Nat.le_trans hp.base E.size, srel := S, trel := (hp.trel.evo E).putO hdn' A }
      obtain ⟨T', H', φ', F', w', tmps', g1, g2, g3, g4⟩ := wpL_goes hcomp rest k0 cs (fun j hj => hl j (by simp [hj])) hk hp1
      exact ⟨T', H', φ', F', w', tmps', g1, E.trans g2, g3, hst.trans g4⟩
    have run : Region.wanted ops[i] (yielded ops fr.tmps) = true → stepO P G d s.op T H (fun v H => wpL P G d (rest.filterMap (ss[·]?)) (T.put s.dst v) H k) →
        ∃ T' H' φ' F' w' tmps', k T' H' ∧ Evo φ H F w φ' H' F' w' ∧ Pre G N base φ' H' F' w' T' { fr with tmps := tmps' } ∧
          Steps P (lone { fr with todo := .inRegion ops (i :: rest) :: k0 } cs w) (lone { fr with tmps := tmps', todo := k0 } cs w') := by
      intro hw hst
      have hop : compOp P ops[i].op = some s.op := by
        unfold compB at hop
        split at hop
        · rename_i e; rw [e, hop]
        · rw [← hop] at hst; exact hst.elim
      obtain ⟨v, H1, φ1, F1, w1, x, g1, g2, g3, g4, g5⟩ := stepO_goes hop hst hp (k0 := k0) (cs := cs) (rest := rest) ho hw
      exact on g1 g2 g3 g4 g5
    have skip : Region.wanted ops[i] (yielded ops fr.tmps) = false → wpL P G d (rest.filterMap (ss[·]?)) (T.put s.dst (.tup [])) H k →
        ∃ T' H' φ' F' w' tmps', k T' H' ∧ Evo φ H F w φ' H' F' w' ∧ Pre G N base φ' H' F' w' T' { fr with tmps := tmps' } ∧
          Steps P (lone { fr with todo := .inRegion ops (i :: rest) :: k0 } cs w) (lone { fr with tmps := tmps', todo := k0 } cs w') := by
      intro hw hk
      refine on hk (Evo.refl φ H F w) hp.srel (x := undef) (.tup .nil) (.one (step_lone_go ?_))
      obtain ⟨fn, tmps, todo, defers, mode, kind, ro⟩ := fr
      have hm := hp.run
      simp only at hm
      subst hm
      have hw' : ((ops[i]?).map (Region.wanted · (yielded ops tmps))).getD false = false := by rw [ho]; exact hw
      simp [stepG, stepG.exec, hw']
    -- the guard
    unfold wpO at h
    cases hg : ops[i].guard with
    | none =>
      rw [hg] at hgd
      simp only [compG, Option.some.injEq] at hgd
      rw [← hgd] at h
      exact run (by simp [Region.wanted, hg]) h
    | some q =>
      obtain ⟨j, want⟩ := q
      rw [hg] at hgd
      simp only [compG] at hgd
      split at hgd
      · rename_i oj hoj
        split at hgd
        · rename_i t ht
          simp only [Option.some.injEq] at hgd
          rw [← hgd] at h
          have hoj' : ops[j]? = some oj := by simpa using hoj
          have hwant : Region.wanted ops[i] (yielded ops fr.tmps) = (yielded ops fr.tmps j == some want) := by simp [Region.wanted, hg]
          have hy : yielded ops fr.tmps j = match fr.tmps[t]? with | some (.bool b) => some b | _ => none := by
            simp only [yielded, hoj', ht, Option.bind_some]
            cases fr.tmps[t]? with
            | none => rfl
            | some v => cases v <;> rfl
          have hrel := hp.trel t
          simp only at h
          split at h
          · rename_i b hb
            rw [hb] at hrel
            have hbv := hrel.bool
            have hget : fr.tmps[t]? = some (.bool b) := by
              rw [Array.getD_eq_getD_getElem?] at hbv
              cases hc : fr.tmps[t]? with
              | none => rw [hc] at hbv; cases hbv
              | some v => rw [hc] at hbv; simp at hbv; rw [hbv]
            rw [hy, hget] at hwant
            cases want <;> cases b
            · exact run (by rw [hwant]; rfl) h
            · exact skip (by rw [hwant]; rfl) h
            · exact skip (by rw [hwant]; rfl) h
            · exact run (by rw [hwant]; rfl) h
          · rename_i hb
            rw [hb] at hrel
            obtain ⟨xs, hx, hxs⟩ := hrel.tupr
            cases hxs
            have hnb : (match fr.tmps[t]? with | some (.bool b) => some b | _ => none) = none := by
              rw [Array.getD_eq_getD_getElem?] at hx
              cases hc : fr.tmps[t]? with
              | none => rfl
              | some v => rw [hc] at hx; simp at hx; subst hx; rfl
            rw [hy, hnb] at hwant
            exact skip (by rw [hwant]; rfl) h
          · exact h.elim
        · cases hgd
      · cases hgd

theorem filterMap_range {ss : List SO} : ∀ (n k : Nat), k + n = ss.length → (List.range' k n).filterMap (ss[·]?) = ss.drop k
  | 0, k, h => by simp; omega
  | n + 1, k, h => by
    have hk : k < ss.length := by omega
    rw [List.range'_succ, List.filterMap_cons, List.getElem?_eq_getElem hk, filterMap_range n (k + 1) (by omega)]
    exact (List.drop_eq_getElem_cons hk).symm

/-- A region in the text's order. -/
theorem sem_region {id : Nat} {ops : Array Oper} {ss : List SO} (hcomp : compOps P N ops.toList ops.toList = some ss) {d : Bool} {K : Ex → Tm → Hp → Prop} (h : wpL P G d ss T H (K .norm)) : SemC P G N (.region id ops false) T H K := by
  intro φ F w fr k cs base hp
  have hl := (compOps_get hcomp).1
  simp only [Array.length_toList] at hl
  have hr : (List.range ops.size).filterMap (ss[·]?) = ss := by
    rw [List.range_eq_range', filterMap_range ops.size 0 (by omega)]
    rfl
  obtain ⟨T', H', φ', F', w', tmps', g1, g2, g3, g4⟩ := wpL_goes hcomp (List.range ops.size) k cs (by simp) (by rw [hr]; exact h) hp
  refine ⟨.norm, T', H', φ', F', w', tmps', fr.defers, g1, g2, g3, Steps.head ?_ g4⟩
  exact step_lone_go (by simp [stepG, stepG.exec, hp.run])
end
end Go.Ab

namespace Go.Ab
open Go

section
variable {P : Program} {G : Gl} {N : Nat} {H : Hp} {T T' : Tm}

def Teq (T T' : Tm) : Prop := ∀ t, T.get t = T'.get t

theorem get_put (T : Tm) (d : Option Nat) (v : AV) (t : Nat) : (T.put d v).get t = if d = some t then v else T.get t := by
  cases d with
  | none => rfl
  | some d =>
    simp only [Tm.put, Tm.get, Option.some.injEq]
    by_cases e : d = t
    · subst e; simp [Nat.beq_refl]
    · have : Nat.beq d t = false := by
        cases hb : Nat.beq d t with
        | true => exact absurd (Nat.eq_of_beq_eq_true hb) e
        | false => rfl
      simp [this, e]

theorem evS_congr {s : SA} (h : ∀ t ∈ looksA s, T.get t = T'.get t) : evS G T s = evS G T' s := by
  cases s <;> simp_all [evS, looksA]

theorem evM_congr {s : Option SA} (h : ∀ t ∈ looksM s, T.get t = T'.get t) : s.map (evS G T) = s.map (evS G T') := by
  cases s with
  | none => rfl
  | some s => cases s <;> simp_all [evS, looksM]

theorem evL_congr {l : List SA} (h : ∀ t ∈ l.flatMap looksA, T.get t = T'.get t) : l.map (evS G T) = l.map (evS G T') :=
  List.map_congr_left fun s hs => evS_congr fun t ht => h t (List.mem_flatMap.2 ⟨s, hs, ht⟩)

theorem opS_congr {o : SOp} (h : ∀ t ∈ looksO o, T.get t = T'.get t) : opS G o T H = opS G o T' H := by
  cases o <;> simp only [looksO, List.mem_append] at h <;> simp only [opS]
  case build z ps =>
    have : (ps.map fun q => (q.1, q.2.1, evS G T q.2.2)) = ps.map fun q => (q.1, q.2.1, evS G T' q.2.2) :=
      List.map_congr_left fun q hq => by rw [evS_congr fun t ht => h t (List.mem_flatMap.2 ⟨q, hq, ht⟩)]
    rw [this]
  case lit n ps => rw [evL_congr h]
  case fn g ps => rw [evL_congr h]
  case bnd g ps => rw [evL_congr h]
  case pick c a b => rw [evS_congr fun t ht => h t (.inl (.inl ht)), evS_congr (s := a) fun t ht => h t (.inl (.inr ht)), evS_congr (s := b) fun t ht => h t (.inr ht)]
  case slStr a l m => rw [evS_congr fun t ht => h t (.inl (.inl ht)), evM_congr (s := l) fun t ht => h t (.inl (.inr ht)), evM_congr (s := m) fun t ht => h t (.inr ht)]
  case slSl sz a l m n => rw [evS_congr fun t ht => h t (.inl (.inl (.inl ht))), evM_congr (s := l) fun t ht => h t (.inl (.inl (.inr ht))), evM_congr (s := m) fun t ht => h t (.inl (.inr ht)), evM_congr (s := n) fun t ht => h t (.inr ht)]
  all_goals first
    | (rw [evS_congr fun t ht => h t (.inl ht), evS_congr (T := T) (T' := T') fun t ht => h t (.inr ht)]; done)
    | (rw [evS_congr h]; done)

theorem stepO_congr {d : Bool} {o : SOp} {k : AV → Hp → Prop} (h : ∀ t ∈ looksO o, T.get t = T'.get t) : stepO P G d o T H k = stepO P G d o T' H k := by
  cases o
  case call p f args =>
    simp only [looksO, List.mem_append] at h
    simp only [stepO]
    rw [evS_congr fun t ht => h t (.inl ht), evL_congr fun t ht => h t (.inr ht)]
  case isnil pos a =>
    simp only [stepO]
    rw [evS_congr h]
  all_goals
    simp only [stepO]
    rw [opS_congr h]

theorem partH {r : Option (Bool × AV)} {res : Res} (h : resOf H r = some res) : res.h = H := (resOf_spec h).2

theorem loadS_h {agg : Bool} {n : Nat} {a : AV} {res : Res} (h : loadS agg n a H = some res) : res.h = H := by
  unfold loadS at h
  repeat' split at h
  all_goals first | exact partH h | (cases h; done) | (simp only [Option.some.injEq] at h; subst h; rfl)

theorem opS_ro {o : SOp} (hr : o.ro = true) {res : Res} (h : opS G o T H = some res) : res.h = H := by
  cases o <;> simp only [SOp.ro, reduceCtorEq, Bool.false_eq_true] at hr <;> simp only [opS, ret] at h
  case load => exact loadS_h h
  case fld =>
    unfold fieldAddrS at h
    repeat' split at h
    all_goals first | (cases h; done) | (simp only [ret, Option.some.injEq] at h; subst h; rfl)
  case fldv =>
    unfold fieldS at h
    repeat' split at h
    all_goals first | exact partH h | (cases h; done)
  case ixArr =>
    unfold ixArr at h
    repeat' split at h
    all_goals first | (cases h; done) | (simp only [Option.some.injEq] at h; subst h; rfl)
  case ixSl =>
    unfold ixSl at h
    repeat' split at h
    all_goals first | (cases h; done) | (simp only [Option.some.injEq] at h; subst h; rfl)
  case ixAgg =>
    unfold ixAgg at h
    repeat' split at h
    all_goals first | (cases h; done) | (simp only [Option.some.injEq] at h; subst h; rfl)
  case ixStr =>
    unfold ixStr at h
    repeat' split at h
    all_goals first | (cases h; done) | (simp only [Option.some.injEq] at h; subst h; rfl)
  case slStr =>
    unfold slStr at h
    repeat' split at h
    all_goals first | (cases h; done) | (simp only [Option.some.injEq] at h; subst h; rfl)
  case len =>
    unfold lenS at h
    repeat' split at h
    all_goals first | (cases h; done) | (simp only [Option.some.injEq] at h; subst h; rfl)
  case bnd =>
    unfold bndS at h
    repeat' split at h
    all_goals first | (cases h; done) | (simp only [ret, Option.some.injEq] at h; subst h; rfl)
  case bin => exact partH h
  case sh => exact partH h
  all_goals
    repeat' split at h
    all_goals first | (cases h; done) | (simp only [ret, Option.some.injEq] at h; subst h; rfl)

/-- An operation that only reads gives a value. -/
theorem stepO_ro {o : SOp} (hr : o.ro = true) {k : AV → Hp → Prop} : stepO P G true o T H k ↔ ∃ v, stepO P G true o T H (fun v' H' => v' = v ∧ H' = H) ∧ k v H := by
  have plain : (∀ {k : AV → Hp → Prop}, stepO P G true o T H k = match opS G o T H with | some ⟨b, v, H'⟩ => gd b (k v H') | none => False) → (stepO P G true o T H k ↔ ∃ v, stepO P G true o T H (fun v' H' => v' = v ∧ H' = H) ∧ k v H) := by
    intro he
    rw [he]
    simp only [he]
    cases hs : opS G o T H with
    | none => simp
    | some res =>
      have hh := opS_ro hr hs
      obtain ⟨b, v, h⟩ := res
      simp only at hh
      subst hh
      cases b <;> simp [gd]
  cases o <;> try exact plain rfl
  rename_i p f args
  simp only [SOp.ro] at hr
  subst hr
  simp only [stepO, wpCall]
  split
  · simp only [callK]
    constructor
    · rintro ⟨h0, h1, as, h2, v, h3, h4⟩
      exact ⟨v, ⟨h0, h1, as, h2, v, h3, rfl, trivial⟩, h4⟩
    · rintro ⟨v, ⟨h0, h1, as, h2, v', h3, rfl, -⟩, h4⟩
      exact ⟨h0, h1, as, h2, v', h3, h4⟩
  · simp [closK]
  · simp [closK]
  · simp

/-- What an operation gives, or that it is passed by. -/
def valO (P : Program) (G : Gl) (o : SO) (T : Tm) (H : Hp) (v : AV) : Prop :=
  match o.guard with
  | none => stepO P G true o.op T H fun v' H' => v' = v ∧ H' = H
  | some (t, want) => match T.get t with
    | .c (.p (.bool b)) => if b = want then stepO P G true o.op T H (fun v' H' => v' = v ∧ H' = H) else v = .tup []
    | .tup [] => v = .tup []
    | _ => False

theorem wpO_ro {o : SO} (hr : o.op.ro = true) {k : Tm → Hp → Prop} : wpO P G true o T H k ↔ ∃ v, valO P G o T H v ∧ k (T.put o.dst v) H := by
  unfold wpO valO
  cases hg : o.guard with
  | none => exact stepO_ro hr
  | some q =>
    obtain ⟨t, want⟩ := q
    simp only
    have cases3 : (∃ b, T.get t = .c (.p (.bool b))) ∨ T.get t = .tup [] ∨ ((∀ b, T.get t ≠ .c (.p (.bool b))) ∧ T.get t ≠ .tup []) := by
      by_cases h1 : ∃ b, T.get t = .c (.p (.bool b))
      · exact .inl h1
      · by_cases h2 : T.get t = .tup []
        · exact .inr (.inl h2)
        · exact .inr (.inr ⟨fun b e => h1 ⟨b, e⟩, h2⟩)
    rcases cases3 with ⟨b, hb⟩ | hb | ⟨h1, h2⟩
    · rw [hb]
      cases want <;> cases b <;> simp only [brP, if_true, if_false, reduceCtorEq, Bool.true_eq_false, Bool.false_eq_true]
      · exact stepO_ro hr
      · exact ⟨fun h => ⟨_, rfl, h⟩, fun ⟨_, e, h⟩ => e ▸ h⟩
      · exact ⟨fun h => ⟨_, rfl, h⟩, fun ⟨_, e, h⟩ => e ▸ h⟩
      · exact stepO_ro hr
    · rw [hb]
      exact ⟨fun h => ⟨_, rfl, h⟩, fun ⟨v, e, h⟩ => by subst e; exact h⟩
    · split
      · rename_i b hb; exact absurd hb (h1 b)
      · rename_i hb; exact absurd hb h2
      · simp

theorem valO_congr {o : SO} {v : AV} (h : ∀ t ∈ o.looks, T.get t = T'.get t) : valO P G o T H v = valO P G o T' H v := by
  have h1 : ∀ t ∈ looksO o.op, T.get t = T'.get t := fun t ht => h t (List.mem_append.2 (.inl ht))
  unfold valO
  cases hg : o.guard with
  | none => simp only; rw [stepO_congr h1]
  | some q =>
    obtain ⟨t, w⟩ := q
    have ht : T.get t = T'.get t := h t (List.mem_append.2 (.inr (by simp [hg])))
    simp only
    rw [ht, stepO_congr h1]

/-- A postcondition that only asks what is known. -/
def KR (k : Tm → Hp → Prop) : Prop := ∀ T T' H, Teq T T' → k T H → k T' H

theorem nilO_mono {d pos : Bool} {a : AV} {k1 k2 : AV → Hp → Prop} (hk : ∀ v H, k1 v H → k2 v H) (h : nilO d pos a H k1) : nilO d pos a H k2 := by
  unfold nilO at h ⊢
  split at h
  · exact h
  · split at h
    · exact hk _ _ h
    · exact ⟨hk _ _ h.1, hk _ _ h.2⟩
    · exact ⟨hk _ _ h.1, hk _ _ h.2⟩
    · exact hk _ _ h
    · exact hk _ _ h
    · exact h.elim

theorem stepO_mono {d : Bool} {o : SOp} {k1 k2 : AV → Hp → Prop} (hk : ∀ v H, k1 v H → k2 v H) (h : stepO P G d o T H k1) : stepO P G d o T H k2 := by
  have mono : (match opS G o T H with | some ⟨b, v, H'⟩ => gd b (k1 v H') | none => False) → (match opS G o T H with | some ⟨b, v, H'⟩ => gd b (k2 v H') | none => False) := by
    intro h
    cases hr : opS G o T H with
    | none => rw [hr] at h; exact h
    | some q =>
      rw [hr] at h
      obtain ⟨b, v, H'⟩ := q
      obtain ⟨hb, h⟩ := gd_of h
      exact gd_mk hb (hk _ _ h)
  cases o <;> try exact mono h
  case isnil pos a => exact nilO_mono hk h
  rename_i p f args
  have clos : ∀ {g : FuncId} {as : List AV}, closK P G d g as H k1 → closK P G d g as H k2 := by
    intro g as h
    cases d with
    | true => exact h.elim
    | false =>
      obtain ⟨m, as, H1, v, H2, h1, h2, h3⟩ := h
      exact ⟨m, as, H1, v, H2, h1, h2, hk _ _ h3⟩
  simp only [stepO, wpCall] at h ⊢
  split at h
  case h_2 => exact clos h
  case h_3 => exact clos h
  case h_4 => exact h.elim
  cases d with
  | true =>
    cases p with
    | true =>
      obtain ⟨h0, h1, as, h2, v, h3, h4⟩ := h
      exact ⟨h0, h1, as, h2, v, h3, hk _ _ h4⟩
    | false =>
      obtain ⟨m, as, H1, v, H2, h1, h2, h3⟩ := h
      exact ⟨m, as, H1, v, H2, h1, h2, hk _ _ h3⟩
  | false =>
    obtain ⟨m, as, H1, v, H2, h1, h2, h3⟩ := h
    exact ⟨m, as, H1, v, H2, h1, h2, hk _ _ h3⟩

theorem wpO_congr {o : SO} {k : Tm → Hp → Prop} (hk : KR k) (d : Bool) (he : Teq T T') (h : wpO P G d o T H k) : wpO P G d o T' H k := by
  have hp : ∀ v H, k (T.put o.dst v) H → k (T'.put o.dst v) H := fun v H => hk _ _ H fun t => by rw [get_put, get_put, he t]
  have hs : stepO P G d o.op T H (fun v H => k (T.put o.dst v) H) → stepO P G d o.op T' H (fun v H => k (T'.put o.dst v) H) := by
    intro h
    rw [← stepO_congr (T := T) fun t _ => he t]
    exact stepO_mono hp h
  unfold wpO at h ⊢
  cases hg : o.guard with
  | none => rw [hg] at h; exact hs h
  | some q =>
    obtain ⟨t, want⟩ := q
    rw [hg] at h
    simp only at h ⊢
    rw [← he t]
    generalize T.get t = V at *
    cases V with
    | c c =>
      cases c with
      | p v =>
        cases v with
        | bool b => cases want <;> cases b <;> first | exact hs h | exact hp _ _ h
        | _ => exact h.elim
      | _ => exact h.elim
    | tup vs =>
      cases vs with
      | nil => exact hp _ _ h
      | cons => exact h.elim
    | _ => exact h.elim

theorem wpL_congr {d : Bool} {k : Tm → Hp → Prop} (hk : KR k) : ∀ (l : List SO) {T T' : Tm} {H : Hp}, Teq T T' → wpL P G d l T H k → wpL P G d l T' H k
  | [], T, T', H, he, h => hk _ _ _ he h
  | _ :: l, _, _, _, he, h => wpO_congr (k := fun T H => wpL P G d l T H k) (fun _ _ _ e q => wpL_congr hk l e q) d he h

theorem apartS_spec {x y : SO} (h : apartS x y = true) : (∀ d, x.dst = some d → d ∉ y.looks) ∧ (∀ d, x.dst = some d → y.dst ≠ some d) ∧ (∀ d, y.dst = some d → d ∉ x.looks) := by
  refine ⟨fun d hd => ?_, fun d hd => ?_, fun d hd => ?_⟩ <;> simp [apartS, hd] at h
  · exact h.1.1
  · exact h.1.2
  · exact h.2

/-- Two that only read, side by side, go either way round. -/
theorem swap2 {a b : SO} (ha : a.op.ro = true) (hb : b.op.ro = true) (hab : apartS a b = true) {k : Tm → Hp → Prop} (hk : KR k) (h : wpO P G true a T H fun T H => wpO P G true b T H k) : wpO P G true b T H fun T H => wpO P G true a T H k := by
  obtain ⟨h1, h2, h3⟩ := apartS_spec hab
  obtain ⟨va, hva, h⟩ := (wpO_ro ha).1 h
  obtain ⟨vb, hvb, h⟩ := (wpO_ro hb).1 h
  refine (wpO_ro hb).2 ⟨vb, ?_, (wpO_ro ha).2 ⟨va, ?_, hk _ _ _ (fun t => ?_) h⟩⟩
  · rw [valO_congr (T := T) (T' := T.put a.dst va)]
    · exact hvb
    · intro t ht
      rw [get_put, if_neg]
      exact fun e => h1 t e ht
  · rw [← valO_congr (T := T) (T' := T.put b.dst vb)]
    · exact hva
    · intro t ht
      rw [get_put, if_neg]
      exact fun e => h3 t e ht
  · simp only [get_put]
    by_cases e1 : a.dst = some t
    · have : ¬ b.dst = some t := h2 t e1
      simp [e1, this]
    · simp [e1]

/-- One that stands apart of all before it, taken first. -/
theorem bubble {x : SO} {k : Tm → Hp → Prop} (hk : KR k) : ∀ (p q : List SO) {T : Tm} {H : Hp}, (∀ a ∈ p, a.op.ro = true ∧ x.op.ro = true ∧ apartS a x = true) → wpL P G true (p ++ x :: q) T H k → wpL P G true (x :: (p ++ q)) T H k
  | [], q, T, H, _, h => h
  | a :: p, q, T, H, hp, h => by
    obtain ⟨h1, h2, h3⟩ := hp a (by simp)
    have ih : ∀ T H, wpL P G true (p ++ x :: q) T H k → wpL P G true (x :: (p ++ q)) T H k := fun T H => bubble hk p q fun b hb => hp b (by simp [hb])
    have h' : wpO P G true a T H fun T H => wpO P G true x T H fun T H => wpL P G true (p ++ q) T H k := by
      obtain ⟨v, hv, hq⟩ := (wpO_ro h1).1 (show wpO P G true a T H fun T H => wpL P G true (p ++ x :: q) T H k from h)
      exact (wpO_ro h1).2 ⟨v, hv, ih _ _ hq⟩
    exact swap2 h1 h2 h3 (fun _ _ _ e q' => wpL_congr hk (p ++ q) e q') h'
end
end Go.Ab

namespace Go.Ab
open Go

section
variable {P : Program} {G : Gl} {N : Nat} {H : Hp} {T T' : Tm}

def ancF (acc : List Nat) (o : Oper) : Nat := (o.after.toList.filter (Region.binds .any)).foldl (fun s e => s ||| 2 ^ e.on ||| acc.getD e.on 0) 0

theorem ancs_spec : ∀ (l : List Oper) (acc : List Nat), (ancs acc l).length = acc.length + l.length ∧ (∀ j, j < acc.length → (ancs acc l)[j]? = acc[j]?) ∧
    ∀ m o, l[m]? = some o → (ancs acc l)[acc.length + m]? = some (ancF ((ancs acc l).take (acc.length + m)) o)
  | [], acc => ⟨by simp [ancs], fun _ _ => rfl, fun m o h => by simp at h⟩
  | o :: l, acc => by
    obtain ⟨h1, h2, h3⟩ := ancs_spec l (acc ++ [ancF acc o])
    have he : ancs acc (o :: l) = ancs (acc ++ [ancF acc o]) l := rfl
    rw [he]
    simp only [List.length_append, List.length_cons, List.length_nil] at h1 h2 h3
    refine ⟨by rw [h1]; simp; omega, fun j hj => ?_, fun m o' hm => ?_⟩
    · rw [h2 j (by omega), List.getElem?_append_left hj]
    · cases m with
      | zero =>
        simp at hm
        subst hm
        have ht : (ancs (acc ++ [ancF acc o]) l).take acc.length = acc := by
          apply List.ext_getElem?
          intro j
          rw [List.getElem?_take]
          split
          · rename_i hj; rw [h2 j (by omega), List.getElem?_append_left hj]
          · rename_i hj; rw [List.getElem?_eq_none (by omega)]
        rw [Nat.add_zero, ht, h2 _ (by omega)]
        simp
      | succ m =>
        have := h3 m o' (by simpa using hm)
        rwa [show acc.length + (0 + 1) + m = acc.length + (m + 1) by omega] at this

theorem fold_bit {acc : List Nat} {a : Nat} : ∀ (l : List Edge) (s : Nat), (l.foldl (fun s e => s ||| 2 ^ e.on ||| acc.getD e.on 0) s).testBit a = true → s.testBit a = true ∨ ∃ e ∈ l, a = e.on ∨ (acc.getD e.on 0).testBit a = true
  | [], s, h => .inl h
  | e :: l, s, h => by
    rw [List.foldl_cons] at h
    rcases fold_bit l _ h with h | ⟨e', he, h⟩
    · simp only [Nat.testBit_or, Bool.or_eq_true, Nat.testBit_two_pow, decide_eq_true_eq] at h
      rcases h with (h | h) | h
      · exact .inl h
      · exact .inr ⟨e, by simp, .inl h.symm⟩
      · exact .inr ⟨e, by simp, .inr h⟩
    · exact .inr ⟨e', by simp [he], h⟩

/-- What has been done holds, of each that it holds, all that stands before it. -/
def Closed (ops : List Oper) (L : Array Bool) : Prop := ∀ (s : Nat) (o : Oper), ops[s]? = some o → L.getD s false = true → ∀ e ∈ o.after.toList, Region.binds .any e = true → L.getD e.on false = true

theorem anc_listed {ops : List Oper} {L : Array Bool} (hc : Closed ops L) : ∀ (i : Nat) (o : Oper), ops[i]? = some o → (∀ e ∈ o.after.toList, Region.binds .any e = true → L.getD e.on false = true) → ∀ a x, (ancs [] ops)[i]? = some x → x.testBit a = true → L.getD a false = true := by
  intro i
  induction i using Nat.strongRecOn with
  | _ i ih =>
    intro o ho he a x hx hb
    have hsp := (ancs_spec ops []).2.2 i o ho
    simp only [List.length_nil, Nat.zero_add] at hsp
    rw [hx] at hsp
    cases hsp
    rcases fold_bit _ _ hb with h | ⟨e, hel, h⟩
    · simp at h
    · obtain ⟨he1, he2⟩ := List.mem_filter.1 hel
      have hl := he e he1 he2
      rcases h with rfl | h
      · exact hl
      · by_cases hlt : e.on < i
        · cases hy : (ancs [] ops)[e.on]? with
          | none =>
            have : ((ancs [] ops).take i).getD e.on 0 = 0 := by simp [List.getD, List.getElem?_take, hlt, hy]
            rw [this] at h
            simp at h
          | some y =>
            have hg : ((ancs [] ops).take i).getD e.on 0 = y := by simp [List.getD, List.getElem?_take, hlt, hy]
            rw [hg] at h
            have hlen := (List.getElem?_eq_some_iff.1 hy).1
            rw [(ancs_spec ops []).1] at hlen
            simp only [List.length_nil, Nat.zero_add] at hlen
            exact ih e.on hlt ops[e.on] (List.getElem?_eq_getElem hlen) (fun e' h1 h2 => hc e.on _ (List.getElem?_eq_getElem hlen) hl e' h1 h2) a y hy h
        · have : ((ancs [] ops).take i).getD e.on 0 = 0 := by simp [List.getD, List.getElem?_take, hlt]
          rw [this] at h
          simp at h

theorem wpO_mono {d : Bool} {o : SO} {k k' : Tm → Hp → Prop} (hk : ∀ T H, k T H → k' T H) (h : wpO P G d o T H k) : wpO P G d o T H k' := by
  unfold wpO at h ⊢
  cases hg : o.guard with
  | none => rw [hg] at h; exact stepO_mono (fun v H => hk _ _) h
  | some q =>
    obtain ⟨t, want⟩ := q
    rw [hg] at h
    simp only at h ⊢
    have hs := fun h => stepO_mono (P := P) (G := G) (d := d) (o := o.op) (T := T) (H := H) (k1 := fun v H => k (T.put o.dst v) H) (k2 := fun v H => k' (T.put o.dst v) H) (fun v H => hk _ _) h
    generalize T.get t = V at *
    cases V with
    | c c =>
      cases c with
      | p v =>
        cases v with
        | bool b => cases want <;> cases b <;> first | exact hs h | exact hk _ _ h
        | _ => exact h.elim
      | _ => exact h.elim
    | tup vs =>
      cases vs with
      | nil => exact hk _ _ h
      | cons => exact h.elim
    | _ => exact h.elim

def rest (n : Nat) (L : Array Bool) : List Nat := (List.range n).filter fun i => !L.getD i true

theorem rest_split {n i : Nat} {L : Array Bool} (hi : i < n) (hL : L.size = n) (hf : L.getD i true = false) : ∃ p q, rest n L = p ++ i :: q ∧ rest n (L.setIfInBounds i true) = p ++ q ∧ (∀ a ∈ p, a < i ∧ L.getD a true = false) := by
  have hr : List.range n = List.range' 0 i ++ i :: List.range' (i + 1) (n - i - 1) := by
    rw [List.range_eq_range']
    have : n = i + ((n - i - 1) + 1) := by omega
    conv => lhs; rw [this]
    rw [← List.range'_append_1, Nat.zero_add, List.range'_succ]
  refine ⟨(List.range' 0 i).filter (fun i => !L.getD i true), (List.range' (i + 1) (n - i - 1)).filter (fun i => !L.getD i true), ?_, ?_, fun a ha => ?_⟩
  · unfold rest
    rw [hr, List.filter_append, List.filter_cons]
    simp [hf]
  · unfold rest
    rw [hr, List.filter_append, List.filter_cons]
    have hs : (L.setIfInBounds i true).getD i true = true := by simp [Array.getD_eq_getD_getElem?, hL, hi]
    simp only [hs, Bool.not_true, Bool.false_eq_true, if_false]
    congr 1
    · apply List.filter_congr
      intro x hx
      simp only [List.mem_range'_1] at hx
      simp [Array.getD_eq_getD_getElem?, Array.getElem?_setIfInBounds_ne (show i ≠ x by omega)]
    · apply List.filter_congr
      intro x hx
      simp only [List.mem_range'_1] at hx
      simp [Array.getD_eq_getD_getElem?, Array.getElem?_setIfInBounds_ne (show i ≠ x by omega)]
  · obtain ⟨h1, h2⟩ := List.mem_filter.1 ha
    simp only [List.mem_range'_1] at h1
    exact ⟨by omega, by simpa using h2⟩

theorem getD_tf {L : Array Bool} {i n : Nat} (hL : L.size = n) (hi : i < n) (b : Bool) : L.getD i true = b ↔ L.getD i false = b := by
  simp [Array.getD_eq_getD_getElem?, hL, hi]

theorem linearise_lt {ops : Array Oper} : ∀ (fuel t : Nat) (L : Array Bool), ∀ j ∈ Region.linearise.go .any ops fuel t L [], j < ops.size
  | 0, t, L => fun j hj => by simp [Region.linearise.go] at hj
  | fuel + 1, t, L => fun j hj => by
    simp only [Region.linearise.go] at hj
    split at hj
    · rename_i i hi
      rw [linearise_go_acc] at hj
      rcases List.mem_append.1 hj with hj | hj
      · simp at hj
        subst hj
        have := List.mem_of_getElem? hi
        exact List.mem_range.1 (List.mem_filter.1 this).1
      · exact linearise_lt fuel _ _ j hj
    · simp at hj

theorem Evo.drew (φ : Pl) (H : Hp) (F : Cl) (w : World) (n : Nat) : Evo φ H F w φ H F { w with drawn := n } where
  os := rfl
  tape := rfl
  output := rfl
  size := Nat.le_refl _
  keep := fun _ _ _ => rfl
  kp := ⟨fun _ _ h => h, fun _ _ _ => rfl⟩
  newF := fun _ _ h => .inl h
  new := fun _ _ h => .inl h
  be := fun id b h => ⟨b, h, BE.refl φ id b⟩
  shp := fun _ _ => rfl
  npar := rfl

theorem draw_go {ops : Array Oper} {ss : List SO} (hlen : ops.size = ss.length) (hd : drawOK ops.toList ss = true) {k : Tm → Hp → Prop} (hk : KR k) : ∀ (fuel t : Nat) (L : Array Bool) (T : Tm) (H : Hp), L.size = ops.size → Closed ops.toList L → (rest ops.size L).length ≤ fuel →
    wpL P G true ((rest ops.size L).filterMap (ss[·]?)) T H k → wpL P G true ((Region.linearise.go .any ops fuel t L []).filterMap (ss[·]?)) T H k ∧ ∀ i ∈ Region.linearise.go .any ops fuel t L [], i < ops.size
  | 0, t, L, T, H, hL, hc, hf, h => by
    have : rest ops.size L = [] := List.eq_nil_of_length_eq_zero (by omega)
    rw [this] at h
    simpa [Region.linearise.go] using h
  | fuel + 1, t, L, T, H, hL, hc, hf, h => by
    simp only [Region.linearise.go]
    change wpL P G true ((match (Region.ready .any ops L)[t % (Region.ready .any ops L).length]? with
      | some i => Region.linearise.go .any ops fuel (t / (Region.ready .any ops L).length) (L.setIfInBounds i true) [i]
      | none => [].reverse).filterMap (ss[·]?)) T H k ∧ ∀ i ∈ (match (Region.ready .any ops L)[t % (Region.ready .any ops L).length]? with
      | some i => Region.linearise.go .any ops fuel (t / (Region.ready .any ops L).length) (L.setIfInBounds i true) [i]
      | none => [].reverse), i < ops.size
    have hdr : ∀ j, j < ops.size → ∃ oj sj bf, ops.toList[j]? = some oj ∧ ss[j]? = some sj ∧ (ancs [] ops.toList)[j]? = some bf ∧ (∀ e ∈ oj.after.toList, Region.binds .any e = true → e.on < j) ∧
        ∀ i, i < j → bf.testBit i = true ∨ ∃ si, ss[i]? = some si ∧ si.op.ro = true ∧ sj.op.ro = true ∧ apartS si sj = true := by
      intro j hj
      have := List.all_eq_true.1 hd j (by simpa using hj)
      split at this
      · rename_i oj sj bf h1 h2 h3
        simp only [Bool.and_eq_true, List.all_eq_true] at this
        refine ⟨oj, sj, bf, h1, h2, h3, fun e he hb => ?_, fun i hi => ?_⟩
        · have := this.1 e he
          simpa [hb] using this
        · have := this.2 i (by simpa using hi)
          simp only [Bool.or_eq_true] at this
          rcases this with h | h
          · exact .inl h
          · right
            split at h
            · rename_i si hsi
              simp only [Bool.and_eq_true] at h
              exact ⟨si, hsi, h.1.1, h.1.2, h.2⟩
            · cases h
      · cases this
    have hmem : ∀ i, i ∈ Region.ready .any ops L ↔ i < ops.size ∧ L.getD i true = false ∧ ∃ o, ops[i]? = some o ∧ ∀ e ∈ o.after.toList, Region.binds .any e = true → L.getD e.on false = true := by
      intro i
      unfold Region.ready
      rw [List.mem_filter, List.mem_range]
      constructor
      · rintro ⟨h1, h2⟩
        simp only [Bool.and_eq_true, Bool.not_eq_true'] at h2
        have ho : ops[i]? = some ops[i] := Array.getElem?_eq_getElem h1
        refine ⟨h1, h2.1, _, ho, fun e he hb => ?_⟩
        have h3 := h2.2
        rw [ho] at h3
        simp only [Option.map_some, Option.getD_some, Array.all_eq_true] at h3
        obtain ⟨q, hq, hqe⟩ := List.mem_iff_getElem.1 he
        have := h3 q (by simpa using hq)
        have hqe' : ops[i].after[q] = e := by rw [← hqe]; simp
        rw [hqe'] at this
        simpa [hb] using this
      · rintro ⟨h1, h2, o, ho, h3⟩
        refine ⟨h1, ?_⟩
        rw [ho]
        simp only [Bool.and_eq_true, Bool.not_eq_true', Option.map_some, Option.getD_some, Array.all_eq_true]
        refine ⟨h2, fun q hq => ?_⟩
        by_cases hb : Region.binds .any o.after[q] = true
        · simp [hb, h3 o.after[q] (by simp) hb]
        · simp [hb]
    cases hi : (Region.ready .any ops L)[t % (Region.ready .any ops L).length]? with
    | none =>
      have hnil : Region.ready .any ops L = [] := by
        cases hr : Region.ready .any ops L with
        | nil => rfl
        | cons x xs =>
          rw [hr] at hi
          have hlt : t % (x :: xs).length < (x :: xs).length := Nat.mod_lt _ (by simp)
          rw [List.getElem?_eq_getElem hlt] at hi
          cases hi
      have hrest : rest ops.size L = [] := by
        cases hr : rest ops.size L with
        | nil => rfl
        | cons m ms =>
          exfalso
          have hm : m ∈ rest ops.size L := by rw [hr]; simp
          obtain ⟨hm1, hm2⟩ := List.mem_filter.1 hm
          simp only [List.mem_range] at hm1
          have hsort : ∀ a, a < m → a < ops.size → L.getD a true = true := by
            intro a ha hlt
            cases hb : L.getD a true with
            | true => rfl
            | false =>
              exfalso
              have hmem' : a ∈ rest ops.size L := List.mem_filter.2 ⟨by simpa using hlt, by simp [hb]⟩
              have hs : (rest ops.size L).Pairwise (· < ·) := List.Pairwise.filter _ List.pairwise_lt_range
              rw [hr] at hs hmem'
              rcases List.mem_cons.1 hmem' with rfl | h'
              · omega
              · have := (List.pairwise_cons.1 hs).1 a h'; omega
          obtain ⟨om, sm, bf, h1, h2, h3, h4, h5⟩ := hdr m hm1
          have : m ∈ Region.ready .any ops L := (hmem m).2 ⟨hm1, by simpa using hm2, om, by simpa using h1, fun e he hb => by
            have hlt := h4 e he hb
            exact (getD_tf hL (by omega) true).1 (hsort e.on hlt (by omega))⟩
          rw [hnil] at this
          cases this
      rw [hrest] at h
      simpa using h
    | some i =>
      simp only []
      have him := List.mem_of_getElem? hi
      obtain ⟨h1, h2, o, ho, h3⟩ := (hmem i).1 him
      obtain ⟨p, q, e1, e2, e3⟩ := rest_split h1 hL h2
      obtain ⟨oi, si, bf, d1, d2, d3, d4, d5⟩ := hdr i h1
      obtain rfl : oi = o := by simp at d1; rw [ho] at d1; cases d1; rfl
      rw [linearise_go_acc, List.reverse_singleton, List.singleton_append, List.filterMap_cons, d2]
      rw [e1, List.filterMap_append, List.filterMap_cons, d2] at h
      have hb := bubble (x := si) hk (p.filterMap (ss[·]?)) (q.filterMap (ss[·]?)) (fun a ha => by
        obtain ⟨j, hj, hja⟩ := List.mem_filterMap.1 ha
        obtain ⟨hji, hjl⟩ := e3 j hj
        rcases d5 j hji with hbit | ⟨sj, g1, g2, g3, g4⟩
        · exfalso
          have := anc_listed hc i oi d1 h3 j bf d3 hbit
          have hjl' := (getD_tf hL (by omega) false).1 hjl
          rw [this] at hjl'
          cases hjl'
        · rw [hja] at g1; cases g1; exact ⟨g2, g3, g4⟩) h
      rw [← List.filterMap_append, ← e2] at hb
      have hc' : Closed ops.toList (L.setIfInBounds i true) := by
        intro s os hs hsl e he hbn
        have key : L.getD e.on false = true → (L.setIfInBounds i true).getD e.on false = true := by
          intro hh
          by_cases hei : i = e.on
          · subst hei; simp [Array.getD_eq_getD_getElem?, hL, h1]
          · simpa [Array.getD_eq_getD_getElem?, Array.getElem?_setIfInBounds_ne hei] using hh
        by_cases hsi : i = s
        · subst hsi
          rw [d1] at hs
          cases hs
          exact key (h3 e he hbn)
        · apply key
          refine hc s os hs ?_ e he hbn
          simpa [Array.getD_eq_getD_getElem?, Array.getElem?_setIfInBounds_ne hsi] using hsl
      have hlen' : (rest ops.size (L.setIfInBounds i true)).length ≤ fuel := by
        rw [e2]
        rw [e1] at hf
        simp only [List.length_append, List.length_cons] at hf ⊢
        omega
      have ih := fun T H h => draw_go hlen hd hk fuel (t / (Region.ready .any ops L).length) (L.setIfInBounds i true) T H (by simpa using hL) hc' hlen' h
      refine ⟨wpO_mono (fun T H h => (ih T H h).1) hb, ?_⟩
      intro j hj
      rcases List.mem_cons.1 hj with rfl | hj
      · exact h1
      · exact linearise_lt _ _ _ j hj

theorem SemI.kr {x : Item} {K : Ex → Tm → Hp → Prop} (h : SemI P G N x T H fun e T H => ∃ T0, K e T0 H ∧ Teq T0 T) : SemI P G N x T H K := by
  intro φ F w fr k cs base hp
  obtain ⟨e, T', H', φ', F', w', tmps', ds', ⟨T0, h1, h1'⟩, h2, h3, h4⟩ := h φ F w fr k cs base hp
  exact ⟨e, T0, H', φ', F', w', tmps', ds', h1, h2, h3.sub fun t => .inr (h1' t), h4⟩

theorem wpL_mono {d : Bool} {k k' : Tm → Hp → Prop} (hk : ∀ T H, k T H → k' T H) : ∀ (l : List SO) {T : Tm} {H : Hp}, wpL P G d l T H k → wpL P G d l T H k'
  | [], _, _, h => hk _ _ h
  | _ :: l, _, _, h => wpO_mono (fun _ _ => wpL_mono hk l) h

/-- A region whose order is open. -/
theorem sem_region_draw (hm : P.follows .mixedOrders = true) {id : Nat} {ops : Array Oper} {ss : List SO} (hcomp : compOps P N ops.toList ops.toList = some ss) (hd : drawOK ops.toList ss = true) {K : Ex → Tm → Hp → Prop} (h : wpL P G true ss T H (K .norm)) : SemC P G N (.region id ops true) T H K := by
  refine SemI.kr fun φ F w fr k cs base hp => ?_
  have hl := (compOps_get hcomp).1
  simp only [Array.length_toList] at hl
  let K' : Tm → Hp → Prop := fun T H => ∃ T0, K .norm T0 H ∧ Teq T0 T
  have hk : KR K' := fun T T' H e ⟨T0, h1, h2⟩ => ⟨T0, h1, fun t => (h2 t).trans (e t)⟩
  have hr : rest ops.size (Array.replicate ops.size false) = List.range ops.size := by
    unfold rest
    rw [List.filter_eq_self]
    intro a ha
    simp only [List.mem_range] at ha
    simp [Array.getD_eq_getD_getElem?, ha]
  have hss : (rest ops.size (Array.replicate ops.size false)).filterMap (ss[·]?) = ss := by
    rw [hr, List.range_eq_range', filterMap_range ops.size 0 (by omega)]
    rfl
  have h' : wpL P G true ((rest ops.size (Array.replicate ops.size false)).filterMap (ss[·]?)) T H K' := by
    rw [hss]
    exact wpL_mono (fun T H h => ⟨T, h, fun _ => rfl⟩) ss h
  have hclosed : Closed ops.toList (Array.replicate ops.size false) := by
    intro s o hs hsl
    exfalso
    by_cases hlt : s < ops.size
    · simp [Array.getD_eq_getD_getElem?, hlt] at hsl
    · simp [Array.getD_eq_getD_getElem?, hlt] at hsl
  -- the draw
  let t := w.tape w.drawn (.order fr.fn id)
  let w1 : World := { w with drawn := w.drawn + 1 }
  obtain ⟨g1, g2⟩ := draw_go (P := P) (G := G) hl hd hk ops.size t _ T H (by simp) hclosed (by rw [hr]; simp) h'
  have E1 : Evo φ H F w φ H F w1 := Evo.drew φ H F w _
  have hp1 : Pre G N base φ H F w1 T fr :=
    { run := hp.run, size := hp.size, defers := hp.defers.evo hp.srel E1, round := hp.round.evo hp.srel E1, base := hp.base
      srel := ⟨hp.srel.inj, hp.srel.dom, hp.srel.has, fun i b hb => BR.evo E1 rfl (fun _ _ => rfl) (fun _ _ _ => Iff.rfl) (hp.srel.blk i b hb), fun g cs hg => (hp.srel.glob g cs hg).keeps E1.kp, hp.srel.fin⟩
      trel := hp.trel.evo E1 }
  obtain ⟨T', H', φ', F', w', tmps', q1, q2, q3, q4⟩ := wpL_goes hcomp (Region.linearise .any ops t) k cs g2 g1 hp1
  refine ⟨.norm, T', H', φ', F', w', tmps', fr.defers, q1, E1.trans q2, q3, Steps.head ?_ q4⟩
  have hsch : Region.schedule (P.follows .mixedOrders) ops t = Region.linearise .any ops t := by simp [Region.schedule, hm]
  exact step_lone_go (by
    simp only [stepG, hp.run]
    simp [stepG.exec, choose, Sem.run, Question.forced, Question.cut, ← hsch, t, w1])
end
end Go.Ab

namespace Go.Ab
open Go

def idsC : C → List Id
  | .ptr i _ => [i]
  | .ap i _ _ _ => [i]
  | .os i _ => [i]
  | .fn _ caps => caps
  | .bp _ i _ => [i]
  | .ms i _ => [i]
  | _ => []
def idsA : AV → List Id
  | .c c => idsC c
  | .mg cs => cs.flatMap idsC
  | _ => []

/-- What an operation does to the heap of abstract blocks. -/
inductive Eff where
  | keep
  | set (id : Id) (b : Blk)
  | add (b : Blk)

def Eff.app : Eff → Hp → Hp
  | .keep, H => H
  | .set id b, H => H.set id b
  | .add b, H => H.add b

structure SameLen (H H' : Hp) : Prop where
  par : H'.par.length = H.par.length
  loc : H'.loc.length = H.loc.length

def saM : Option SA → List SA
  | some a => [a]
  | none => []

/-- An operation's operands. -/
def saO : SOp → List SA
  | .box a | .load _ _ a | .un _ a | .cInt _ a | .cStr a | .cBytes a | .cString a | .fldv _ _ _ a | .ext a _ | .len _ a | .isnil _ a => [a]
  | .pick c a b => [c, a, b]
  | .move _ | .alloc _ | .lenArr _ | .bad | .fld .. | .ixArr .. | .chk _ => []
  | .build _ ps => ps.map fun q => q.2.2
  | .lit _ ps | .fn _ ps | .bnd _ ps => ps
  | .store _ a b | .bin _ a b | .sh _ a b | .eq _ _ a b | .mkSl _ _ _ a b | .ixSl _ a b | .ixAgg _ _ _ a b | .ixStr a b | .app _ _ _ a b | .max a b | .min a b => [a, b]
  | .slStr a l h => a :: (saM l ++ saM h)
  | .slSl _ a l h m => a :: (saM l ++ saM h ++ saM m)
  | .call _ f args => f :: args

def rdO (G : Gl) (o : SOp) (T : Tm) : List Id := (saO o).flatMap fun s => idsA (evS G T s)

def SOp.adds : SOp → Bool
  | .alloc _ | .box _ | .app .. | .mkSl .. => true
  | _ => false

/-- Which blocks an operation may write. -/
def wrO (G : Gl) (slot : Id) (o : SOp) (T : Tm) : List Id :=
  match o with
  | .store _ a _ => idsA (evS G T a)
  | .slSl _ a _ _ _ => idsA (evS G T a)
  | .app _ _ _ a _ => slot :: idsA (evS G T a)
  | .alloc _ | .box _ | .mkSl .. => [slot]
  | _ => []

/-- Which operations go in a region whose order is open. -/
def okM (G : Gl) (o : SOp) (T : Tm) : Bool :=
  match o with
  | .lit _ ps => (ps.map (evS G T)).all pureV1
  | .call .. => false
  | _ => true

section
variable {P : Program} {G : Gl} {N : Nat} {φ φ' : Pl} {H H' : Hp} {F F' : Cl} {w w' : World} {T T' : Tm}

theorem elemsA_eff {c : C} {H2 : Hp} (ha : ∀ i ∈ idsC c, H2.get i = H.get i) : elemsA H2 c = elemsA H c := by
  cases c with
  | os id n => simp only [elemsA]; rw [ha id (by simp [idsC])]
  | p v => cases v <;> rfl
  | _ => rfl

theorem freezeA_pure1 {a : AV} (h : pureV1 a = true) (H : Hp) : freezeA H a = some (true, a, H) := by
  cases a with
  | c c => cases c <;> simp [pureV1] at h; rfl
  | agg cs => rfl
  | _ => simp [pureV1] at h

theorem ptrs1_pure : ∀ {vs : List AV} {cs : List C}, vs.all pureV1 = true → ptrs1 vs = some cs → vs = []
  | [], _, _, _ => rfl
  | v :: r, cs, hv, h => by
    rw [List.all_cons, Bool.and_eq_true] at hv
    unfold ptrs1 at h
    split at h
    · cases ‹v :: r = []›
    · rename_i e
      cases e
      cases hv.1
    · rename_i e
      cases e
      cases hv.1
    · cases h
theorem litP_pure {n : Nat} {vs : List AV} {H : Hp} {r : Res} (hv : vs.all pureV1 = true) (h : litP n H vs = some r) : litS n H vs ≠ none := by
  unfold litP at h
  split at h
  · rename_i hp
    rw [ptrs1_pure hv hp]
    exact fun e => by cases e
  · cases h
theorem litS_pure {n : Nat} : ∀ {vs : List AV} {H : Hp} {b : Bool} {l : List (List PV)} {H' : Hp}, vs.all pureV1 = true → litS n H vs = some (b, l, H') → H' = H ∧ ∀ H2, litS n H2 vs = some (b, l, H2)
  | [], H, b, l, H', _, h => by
    simp only [litS, Option.some.injEq, Prod.mk.injEq] at h
    obtain ⟨rfl, rfl, rfl⟩ := h
    exact ⟨rfl, fun _ => rfl⟩
  | v :: vs, H, b, l, H', hp, h => by
    simp only [List.all_cons, Bool.and_eq_true] at hp
    simp only [litS, freezeA_pure1 hp.1] at h
    split at h
    · rename_i cs b' l' H1 h1 h2
      simp only [Option.some.injEq, Prod.mk.injEq] at h
      obtain ⟨rfl, rfl, rfl⟩ := h
      obtain ⟨rfl, h3⟩ := litS_pure hp.2 h2
      exact ⟨rfl, fun H2 => by simp only [litS, freezeA_pure1 hp.1, h1, h3 H2]⟩
    · cases h

theorem resOf_eff {r : Option (Bool × AV)} {p : Bool} {v : AV} (h : resOf H r = some ⟨p, v, H'⟩) : H' = H ∧ ∀ H2, resOf H2 r = some ⟨p, v, H2⟩ := by
  unfold resOf at h
  split at h
  · simp only [Option.some.injEq, Res.mk.injEq] at h
    obtain ⟨rfl, rfl, rfl⟩ := h
    exact ⟨rfl, fun _ => rfl⟩
  · cases h

theorem loadS_eff {agg : Bool} {n : Nat} {a : AV} {p : Bool} {v : AV} (h : loadS agg n a H = some ⟨p, v, H'⟩) : H' = H ∧ ∀ H2, (∀ i ∈ idsA a, H2.get i = H.get i) → loadS agg n a H2 = some ⟨p, v, H2⟩ := by
  cases a with
  | c c =>
    cases c with
    | rp cs => obtain ⟨h1, h2⟩ := resOf_eff h; exact ⟨h1, fun H2 _ => h2 H2⟩
    | ptr id o =>
      simp only [loadS] at h ⊢
      split at h
      · rename_i cs hg; obtain ⟨h1, h2⟩ := resOf_eff h; exact ⟨h1, fun H2 ha => by rw [ha id (by simp [idsA, idsC]), hg]; exact h2 H2⟩
      · rename_i cs hg; obtain ⟨h1, h2⟩ := resOf_eff h; exact ⟨h1, fun H2 ha => by rw [ha id (by simp [idsA, idsC]), hg]; exact h2 H2⟩
      · cases h
    | ap id m i o =>
      simp only [loadS] at h ⊢
      split at h
      · rename_i sz fz es hg
        split at h
        · rename_i cs hc
          split at h
          · rename_i b v' hp
            simp only [Option.some.injEq, Res.mk.injEq] at h
            obtain ⟨rfl, rfl, rfl⟩ := h
            exact ⟨rfl, fun H2 ha => by rw [ha id (by simp [idsA, idsC]), hg]; simp only [hc, hp]⟩
          · cases h
        · cases h
      · cases h
    | _ => simp [loadS] at h
  | _ => simp [loadS] at h

def stR (n o : Nat) (v : AV) (b : Option Blk) : Option (Bool × Blk) :=
  match b, v with
  | some (.row cs), .c (.p u) => some (decide (n = 1 ∧ o + 1 ≤ cs.length), .row (putAt cs o [u]))
  | some (.row cs), .agg us => some (decide (n = us.length ∧ o + us.length ≤ cs.length), .row (putAt cs o us))
  | some (.row cs), .c u => some (decide (n = 1 ∧ o + 1 ≤ cs.length), .mrow (putAt (cs.map .p) o [u]))
  | some (.row cs), .mg us => some (decide (n = us.length ∧ o + us.length ≤ cs.length), .mrow (putAt (cs.map .p) o us))
  | some (.mrow cs), .c u => some (decide (n = 1 ∧ o + 1 ≤ cs.length), .mrow (putAt cs o [u]))
  | some (.mrow cs), .agg us => some (decide (n = us.length ∧ o + us.length ≤ cs.length), .mrow (putAt cs o (us.map .p)))
  | some (.mrow cs), .mg us => some (decide (n = us.length ∧ o + us.length ≤ cs.length), .mrow (putAt cs o us))
  | _, _ => none
def stA (n m i o : Nat) (v : AV) (b : Option Blk) : Option (Bool × Blk) :=
  match b, v with
  | some (.arr sz false es), .c (.p u) => match es[i]? with
    | some cs => some (decide (n = 1 ∧ o + 1 ≤ cs.length ∧ m = es.length), .arr sz false (es.set i (putAt cs o [u])))
    | none => none
  | some (.arr sz false es), .agg us => match es[i]? with
    | some cs => some (decide (n = us.length ∧ o + us.length ≤ cs.length ∧ m = es.length), .arr sz false (es.set i (putAt cs o us)))
    | none => none
  | _, _ => none
def stRes (H : Hp) (id : Id) : Option (Bool × Blk) → Option Res
  | some (p, b) => some ⟨p, .tup [], H.set id b⟩
  | none => none

theorem storeS_ptr (n : Nat) (id : Id) (o : Nat) (v : AV) (H : Hp) : storeS n (.c (.ptr id o)) v H = stRes H id (stR n o v (H.get id)) := by
  simp only [storeS, stR]
  cases H.get id with
  | none => cases v <;> first | rfl | (rename_i c; cases c <;> rfl)
  | some b => cases b <;> cases v <;> first | rfl | (rename_i c; cases c <;> rfl)

theorem storeS_ap (n : Nat) (id : Id) (m i o : Nat) (v : AV) (H : Hp) : storeS n (.c (.ap id m i o)) v H = stRes H id (stA n m i o v (H.get id)) := by
  simp only [storeS, stA]
  cases H.get id with
  | none => cases v <;> first | rfl | (rename_i c; cases c <;> rfl)
  | some b =>
    cases b with
    | arr sz fz es =>
      cases fz with
      | true => cases v <;> first | rfl | (rename_i c; cases c <;> rfl)
      | false =>
        cases v with
        | c c => cases c <;> first | rfl | (dsimp only; cases es[i]? <;> rfl)
        | agg us => dsimp only; cases es[i]? <;> rfl
        | _ => rfl
    | _ => cases v <;> first | rfl | (rename_i c; cases c <;> rfl)

theorem stRes_eff {id : Id} {r : Option (Bool × Blk)} {p : Bool} {v : AV} (h : stRes H id r = some ⟨p, v, H'⟩) : ∃ b, r = some (p, b) ∧ v = .tup [] ∧ H' = H.set id b := by
  unfold stRes at h
  split at h
  · simp only [Option.some.injEq, Res.mk.injEq] at h
    obtain ⟨rfl, rfl, rfl⟩ := h
    exact ⟨_, rfl, rfl, rfl⟩
  · cases h

theorem storeS_eff {n : Nat} {a u : AV} {p : Bool} {v : AV} (h : storeS n a u H = some ⟨p, v, H'⟩) : ∃ id b, id ∈ idsA a ∧ (H.get id).isSome ∧ H' = H.set id b ∧ ∀ H2, (∀ i ∈ idsA a, H2.get i = H.get i) → storeS n a u H2 = some ⟨p, v, H2.set id b⟩ := by
  cases a with
  | c c =>
    cases c with
    | ptr id o =>
      rw [storeS_ptr] at h
      obtain ⟨b, h1, rfl, rfl⟩ := stRes_eff h
      refine ⟨id, b, by simp [idsA, idsC], ?_, rfl, fun H2 ha => by rw [storeS_ptr, ha id (by simp [idsA, idsC]), h1]; rfl⟩
      cases hg : H.get id with
      | none => rw [hg] at h1; simp [stR] at h1
      | some b => rfl
    | ap id m i o =>
      rw [storeS_ap] at h
      obtain ⟨b, h1, rfl, rfl⟩ := stRes_eff h
      refine ⟨id, b, by simp [idsA, idsC], ?_, rfl, fun H2 ha => by rw [storeS_ap, ha id (by simp [idsA, idsC]), h1]; rfl⟩
      cases hg : H.get id with
      | none => rw [hg] at h1; simp [stA] at h1
      | some b => rfl
    | _ => simp [storeS] at h
  | _ => simp [storeS] at h

theorem ixSl_eff {m : Nat} {a i : AV} {p : Bool} {v : AV} (h : ixSl m a i H = some ⟨p, v, H'⟩) : H' = H ∧ ∀ H2, (∀ i ∈ idsA a, H2.get i = H.get i) → ixSl m a i H2 = some ⟨p, v, H2⟩ := by
  unfold ixSl at h ⊢
  split at h
  · rename_i id n k x
    split at h
    · rename_i sz fz es hg
      simp only [Option.some.injEq, Res.mk.injEq] at h
      obtain ⟨rfl, rfl, rfl⟩ := h
      exact ⟨rfl, fun H2 ha => by simp only [ha id (by simp [idsA, idsC]), hg]⟩
    · cases h
  all_goals first
    | (cases h; done)
    | (simp only [Option.some.injEq, Res.mk.injEq] at h
       obtain ⟨rfl, rfl, rfl⟩ := h
       exact ⟨rfl, fun _ _ => rfl⟩)
    | (split at h
       · rename_i hg
         simp only [Option.some.injEq, Res.mk.injEq] at h
         obtain ⟨rfl, rfl, rfl⟩ := h
         exact ⟨rfl, fun H2 _ => by simp only [hg]⟩
       · cases h)

theorem srcA_eff {str : Bool} {a : AV} {H2 : Hp} (ha : ∀ i ∈ idsA a, H2.get i = H.get i) : srcA str H2 a = srcA str H a := by
  cases a with
  | c c =>
    cases str with
    | false => exact elemsA_eff ha
    | true => cases c <;> first | rfl | (rename_i v; cases v <;> rfl)
  | _ => cases str <;> rfl

theorem appS_eff {sz bytes : Nat} {str : Bool} {a b : AV} {p : Bool} {v : AV} (h : appS sz bytes str a b H = some ⟨p, v, H'⟩) : ∃ e : Eff, H' = e.app H ∧
    (∀ H2, SameLen H H2 → (∀ i, i ∈ idsA a ∨ i ∈ idsA b → H2.get i = H.get i) → appS sz bytes str a b H2 = some ⟨p, v, e.app H2⟩) ∧
    (∀ id b, e = .set id b → id ∈ idsA a ∧ (H.get id).isSome) := by
  unfold appS at h
  have hn : ∀ {H2 : Hp}, SameLen H H2 → H2.nid = H.nid := fun hs => by simp [Hp.nid, hs.loc]
  split at h
  · rename_i pb new hs
    simp only [Option.some.injEq, Res.mk.injEq] at h
    obtain ⟨rfl, rfl, rfl⟩ := h
    refine ⟨.add (.arr sz false new), rfl, fun H2 hl ha => ?_, fun id b e => by cases e⟩
    unfold appS
    rw [srcA_eff fun i hi => ha i (.inr hi), hs]
    simp only [hn hl]; rfl
  · rename_i pb new hs
    simp only [Option.some.injEq, Res.mk.injEq] at h
    obtain ⟨rfl, rfl, rfl⟩ := h
    refine ⟨.add (.arr sz false new), rfl, fun H2 hl ha => ?_, fun id b e => by cases e⟩
    unfold appS
    rw [srcA_eff fun i hi => ha i (.inr hi), hs]
    simp only [hn hl]; rfl
  · rename_i pb e1 es hs
    simp only [Option.some.injEq, Res.mk.injEq] at h
    obtain ⟨rfl, rfl, rfl⟩ := h
    refine ⟨.keep, rfl, fun H2 hl ha => ?_, fun id b e => by cases e⟩
    unfold appS
    rw [srcA_eff fun i hi => ha i (.inr hi), hs]
    rfl
  · rename_i pb new es hne hne0 hs
    simp only [Option.some.injEq, Res.mk.injEq] at h
    obtain ⟨rfl, rfl, rfl⟩ := h
    refine ⟨.add (.arr sz false (es ++ new)), rfl, fun H2 hl ha => ?_, fun id b e => by cases e⟩
    unfold appS
    rw [srcA_eff fun i hi => ha i (.inr hi), hs]
    cases es with
    | nil => exact absurd rfl hne
    | cons e es => simp only [hn hl]; rfl
  · rename_i pb new id n hs
    split at h
    · rename_i sz' fz es hg
      simp only [Option.some.injEq, Res.mk.injEq] at h
      obtain ⟨rfl, rfl, rfl⟩ := h
      refine ⟨.set id (.arr sz fz (es ++ new)), rfl, fun H2 hl ha => ?_, fun id' b e => by cases e; exact ⟨by simp [idsA, idsC], by rw [hg]; rfl⟩⟩
      unfold appS
      rw [srcA_eff fun i hi => ha i (.inr hi), hs]
      simp only [ha id (.inl (by simp [idsA, idsC])), hg]; rfl
    · cases h
  · cases h

theorem slSl_eff {sz : Nat} {a : AV} {lo hi mx : Option AV} {p : Bool} {v : AV} (h : slSl sz a lo hi mx H = some ⟨p, v, H'⟩) : ∃ e : Eff, H' = e.app H ∧
    (∀ H2, (∀ i, i ∈ idsA a → H2.get i = H.get i) → slSl sz a lo hi mx H2 = some ⟨p, v, e.app H2⟩) ∧
    (∀ id b, e = .set id b → id ∈ idsA a ∧ (H.get id).isSome) ∧ ∀ b, e ≠ .add b := by
  cases a with
  | c c =>
    have key : ∃ e : Eff, (∀ H1, frz H c = some H1 → H1 = e.app H) ∧ (∀ H2, (∀ i, i ∈ idsC c → H2.get i = H.get i) → (frz H c).isSome → frz H2 c = some (e.app H2)) ∧ (∀ id b, e = .set id b → (frz H c).isSome → id ∈ idsC c ∧ (H.get id).isSome) ∧ ∀ b, e ≠ .add b := by
      cases c with
      | os id n =>
        simp only [frz]
        cases hg : H.get id with
        | none => exact ⟨.keep, fun H1 e => by simp at e, fun H2 ha e => by simp at e, fun _ _ e _ => (by cases e), fun b e => (by cases e)⟩
        | some b =>
          cases b with
          | arr sz fz es =>
            refine ⟨.set id (.arr sz true es), fun H1 e => by simp at e; exact e.symm, fun H2 ha _ => by rw [ha id (by simp [idsC]), hg]; rfl, fun id' b e _ => by cases e; exact ⟨by simp [idsC], by rw [hg]; rfl⟩, fun b e => by cases e⟩
          | _ => exact ⟨.keep, fun H1 e => by simp at e, fun H2 ha e => by simp at e, fun _ _ e _ => (by cases e), fun b e => (by cases e)⟩
      | _ => exact ⟨.keep, fun H1 e => by simp [frz] at e; exact e.symm, fun H2 _ _ => rfl, fun _ _ e _ => (by cases e), fun b e => (by cases e)⟩
    obtain ⟨e, k1, k2, k3, k4⟩ := key
    simp only [slSl] at h ⊢
    split at h
    · rename_i b es H1 he hf
      have hf' : (frz H c).isSome := by rw [hf]; rfl
      split at h
      all_goals first
        | (cases h; done)
        | (simp only [Option.some.injEq, Res.mk.injEq] at h
           obtain ⟨rfl, rfl, rfl⟩ := h
           exact ⟨e, k1 _ hf, fun H2 ha => by rw [elemsA_eff (c := c) ha, he, k2 H2 ha hf']; simp only [*], fun id b e' => k3 id b e' hf', k4⟩)
    · cases h
  | _ => simp [slSl] at h

theorem lenS_c {c : C} (hc : ∀ id n, c ≠ .ms id n) {H : Hp} : lenS false (.c c) H = match elemsA H c with
    | some (b, es) => some ⟨b, .c (.p (.int .i64 es.length)), H⟩
    | none => none := by
  cases c <;> first | rfl | exact absurd rfl (hc _ _)
theorem lenS_eff {str : Bool} {a : AV} {p : Bool} {v : AV} (h : lenS str a H = some ⟨p, v, H'⟩) : H' = H ∧ ∀ H2, (∀ i ∈ idsA a, H2.get i = H.get i) → lenS str a H2 = some ⟨p, v, H2⟩ := by
  cases a with
  | c c =>
    cases str with
    | false =>
      have key : (∃ id n, c = .ms id n) ∨ ∀ id n, c ≠ .ms id n := by cases c <;> simp
      rcases key with ⟨id, n, rfl⟩ | hc
      · simp only [lenS, Option.some.injEq, Res.mk.injEq] at h
        obtain ⟨rfl, rfl, rfl⟩ := h
        exact ⟨rfl, fun _ _ => rfl⟩
      · rw [lenS_c hc] at h
        split at h
        · rename_i b es he
          simp only [Option.some.injEq, Res.mk.injEq] at h
          obtain ⟨rfl, rfl, rfl⟩ := h
          exact ⟨rfl, fun H2 ha => by rw [lenS_c hc, elemsA_eff (c := c) ha, he]⟩
        · cases h
    | true =>
      cases c with
      | p v =>
        cases v with
        | str s =>
          simp only [lenS, Option.some.injEq, Res.mk.injEq] at h
          obtain ⟨rfl, rfl, rfl⟩ := h
          exact ⟨rfl, fun _ _ => rfl⟩
        | _ => simp [lenS] at h
      | _ => simp [lenS] at h
  | _ => cases str <;> simp [lenS] at h

theorem mkSl_eff {sz bytes : Nat} {zs : List PV} {l c : AV} {p : Bool} {v : AV} (h : mkSl sz bytes zs l c H = some ⟨p, v, H'⟩) : ∃ b, H' = H.add b ∧ ∀ H2, SameLen H H2 → mkSl sz bytes zs l c H2 = some ⟨p, v, H2.add b⟩ := by
  unfold mkSl at h
  split at h
  · simp only [Option.some.injEq, Res.mk.injEq] at h
    obtain ⟨rfl, rfl, rfl⟩ := h
    exact ⟨_, rfl, fun H2 hl => by unfold mkSl; simp only [Hp.nid, hl.loc]⟩
  · cases h

theorem ret_eff {x : AV} {p : Bool} {v : AV} (h : ret x H = some ⟨p, v, H'⟩) : H' = H ∧ ∀ H2, ret x H2 = some ⟨p, v, H2⟩ := by
  simp only [ret, Option.some.injEq, Res.mk.injEq] at h
  obtain ⟨rfl, rfl, rfl⟩ := h
  exact ⟨rfl, fun _ => rfl⟩

/-- An operation's effect, and that it hangs on what it names alone. -/
theorem opS_eff {o : SOp} (hok : okM G o T = true) {p : Bool} {v : AV} (h : opS G o T H = some ⟨p, v, H'⟩) : ∃ e : Eff, H' = e.app H ∧
    (∀ H2, SameLen H H2 → (∀ i ∈ rdO G o T, H2.get i = H.get i) → opS G o T H2 = some ⟨p, v, e.app H2⟩) ∧
    (∀ id b, e = .set id b → (∀ slot, id ∈ wrO G slot o T) ∧ (H.get id).isSome) ∧ (∀ b, e = .add b → o.adds = true) := by
  have keep : (H' = H ∧ ∀ H2, SameLen H H2 → (∀ i ∈ rdO G o T, H2.get i = H.get i) → opS G o T H2 = some ⟨p, v, H2⟩) → ∃ e : Eff, H' = e.app H ∧
    (∀ H2, SameLen H H2 → (∀ i ∈ rdO G o T, H2.get i = H.get i) → opS G o T H2 = some ⟨p, v, e.app H2⟩) ∧
    (∀ id b, e = .set id b → (∀ slot, id ∈ wrO G slot o T) ∧ (H.get id).isSome) ∧ (∀ b, e = .add b → o.adds = true) :=
    fun ⟨h1, h2⟩ => ⟨.keep, h1, h2, fun _ _ e => (by cases e), fun _ e => (by cases e)⟩
  have in1 : ∀ {s : SA}, s ∈ saO o → ∀ i ∈ idsA (evS G T s), i ∈ rdO G o T := fun hs i hi => List.mem_flatMap.2 ⟨_, hs, hi⟩
  cases o with
  | move a => exact keep ⟨(ret_eff h).1, fun H2 _ _ => (ret_eff h).2 H2⟩
  | pick c a b =>
    simp only [opS] at h
    split at h
    · rename_i t hc
      exact keep ⟨(ret_eff h).1, fun H2 _ _ => by simp only [opS, hc]; exact (ret_eff h).2 H2⟩
    · cases h
  | alloc b =>
    simp only [opS, ret, Option.some.injEq, Res.mk.injEq] at h
    obtain ⟨rfl, rfl, rfl⟩ := h
    exact ⟨.add b, rfl, fun H2 hl _ => by simp only [opS, ret, Hp.nid, hl.loc]; rfl, fun _ _ e => (by cases e), fun _ _ => rfl⟩
  | box a =>
    simp only [opS] at h
    split at h
    · rename_i b hb
      simp only [ret, Option.some.injEq, Res.mk.injEq] at h
      obtain ⟨rfl, rfl, rfl⟩ := h
      exact ⟨.add b, rfl, fun H2 hl _ => by simp only [opS, hb, ret, Hp.nid, hl.loc]; rfl, fun _ _ e => (by cases e), fun _ _ => rfl⟩
    · cases h
  | lit n ps =>
    simp only [opS] at h
    split at h
    · rename_i b es H1 hl
      simp only [Option.some.injEq, Res.mk.injEq] at h
      obtain ⟨rfl, rfl, rfl⟩ := h
      obtain ⟨h1, h2⟩ := litS_pure hok hl
      exact keep ⟨h1, fun H2 _ _ => by simp only [opS, h2 H2]⟩
    · rename_i hl
      exact absurd hl (litP_pure hok h)
  | load agg n a => exact keep ⟨(loadS_eff h).1, fun H2 _ ha => (loadS_eff h).2 H2 fun i hi => ha i (in1 (by simp [saO]) i hi)⟩
  | store n a u =>
    obtain ⟨id, b, h1, h2, h3, h4⟩ := storeS_eff (show storeS n (evS G T a) (evS G T u) H = _ from h)
    exact ⟨.set id b, h3, fun H2 _ ha => h4 H2 fun i hi => ha i (in1 (by simp [saO]) i hi), fun id' b' e => by cases e; exact ⟨fun _ => h1, h2⟩, fun _ e => by cases e⟩
  | ixSl n a i => exact keep ⟨(ixSl_eff h).1, fun H2 _ ha => (ixSl_eff h).2 H2 fun i hi => ha i (in1 (by simp [saO]) i hi)⟩
  | len str a => exact keep ⟨(lenS_eff h).1, fun H2 _ ha => (lenS_eff h).2 H2 fun i hi => ha i (in1 (by simp [saO]) i hi)⟩
  | app sz bytes str a b =>
    obtain ⟨e, h1, h2, h3⟩ := appS_eff (show appS sz bytes str (evS G T a) (evS G T b) H = _ from h)
    exact ⟨e, h1, fun H2 hl ha => h2 H2 hl fun i hi => ha i (hi.elim (in1 (by simp [saO]) i) (in1 (by simp [saO]) i)), fun id b e => ⟨fun slot => List.mem_cons_of_mem _ (h3 id b e).1, (h3 id b e).2⟩, fun _ _ => rfl⟩
  | mkSl sz bytes zs l c =>
    obtain ⟨b, h1, h2⟩ := mkSl_eff (show mkSl sz bytes zs (evS G T l) (evS G T c) H = _ from h)
    exact ⟨.add b, h1, fun H2 hl _ => h2 H2 hl, fun _ _ e => (by cases e), fun _ _ => rfl⟩
  | slSl sz a lo hi mx =>
    obtain ⟨e, h1, h2, h3, h4⟩ := slSl_eff (show slSl sz (evS G T a) _ _ _ H = _ from h)
    exact ⟨e, h1, fun H2 _ ha => h2 H2 fun i hi => ha i (in1 (by simp [saO]) i hi), fun id b e => ⟨fun slot => (h3 id b e).1, (h3 id b e).2⟩, fun b e => absurd e (h4 b)⟩
  | cString a =>
    simp only [opS] at h
    split at h
    · rename_i c hc
      simp only [bytesS] at h
      cases he : elemsA H c with
      | none => rw [he] at h; simp at h
      | some q =>
        obtain ⟨b, es⟩ := q
        rw [he] at h
        dsimp only at h
        cases hu : unbytes es with
        | none => rw [hu] at h; simp at h
        | some l =>
          rw [hu] at h
          simp only [Option.some.injEq, Res.mk.injEq] at h
          obtain ⟨rfl, rfl, rfl⟩ := h
          refine keep ⟨rfl, fun H2 _ ha => ?_⟩
          simp only [opS, hc, bytesS]
          rw [elemsA_eff (H := H) (fun i hi => ha i (in1 (s := a) (by simp [saO]) i (by rw [hc]; exact hi))), he]
          simp only [hu]
    · cases h
  | call p f args => simp [okM] at hok
  | bin op a b => exact keep ⟨(resOf_eff h).1, fun H2 _ _ => (resOf_eff h).2 H2⟩
  | sh op a b => exact keep ⟨(resOf_eff h).1, fun H2 _ _ => (resOf_eff h).2 H2⟩
  | fldv off agg n a =>
    refine keep ?_
    simp only [opS, fieldS] at h ⊢
    split at h
    · exact ⟨(resOf_eff h).1, fun H2 _ _ => (resOf_eff h).2 H2⟩
    · exact ⟨(resOf_eff h).1, fun H2 _ _ => (resOf_eff h).2 H2⟩
    · cases h
  | bnd g ps =>
    refine keep ?_
    have h : bndS g (ps.map (evS G T)) H = some ⟨p, v, H'⟩ := h
    refine ⟨?_, fun H2 _ _ => ?_⟩
    · unfold bndS at h
      repeat' split at h
      all_goals first | (cases h; done) | (simp only [ret, Option.some.injEq, Res.mk.injEq] at h; exact h.2.2.symm)
    · show bndS g (ps.map (evS G T)) H2 = _
      unfold bndS at h ⊢
      split at h
      · simp only [ret, Option.some.injEq, Res.mk.injEq] at h ⊢
        exact ⟨h.1, h.2.1, trivial⟩
      · split at h
        · rename_i l hl
          simp only [ret, Option.some.injEq, Res.mk.injEq] at h
          obtain ⟨rfl, rfl, rfl⟩ := h
          rfl
        · cases h
  | _ =>
    refine keep ?_
    simp only [opS, fieldAddrS, ixArr, ixAgg, ixStr, slStr] at h ⊢
    repeat' split at h
    all_goals first
      | (cases h; done)
      | (simp only [ret, Option.some.injEq, Res.mk.injEq] at h
         obtain ⟨rfl, rfl, rfl⟩ := h
         exact ⟨rfl, fun H2 _ _ => by simp_all [ret]⟩)
end
end Go.Ab

namespace Go.Ab
open Go

def C.ren (ρ : Id → Id) : C → C
  | .ptr i o => .ptr (ρ i) o
  | .ap i n j o => .ap (ρ i) n j o
  | .os i n => .os (ρ i) n
  | .fn g caps => .fn g (caps.map ρ)
  | .bp g i o => .bp g (ρ i) o
  | .ms i n => .ms (ρ i) n
  | c => c
def AV.ren1 (ρ : Id → Id) : AV → AV
  | .c u => .c (u.ren ρ)
  | .mg cs => .mg (cs.map (C.ren ρ))
  | a => a
def AV.ren (ρ : Id → Id) : AV → AV
  | .tup vs => .tup (vs.map (AV.ren1 ρ))
  | a => a.ren1 ρ
def Blk.ren (ρ : Id → Id) : Blk → Blk
  | .mrow cs => .mrow (cs.map (C.ren ρ))
  | b => b

def mvId (n s i : Id) : Id := match decide (i = n) with | true => s | false => i

def opM (G : Gl) (slot : Id) (o : SOp) (T : Tm) (H : Hp) : Option Res :=
  match okM G o T with
  | false => none
  | true => match opS G o T H with
    | none => none
    | some ⟨p, v, H'⟩ => match o.adds with
      | false => some ⟨p, v, H'⟩
      | true => match H'.loc.drop H.loc.length with
        | [] => some ⟨p, v, H'⟩
        | b :: _ => match H.get slot with
          | some .hole => some ⟨p, v.ren (mvId H.nid slot), H.set slot (b.ren (mvId H.nid slot))⟩
          | _ => none

section
variable {P : Program} {G : Gl} {N : Nat} {φ φ' φ1 φ2 : Pl} {H H' H1 H2 : Hp} {F F' : Cl} {w w' : World} {T T' : Tm} {ρ : Id → Id}

theorem ren_isRow {b : Blk} : (b.ren ρ).isRow = b.isRow := by cases b <;> rfl

theorem CR.ren (R : ∀ i c, H1.get i = some c → c ≠ .hole → H2.get (ρ i) = some (c.ren ρ) ∧ φ2 (ρ i) = φ1 i) {c : C} {x : Value} (h : CR φ1 H1 F w c x) : CR φ2 H2 F w (c.ren ρ) x := by
  cases c with
  | ptr id o =>
    obtain ⟨b, r, h1, h2, h3, h4⟩ := h
    obtain ⟨r1, r2⟩ := R id b h1 (by rintro rfl; simp [Blk.isRow] at h2)
    exact ⟨_, r, r1, by rw [ren_isRow]; exact h2, r2.trans h3, h4⟩
  | ap id n i o =>
    obtain ⟨sz, fz, es, b, k, h1, h2, h3, h4⟩ := h
    obtain ⟨r1, r2⟩ := R id _ h1 (by simp)
    exact ⟨sz, fz, es, b, k, r1, h2, h3, fun e => ⟨r2.trans (h4 e).1, (h4 e).2⟩⟩
  | os id n =>
    obtain ⟨sz, fz, es, h1, h2, h3⟩ := h
    obtain ⟨r1, r2⟩ := R id _ h1 (by simp)
    refine ⟨sz, fz, es, r1, h2, fun e => ?_⟩
    rcases h3 e with h | ⟨r, cap, e', k, q1, q2⟩
    · exact .inl h
    · exact .inr ⟨r, cap, e', k, r2.trans q1, q2⟩
  | fn g caps =>
    obtain ⟨cv, h1, h2⟩ := h
    refine ⟨cv, h1, F2.mapl.2 (h2.imp fun id v ⟨b, r, q1, q2, q3, q4⟩ => ?_)⟩
    obtain ⟨r1, r2⟩ := R id b q1 (by rintro rfl; simp [Blk.isRow] at q2)
    exact ⟨_, r, r1, by rw [ren_isRow]; exact q2, r2.trans q3, q4⟩
  | bp g id o =>
    obtain ⟨b, r, h1, h2, h3, h4⟩ := h
    obtain ⟨r1, r2⟩ := R id b h1 (by rintro rfl; simp [Blk.isRow] at h2)
    exact ⟨_, r, r1, by rw [ren_isRow]; exact h2, r2.trans h3, h4⟩
  | ms id n0 =>
    obtain ⟨b, r, h1, h2, h3, h4⟩ := h
    obtain ⟨r1, r2⟩ := R id b h1 (by rintro rfl; simp [Blk.isRow] at h2)
    exact ⟨_, r, r1, by rw [ren_isRow]; exact h2, r2.trans h3, h4⟩
  | _ => exact h

theorem AR1.ren (R : ∀ i c, H1.get i = some c → c ≠ .hole → H2.get (ρ i) = some (c.ren ρ) ∧ φ2 (ρ i) = φ1 i) {a : AV} {x : Value} (h : AR1 φ1 H1 F w a x) : AR1 φ2 H2 F w (a.ren1 ρ) x := by
  cases h with
  | un x => exact .un x
  | c h hx => exact .c (h.ren R) hx
  | agg h => exact .agg h
  | mg h => exact .mg (F2.mapl.2 (h.imp fun _ _ q => ⟨q.1.ren R, q.2⟩))

theorem AR.ren (R : ∀ i c, H1.get i = some c → c ≠ .hole → H2.get (ρ i) = some (c.ren ρ) ∧ φ2 (ρ i) = φ1 i) {a : AV} {x : Value} (h : AR φ1 H1 F w a x) : AR φ2 H2 F w (a.ren ρ) x := by
  cases h with
  | one h =>
    have : a.ren ρ = a.ren1 ρ := by cases h <;> rfl
    rw [this]
    exact .one (h.ren R)
  | tup h => exact .tup (F2.mapl.2 (h.imp fun _ _ q => q.ren R))

theorem BR.ren (R : ∀ i c, H1.get i = some c → c ≠ .hole → H2.get (ρ i) = some (c.ren ρ) ∧ φ2 (ρ i) = φ1 i) {id id' : Id} (hφ : φ2 id' = φ1 id) {b : Blk} (h : BR φ1 H1 F w id b) : BR φ2 H2 F w id' (b.ren ρ) := by
  cases b with
  | row cs => obtain ⟨r, c, h1, h2⟩ := h; exact ⟨r, c, hφ.trans h1, h2⟩
  | mrow cs => obtain ⟨r, c, h1, h2, h3, h4⟩ := h; exact ⟨r, c, hφ.trans h1, h2, h3, F2.mapl.2 (h4.imp fun _ _ q => ⟨q.1.ren R, q.2⟩)⟩
  | arr sz fz es =>
    obtain ⟨h0, h1, h2⟩ := h
    refine ⟨h0, h1, ?_⟩
    rcases h2 with ⟨h3, h4⟩ | ⟨r, c, h3, h4⟩
    · exact .inl ⟨hφ.trans h3, h4⟩
    · exact .inr ⟨r, c, hφ.trans h3, h4⟩
  | hole => exact hφ.trans h

theorem CR.ids {c : C} {x : Value} (h : CR φ H F w c x) : ∀ i ∈ idsC c, (H.get i).isSome := by
  intro i hi
  cases c with
  | ptr id o => obtain ⟨b, r, h1, _⟩ := h; simp [idsC] at hi; subst hi; rw [h1]; rfl
  | ap id n j o => obtain ⟨sz, fz, es, b, k, h1, _⟩ := h; simp [idsC] at hi; subst hi; rw [h1]; rfl
  | os id n => obtain ⟨sz, fz, es, h1, _⟩ := h; simp [idsC] at hi; subst hi; rw [h1]; rfl
  | fn g caps =>
    obtain ⟨cv, -, h2⟩ := h
    simp only [idsC] at hi
    clear x
    induction h2 with
    | nil => cases hi
    | cons q _ ih =>
      rcases List.mem_cons.1 hi with rfl | hi
      · obtain ⟨b, r, q1, _⟩ := q; rw [q1]; rfl
      · exact ih hi
  | bp g id o => obtain ⟨b, r, h1, _⟩ := h; simp [idsC] at hi; subst hi; rw [h1]; rfl
  | ms id n0 => obtain ⟨b, r, h1, _⟩ := h; simp [idsC] at hi; subst hi; rw [h1]; rfl
  | _ => simp [idsC] at hi

theorem ren_id {c : C} (h : ∀ i ∈ idsC c, ρ i = i) : c.ren ρ = c := by
  cases c with
  | ptr id o => simp only [C.ren]; rw [h id (by simp [idsC])]
  | ap id n j o => simp only [C.ren]; rw [h id (by simp [idsC])]
  | os id n => simp only [C.ren]; rw [h id (by simp [idsC])]
  | fn g caps =>
    simp only [C.ren]
    congr 1
    conv => rhs; rw [← List.map_id caps]
    exact List.map_congr_left h
  | bp g id o => simp only [C.ren]; rw [h id (by simp [idsC])]
  | ms id n0 => simp only [C.ren]; rw [h id (by simp [idsC])]
  | _ => rfl

theorem ren_ids {cs : List C} (h : ∀ c ∈ cs, ∀ i ∈ idsC c, ρ i = i) : cs.map (C.ren ρ) = cs := by
  conv => rhs; rw [← List.map_id cs]
  exact List.map_congr_left fun c hc => ren_id (h c hc)

theorem f2_left {α β : Type} {R : α → β → Prop} {as : List α} {bs : List β} (h : F2 R as bs) : ∀ a ∈ as, ∃ b, R a b := by
  induction h with
  | nil => intro a ha; cases ha
  | cons h _ ih =>
    intro a ha
    rcases List.mem_cons.1 ha with rfl | ha
    · exact ⟨_, h⟩
    · exact ih a ha

theorem blk_ren_id (hS : SRel G φ H F w) {id : Id} {b : Blk} (hg : H.get id = some b) (h : ∀ i, (H.get i).isSome → ρ i = i) : b.ren ρ = b := by
  have hB := hS.blk id b hg
  cases b with
  | mrow cs =>
    obtain ⟨r, c, h1, h2, h3, h4⟩ := hB
    simp only [Blk.ren]
    rw [ren_ids]
    intro c hc i hi
    obtain ⟨x, hx⟩ := f2_left h4 c hc
    exact h i (hx.1.ids i hi)
  | _ => rfl

theorem mvId_new {n s : Id} : mvId n s n = s := by simp [mvId]
theorem mvId_old {n s i : Id} (h : i ≠ n) : mvId n s i = i := by simp [mvId, h]

/-- A new block goes where a place was kept for it. -/
theorem move_slot (hS : SRel G φ H F w) {s : Id} (hs : H.get s = some .hole) {b : Blk} (E : Evo φ H F w φ' (H.add b) F' w') (S : SRel G φ' (H.add b) F' w') {v : AV} {x : Value} (A : AR φ' (H.add b) F' w' v x) :
    ∃ φ2, Evo φ H F w φ2 (H.set s (b.ren (mvId H.nid s))) F' w' ∧ SRel G φ2 (H.set s (b.ren (mvId H.nid s))) F' w' ∧ AR φ2 (H.set s (b.ren (mvId H.nid s))) F' w' (v.ren (mvId H.nid s)) x := by
  have hne : s ≠ H.nid := by intro e; rw [e, Hp.nid_none] at hs; cases hs
  have hold : ∀ {i c}, H.get i = some c → i ≠ H.nid := by intro i c h e; rw [e, Hp.nid_none] at h; cases h
  let φ2 : Pl := fun i => if i = s then φ' H.nid else if i = H.nid then none else φ' i
  have p1 : φ2 s = φ' H.nid := by simp [φ2]
  have p2 : ∀ {i}, i ≠ s → i ≠ H.nid → φ2 i = φ' i := by intro i h1 h2; simp [φ2, h1, h2]
  have p3 : φ2 H.nid = none := by simp [φ2, Ne.symm hne]
  have gs : (H.set s (b.ren (mvId H.nid s))).get s = some (b.ren (mvId H.nid s)) := Hp.get_set_self hs
  have go : ∀ {i}, i ≠ s → (H.set s (b.ren (mvId H.nid s))).get i = H.get i := fun h => Hp.get_set_other h
  have R : ∀ i c, (H.add b).get i = some c → c ≠ .hole → (H.set s (b.ren (mvId H.nid s))).get (mvId H.nid s i) = some (c.ren (mvId H.nid s)) ∧ φ2 (mvId H.nid s i) = φ' i := by
    intro i c hi hc
    rcases Hp.get_add_cases hi with h | ⟨rfl, rfl⟩
    · have hn := hold h
      rw [mvId_old hn]
      have his : i ≠ s := by intro e; rw [e, hs] at h; cases h; exact hc rfl
      refine ⟨?_, p2 his hn⟩
      rw [go his, h, blk_ren_id hS h]
      intro j hj
      obtain ⟨q, hq⟩ := Option.isSome_iff_exists.1 hj
      exact mvId_old (hold hq)
    · rw [mvId_new]
      exact ⟨gs, p1⟩
  refine ⟨φ2, ?_, ?_, A.ren R⟩
  · refine { os := E.os, tape := E.tape, output := E.output, size := E.size, keep := E.keep, kp := E.kp, newF := E.newF, new := fun id r h => ?_, be := fun id c hc => ?_, shp := E.shp, npar := by cases s <;> simp [Hp.set] }
    · by_cases h1 : id = s
      · subst h1
        rw [p1] at h
        rcases E.new _ r h with h | h
        · rw [no_phi_nid hS] at h; cases h
        · exact .inr h
      · by_cases h2 : id = H.nid
        · subst h2; rw [p3] at h; cases h
        · rw [p2 h1 h2] at h; exact E.new id r h
    · by_cases h1 : id = s
      · subst h1
        rw [hs] at hc
        cases hc
        exact ⟨_, gs, by cases b.ren (mvId H.nid id) <;> trivial⟩
      · refine ⟨c, (go h1).trans hc, ?_⟩
        obtain ⟨c', hc', hb⟩ := E.be id c hc
        rw [Hp.get_add_old hc] at hc'
        cases hc'
        have := p2 h1 (hold hc)
        cases c <;> simp_all [BE]
  · refine ⟨fun i j r hi hj => ?_, fun i r h => ?_, fun i r h => ?_, fun id c hc => ?_, S.glob, S.fin⟩
    · have back : ∀ {i r}, φ2 i = some r → (i = s ∧ φ' H.nid = some r) ∨ (i ≠ s ∧ i ≠ H.nid ∧ φ' i = some r) := by
        intro i r h
        by_cases h1 : i = s
        · subst h1; exact .inl ⟨rfl, p1 ▸ h⟩
        · by_cases h2 : i = H.nid
          · subst h2; rw [p3] at h; cases h
          · exact .inr ⟨h1, h2, (p2 h1 h2) ▸ h⟩
      rcases back hi with ⟨rfl, a⟩ | ⟨a1, a2, a3⟩ <;> rcases back hj with ⟨b1, b2⟩ | ⟨b1, b2, b3⟩
      · exact b1.symm
      · exact absurd (S.inj _ _ r a b3).symm b2
      · exact absurd (S.inj _ _ r a3 b2) a2
      · exact S.inj i j r a3 b3
    · by_cases h1 : i = s
      · subst h1; rw [p1] at h; exact S.dom _ r h
      · by_cases h2 : i = H.nid
        · subst h2; rw [p3] at h; cases h
        · rw [p2 h1 h2] at h; exact S.dom i r h
    · by_cases h1 : i = s
      · subst h1; rw [gs]; rfl
      · by_cases h2 : i = H.nid
        · subst h2; rw [p3] at h; cases h
        · rw [p2 h1 h2] at h
          obtain ⟨c, hc⟩ := Option.isSome_iff_exists.1 (S.has i r h)
          rcases Hp.get_add_cases hc with hc | ⟨e, _⟩
          · rw [go h1, hc]; rfl
          · exact absurd e h2
    · by_cases h1 : id = s
      · subst h1
        rw [gs] at hc
        cases hc
        exact (S.blk H.nid b Hp.get_add_new).ren R p1
      · rw [go h1] at hc
        have := (S.blk id c (Hp.get_add_old hc)).ren R (p2 h1 (hold hc))
        rwa [blk_ren_id hS hc] at this
        intro j hj
        obtain ⟨q, hq⟩ := Option.isSome_iff_exists.1 hj
        exact mvId_old (hold hq)

theorem set_len (H : Hp) (id : Id) (b : Blk) : SameLen H (H.set id b) := by cases id <;> constructor <;> simp [Hp.set]

/-- What it comes to, with a place kept for a new block. -/
theorem opM_spec {slot : Id} {o : SOp} {p : Bool} {v : AV} (h : opM G slot o T H = some ⟨p, v, H'⟩) : okM G o T = true ∧ ∃ (e : Eff) (v0 : AV), opS G o T H = some ⟨p, v0, e.app H⟩ ∧
    (∀ H2, SameLen H H2 → (∀ i ∈ rdO G o T, H2.get i = H.get i) → opS G o T H2 = some ⟨p, v0, e.app H2⟩) ∧
    ((∃ b, e = .add b ∧ o.adds = true ∧ H.get slot = some .hole ∧ v = v0.ren (mvId H.nid slot) ∧ H' = H.set slot (b.ren (mvId H.nid slot))) ∨
      ((e = .keep ∨ ∃ id b, e = .set id b ∧ id ∈ wrO G slot o T ∧ (H.get id).isSome) ∧ v = v0 ∧ H' = e.app H)) := by
  unfold opM at h
  cases hok : okM G o T with
  | false => rw [hok] at h; cases h
  | true =>
    rw [hok] at h
    dsimp only at h
    cases ho : opS G o T H with
    | none => rw [ho] at h; cases h
    | some res =>
      obtain ⟨p0, v0, H0⟩ := res
      rw [ho] at h
      dsimp only at h
      obtain ⟨e, h1, h2, h3, h4⟩ := opS_eff hok ho
      subst h1
      refine ⟨rfl, e, v0, ?_⟩
      have same : (e = .keep ∨ ∃ id b, e = .set id b) → (e.app H).loc.drop H.loc.length = [] := by
        rintro (rfl | ⟨id, b, rfl⟩)
        · simp [Eff.app]
        · have := (set_len H id b).loc
          simp [Eff.app, this]
      have fin : (e = .keep ∨ ∃ id b, e = .set id b) → some (Res.mk p0 v0 (e.app H)) = some (Res.mk p v H') → some (Res.mk p0 v0 (e.app H)) = some (Res.mk p v0 (e.app H)) ∧
    (∀ H2, SameLen H H2 → (∀ i ∈ rdO G o T, H2.get i = H.get i) → opS G o T H2 = some ⟨p, v0, e.app H2⟩) ∧
    ((∃ b, e = .add b ∧ o.adds = true ∧ H.get slot = some .hole ∧ v = v0.ren (mvId H.nid slot) ∧ H' = H.set slot (b.ren (mvId H.nid slot))) ∨
      ((e = .keep ∨ ∃ id b, e = .set id b ∧ id ∈ wrO G slot o T ∧ (H.get id).isSome) ∧ v = v0 ∧ H' = e.app H)) := by
        intro he hq
        simp only [Option.some.injEq, Res.mk.injEq] at hq
        obtain ⟨rfl, rfl, rfl⟩ := hq
        refine ⟨rfl, h2, .inr ⟨?_, rfl, rfl⟩⟩
        rcases he with rfl | ⟨id, b, rfl⟩
        · exact .inl rfl
        · exact .inr ⟨id, b, rfl, (h3 id b rfl).1 slot, (h3 id b rfl).2⟩
      cases e with
      | keep =>
        cases hadd : o.adds with
        | false => rw [hadd] at h; exact hadd ▸ fin (.inl rfl) h
        | true => rw [hadd] at h; dsimp only at h; rw [same (.inl rfl)] at h; exact hadd ▸ fin (.inl rfl) h
      | set id b =>
        cases hadd : o.adds with
        | false => rw [hadd] at h; exact hadd ▸ fin (.inr ⟨_, _, rfl⟩) h
        | true => rw [hadd] at h; dsimp only at h; rw [same (.inr ⟨_, _, rfl⟩)] at h; exact hadd ▸ fin (.inr ⟨_, _, rfl⟩) h
      | add b =>
        rw [h4 b rfl] at h
        have hd : (Eff.app (.add b) H).loc.drop H.loc.length = [b] := by simp [Eff.app, Hp.add]
        dsimp only at h
        rw [hd] at h
        dsimp only at h
        split at h
        · rename_i hs
          simp only [Option.some.injEq, Res.mk.injEq] at h
          obtain ⟨rfl, rfl, rfl⟩ := h
          exact ⟨rfl, h2, .inl ⟨b, rfl, h4 b rfl, hs, rfl, rfl⟩⟩
        · cases h

theorem opM_eff {slot : Id} {o : SOp} {p : Bool} {v : AV} (h : opM G slot o T H = some ⟨p, v, H'⟩) : ∃ e : Eff, (e = .keep ∨ ∃ id b, e = .set id b ∧ id ∈ wrO G slot o T ∧ (H.get id).isSome) ∧ H' = e.app H ∧
    ∀ H2, SameLen H H2 → (∀ i, i ∈ rdO G o T ∨ i ∈ wrO G slot o T → H2.get i = H.get i) → opM G slot o T H2 = some ⟨p, v, e.app H2⟩ := by
  obtain ⟨hok, e, v0, h1, h2, h3⟩ := opM_spec h
  rcases h3 with ⟨b, rfl, hadd, hs, rfl, rfl⟩ | ⟨he, rfl, rfl⟩
  · have hwr : slot ∈ wrO G slot o T := by cases o <;> simp [SOp.adds] at hadd <;> simp [wrO]
    refine ⟨.set slot (b.ren (mvId H.nid slot)), .inr ⟨slot, _, rfl, hwr, by rw [hs]; rfl⟩, rfl, fun H2 hl ha => ?_⟩
    have := h2 H2 hl fun i hi => ha i (.inl hi)
    have hn : H2.nid = H.nid := by simp [Hp.nid, hl.loc]
    have hd : (Eff.app (.add b) H2).loc.drop H2.loc.length = [b] := by simp [Eff.app, Hp.add]
    simp only [opM, hok, this, hadd, hd, ha slot (.inr hwr), hs, hn]
    rfl
  · refine ⟨e, he, rfl, fun H2 hl ha => ?_⟩
    have := h2 H2 hl fun i hi => ha i (.inl hi)
    have hd : (e.app H2).loc.drop H2.loc.length = [] := by
      rcases he with rfl | ⟨id, b, rfl, -⟩
      · simp [Eff.app]
      · have := (set_len H2 id b).loc
        simp [Eff.app, this]
    simp only [opM, hok, this]
    cases o.adds with
    | false => rfl
    | true => simp only [hd]
end
end Go.Ab

namespace Go.Ab
open Go

structure Fp where
  rd : List Id
  wr : List Id
  deriving Inhabited
def Fp.In (f : Fp) (i : Id) : Prop := i ∈ f.rd ∨ i ∈ f.wr

/-- An operation with the place that is kept for its new block, and what it touches. -/
structure DO where
  so : SO
  slot : Id
  fp : Fp

/-- A frozen argument, read without touching. -/
def froC (H : Hp) : C → Option PV
  | .os id n => match H.get id with
    | some (.arr _ true es) => match decide (n = es.length) with
      | true => some (.sl es)
      | false => none
    | _ => none
  | .nils => some (.sl [])
  | .ti es => some (.sl es)
  | .p v => some v
  | _ => none
def froCs (H : Hp) : List C → Option (List PV)
  | [] => some []
  | c :: r => match froC H c, froCs H r with
    | some b, some l => some (b :: l)
    | _, _ => none
def froA (H : Hp) : AV → Option AV
  | .c (.os id n) => match H.get id with
    | some (.arr _ true es) => match decide (n = es.length) with
      | true => some (.c (.p (.sl es)))
      | false => none
    | _ => none
  | .c .nils => some (.c (.p (.sl [])))
  | .c (.ti es) => some (.c (.p (.sl es)))
  | .c (.p v) => some (.c (.p v))
  | .agg cs => some (.agg cs)
  | .mg cs => match froCs H cs with
    | some ps => some (.agg ps)
    | none => none
  | _ => none
def froAs (H : Hp) : List AV → Option (List AV)
  | [] => some []
  | a :: r => match froA H a, froAs H r with
    | some b, some l => some (b :: l)
    | _, _ => none

section
variable (P : Program) (G : Gl)

/-- A call that touches so much alone. -/
def LEv (g : FuncId) (args : List AV) (H : Hp) (v : AV) (H' : Hp) (fp : Fp) : Prop :=
  SameLen H H' ∧ (∀ i, i ∉ fp.wr → H'.get i = H.get i) ∧
  ∀ H2, SameLen H H2 → (∀ i, fp.In i → H2.get i = H.get i) → ∃ H2', EvR P G g args H2 v H2' ∧ SameLen H2 H2' ∧ (∀ i ∈ fp.wr, H2'.get i = H'.get i) ∧ ∀ i, i ∉ fp.wr → H2'.get i = H2.get i

/-- A call gives a new slice, which its owner may append to. -/
def OwnNew (g : FuncId) (args : List AV) (sz : Nat) (es : List (List PV)) : Prop := ∀ H : Hp, EvR P G g args H (.c (.os H.nid es.length)) (H.add (.arr sz false es))

def callG (slot : Id) (g : FuncId) (caps : List Id) (args : List AV) (H : Hp) (v : AV) (H' : Hp) (fp : Fp) : Prop :=
  LEv P G g (args ++ caps.map fun i => .c (.ptr i 0)) H v H' fp ∨ (caps = [] ∧ ∃ args', froAs H args = some args' ∧ EvP P G g args' v ∧ H' = H ∧ fp = ⟨args.flatMap idsA, []⟩) ∨
    (caps = [] ∧ ∃ args' sz es, froAs H args = some args' ∧ OwnNew P G g args' sz es ∧ H.get slot = some .hole ∧ v = .c (.os slot es.length) ∧ H' = H.set slot (.arr sz false es) ∧ fp = ⟨args.flatMap idsA, [slot]⟩)

/-- The function that is called: named in the code, or out of a row. -/
def calleeA : AV → Option (FuncId × List Id)
  | .c (.fn g caps) => some (g, caps)
  | .c (.p (.fn g [])) => some (g, [])
  | _ => none

def goM (slot : Id) (o : SOp) (T : Tm) (H : Hp) (v : AV) (H' : Hp) (fp : Fp) : Prop :=
  match o with
  | .call _ f args => match calleeA (evS G T f) with
    | some (g, caps) => callG P G slot g caps (args.map (evS G T)) H v H' fp
    | none => False
  | o => opM G slot o T H = some ⟨true, v, H'⟩ ∧ fp = ⟨rdO G o T, wrO G slot o T⟩

def valM (d : DO) (T : Tm) (H : Hp) (v : AV) (H' : Hp) : Prop :=
  match d.so.guard with
  | none => goM P G d.slot d.so.op T H v H' d.fp
  | some (t, want) => match T.get t with
    | .c (.p (.bool b)) => match b == want with
      | true => goM P G d.slot d.so.op T H v H' d.fp
      | false => v = .tup [] ∧ H' = H
    | .tup [] => v = .tup [] ∧ H' = H
    | _ => False

def runM : List DO → Tm → Hp → (Tm → Hp → Prop) → Prop
  | [], T, H, k => k T H
  | d :: r, T, H, k => ∃ v H', valM P G d T H v H' ∧ runM r (T.put d.so.dst v) H' k
end

section
variable {P : Program} {G : Gl} {N : Nat} {φ φ' : Pl} {H H' : Hp} {F F' : Cl} {w w' : World} {T T' : Tm}

theorem SameLen.refl (H : Hp) : SameLen H H := ⟨rfl, rfl⟩
theorem SameLen.symm {A B : Hp} (h : SameLen A B) : SameLen B A := ⟨h.par.symm, h.loc.symm⟩
theorem SameLen.trans {A B C : Hp} (h : SameLen A B) (k : SameLen B C) : SameLen A C := ⟨k.par.trans h.par, k.loc.trans h.loc⟩
theorem hp_ext {A B : Hp} (h : ∀ i, A.get i = B.get i) : A = B := by
  cases A with
  | mk p l =>
    cases B with
    | mk p' l' =>
      congr 1
      · exact List.ext_getElem? fun n => h (.par n)
      · exact List.ext_getElem? fun n => h (.loc n)

/-- An effect changes what it may alone, and the same everywhere. -/
theorem eff_local {e : Eff} {wr : List Id} (he : e = .keep ∨ ∃ id b, e = .set id b ∧ id ∈ wr ∧ (H.get id).isSome) {H2 : Hp} (hag : ∀ i ∈ wr, H2.get i = H.get i) :
    SameLen H (e.app H) ∧ (∀ i, i ∉ wr → (e.app H).get i = H.get i) ∧ SameLen H2 (e.app H2) ∧ (∀ i ∈ wr, (e.app H2).get i = (e.app H).get i) ∧ ∀ i, i ∉ wr → (e.app H2).get i = H2.get i := by
  rcases he with rfl | ⟨id, b, rfl, hid, hs⟩
  · exact ⟨.refl _, fun _ _ => rfl, .refl _, hag, fun _ _ => rfl⟩
  · obtain ⟨c, hc⟩ := Option.isSome_iff_exists.1 hs
    have hc2 : H2.get id = some c := (hag id hid).trans hc
    refine ⟨set_len _ _ _, fun i hi => Hp.get_set_other (fun e => hi (e ▸ hid)), set_len _ _ _, fun i hi => ?_, fun i hi => Hp.get_set_other (fun e => hi (e ▸ hid))⟩
    by_cases e : i = id
    · subst e
      rw [show (Eff.set i b).app H2 = H2.set i b from rfl, show (Eff.set i b).app H = H.set i b from rfl, Hp.get_set_self hc, Hp.get_set_self hc2]
    · rw [show (Eff.set id b).app H2 = H2.set id b from rfl, show (Eff.set id b).app H = H.set id b from rfl, Hp.get_set_other e, Hp.get_set_other e]
      exact hag i hi

theorem froCs_local {H2 : Hp} : ∀ {cs : List C}, (∀ i ∈ cs.flatMap idsC, H2.get i = H.get i) → froCs H2 cs = froCs H cs
  | [], _ => rfl
  | c :: cs, h => by
    have hc : froC H2 c = froC H c := by
      cases c with
      | os id n => simp only [froC]; rw [h id (by simp [idsC])]
      | _ => rfl
    simp only [froCs]
    rw [hc, froCs_local fun i hi => h i (by simp only [List.flatMap_cons, List.mem_append]; exact .inr hi)]

theorem froA_local {a : AV} {H2 : Hp} (h : ∀ i ∈ idsA a, H2.get i = H.get i) : froA H2 a = froA H a := by
  cases a with
  | c c =>
    cases c with
    | os id n => simp only [froA]; rw [h id (by simp [idsA, idsC])]
    | _ => rfl
  | mg cs =>
    have : froCs H2 cs = froCs H cs := froCs_local h
    simp only [froA, this]
  | _ => rfl

theorem froAs_local : ∀ {l : List AV} {H2 : Hp}, (∀ i ∈ l.flatMap idsA, H2.get i = H.get i) → froAs H2 l = froAs H l
  | [], _, _ => rfl
  | a :: l, H2, h => by
    simp only [froAs]
    rw [froA_local fun i hi => h i (by simp [hi]), froAs_local fun i hi => h i (List.mem_flatMap.2 (by obtain ⟨x, hx, hy⟩ := List.mem_flatMap.1 hi; exact ⟨x, by simp [hx], hy⟩))]

theorem goM_local {slot : Id} {o : SOp} {v : AV} {fp : Fp} (h : goM P G slot o T H v H' fp) : SameLen H H' ∧ (∀ i, i ∉ fp.wr → H'.get i = H.get i) ∧
    ∀ H2, SameLen H H2 → (∀ i, fp.In i → H2.get i = H.get i) → ∃ H2', goM P G slot o T H2 v H2' fp ∧ SameLen H2 H2' ∧ (∀ i ∈ fp.wr, H2'.get i = H'.get i) ∧ ∀ i, i ∉ fp.wr → H2'.get i = H2.get i := by
  have plain : opM G slot o T H = some ⟨true, v, H'⟩ → fp = ⟨rdO G o T, wrO G slot o T⟩ → SameLen H H' ∧ (∀ i, i ∉ fp.wr → H'.get i = H.get i) ∧
    ∀ H2, SameLen H H2 → (∀ i, fp.In i → H2.get i = H.get i) → ∃ H2', opM G slot o T H2 = some ⟨true, v, H2'⟩ ∧ SameLen H2 H2' ∧ (∀ i ∈ fp.wr, H2'.get i = H'.get i) ∧ ∀ i, i ∉ fp.wr → H2'.get i = H2.get i := by
    rintro h1 rfl
    obtain ⟨e, he, rfl, hl⟩ := opM_eff h1
    obtain ⟨a1, a2, -⟩ := eff_local (H2 := H) he fun _ _ => rfl
    refine ⟨a1, a2, fun H2 hs ha => ?_⟩
    obtain ⟨-, -, b1, b2, b3⟩ := eff_local (H2 := H2) he fun i hi => ha i (.inr hi)
    exact ⟨_, hl H2 hs fun i hi => ha i hi, b1, b2, b3⟩
  cases o with
  | call p f args =>
    simp only [goM] at h ⊢
    split at h
    · rename_i g caps hg
      rcases h with h | ⟨hcap, args', h1, h2, rfl, rfl⟩ | ⟨hcap, args', sz, es, h1, h2, h3, rfl, rfl, rfl⟩
      · refine ⟨h.1, h.2.1, fun H2 hs ha => ?_⟩
        obtain ⟨H2', q1, q2, q3, q4⟩ := h.2.2 H2 hs ha
        refine ⟨H2', .inl ⟨q2, q4, fun H3 hs3 ha3 => ?_⟩, q2, q3, q4⟩
        obtain ⟨H3', r1, r2, r3, r4⟩ := h.2.2 H3 (hs.trans hs3) fun i hi => (ha3 i hi).trans (ha i hi)
        exact ⟨H3', r1, r2, fun i hi => (r3 i hi).trans (q3 i hi).symm, r4⟩
      · exact ⟨.refl _, fun _ _ => rfl, fun H2 hs ha => ⟨H2, .inr (.inl ⟨hcap, args', (froAs_local fun i hi => ha i (.inl hi)).trans h1, h2, rfl, rfl⟩), .refl _, fun i hi => (by cases hi), fun _ _ => rfl⟩⟩
      · refine ⟨set_len _ _ _, fun i hi => Hp.get_set_other (by simpa using hi), fun H2 hs ha => ?_⟩
        have hs2 : H2.get slot = some .hole := (ha slot (.inr (by simp))).trans h3
        refine ⟨_, .inr (.inr ⟨hcap, args', sz, es, (froAs_local fun i hi => ha i (.inl hi)).trans h1, h2, hs2, rfl, rfl, rfl⟩), set_len _ _ _, fun i hi => ?_, fun i hi => Hp.get_set_other (by simpa using hi)⟩
        have : i = slot := by simpa using hi
        subst this
        rw [Hp.get_set_self hs2, Hp.get_set_self h3]
    · exact h.elim
  | _ =>
    obtain ⟨h1, h2, h3⟩ := plain h.1 h.2
    refine ⟨h1, h2, fun H2 hs ha => ?_⟩
    obtain ⟨H2', q1, q2⟩ := h3 H2 hs ha
    exact ⟨H2', ⟨q1, h.2⟩, q2⟩

theorem valM_local {d : DO} {v : AV} (h : valM P G d T H v H') : SameLen H H' ∧ (∀ i, i ∉ d.fp.wr → H'.get i = H.get i) ∧
    ∀ H2, SameLen H H2 → (∀ i, d.fp.In i → H2.get i = H.get i) → ∃ H2', valM P G d T H2 v H2' ∧ SameLen H2 H2' ∧ (∀ i ∈ d.fp.wr, H2'.get i = H'.get i) ∧ ∀ i, i ∉ d.fp.wr → H2'.get i = H2.get i := by
  have skip : v = .tup [] ∧ H' = H → SameLen H H' ∧ (∀ i, i ∉ d.fp.wr → H'.get i = H.get i) ∧
    ∀ H2, SameLen H H2 → (∀ i, d.fp.In i → H2.get i = H.get i) → ∃ H2', (v = .tup [] ∧ H2' = H2) ∧ SameLen H2 H2' ∧ (∀ i ∈ d.fp.wr, H2'.get i = H'.get i) ∧ ∀ i, i ∉ d.fp.wr → H2'.get i = H2.get i := by
    rintro ⟨rfl, rfl⟩
    exact ⟨.refl _, fun _ _ => rfl, fun H2 hs ha => ⟨H2, ⟨rfl, rfl⟩, .refl _, fun i hi => ha i (.inr hi), fun _ _ => rfl⟩⟩
  unfold valM at h ⊢
  cases hg : d.so.guard with
  | none => rw [hg] at h; exact goM_local h
  | some q =>
    obtain ⟨t, want⟩ := q
    rw [hg] at h
    dsimp only at h ⊢
    split at h
    · rename_i b hb
      cases hbw : b == want with
      | true => rw [hbw] at h; exact goM_local h
      | false => rw [hbw] at h; exact skip h
    · exact skip h
    · exact h.elim

theorem opM_congr {slot : Id} {o : SOp} (h : ∀ t ∈ looksO o, T.get t = T'.get t) : opM G slot o T H = opM G slot o T' H := by
  have hok : okM G o T = okM G o T' := by
    cases o <;> try rfl
    simp only [okM]
    rw [evL_congr h]
  unfold opM
  rw [hok, opS_congr h]

theorem saO_looks {o : SOp} {s : SA} (hs : s ∈ saO o) : ∀ t ∈ looksA s, t ∈ looksO o := by
  have hM : ∀ {x : Option SA}, s ∈ saM x → ∀ t ∈ looksA s, t ∈ looksM x := by
    intro x hx t ht
    cases x with
    | none => simp [saM] at hx
    | some y =>
      simp [saM] at hx
      subst hx
      cases s <;> simp_all [looksA, looksM]
  intro t ht
  cases o <;> simp only [saO, looksO, List.mem_cons, List.mem_append, List.mem_map, List.mem_flatMap, List.not_mem_nil, or_false] at hs ⊢
  all_goals first
    | (rcases hs with rfl | rfl | rfl <;> simp [ht]; done)
    | (rcases hs with rfl | rfl <;> simp [ht]; done)
    | (subst hs; exact ht)
    | exact hs.elim
    | (obtain ⟨q, hq, rfl⟩ := hs; exact ⟨q, hq, ht⟩)
    | exact ⟨s, hs, ht⟩
    | skip
  case slStr =>
    rcases hs with rfl | hs | hs
    · exact .inl (.inl ht)
    · exact .inl (.inr (hM hs t ht))
    · exact .inr (hM hs t ht)
  case slSl =>
    rcases hs with rfl | (hs | hs) | hs
    · exact .inl (.inl (.inl ht))
    · exact .inl (.inl (.inr (hM hs t ht)))
    · exact .inl (.inr (hM hs t ht))
    · exact .inr (hM hs t ht)
  case call =>
    rcases hs with rfl | hs
    · exact .inl ht
    · exact .inr ⟨s, hs, ht⟩

theorem rdO_congr {o : SOp} (h : ∀ t ∈ looksO o, T.get t = T'.get t) : rdO G o T = rdO G o T' := by
  unfold rdO
  rw [List.flatMap_def, List.flatMap_def]
  congr 1
  exact List.map_congr_left fun s hs => by rw [evS_congr fun t ht => h t (saO_looks hs t ht)]

theorem wrO_congr {slot : Id} {o : SOp} (h : ∀ t ∈ looksO o, T.get t = T'.get t) : wrO G slot o T = wrO G slot o T' := by
  cases o <;> simp only [wrO]
  all_goals first
    | rfl
    | (rw [evS_congr fun t ht => h t (by simp [looksO, ht])])

theorem goM_congr {slot : Id} {o : SOp} {v : AV} {fp : Fp} (h : ∀ t ∈ looksO o, T.get t = T'.get t) : goM P G slot o T H v H' fp ↔ goM P G slot o T' H v H' fp := by
  cases o
  case call p f args =>
    simp only [looksO, List.mem_append] at h
    simp only [goM]
    rw [evS_congr fun t ht => h t (.inl ht), evL_congr fun t ht => h t (.inr ht)]
  all_goals
    simp only [goM]
    rw [opM_congr h, rdO_congr h, wrO_congr h]

theorem valM_congr {d : DO} {v : AV} (h : ∀ t ∈ d.so.looks, T.get t = T'.get t) : valM P G d T H v H' ↔ valM P G d T' H v H' := by
  have h1 : ∀ t ∈ looksO d.so.op, T.get t = T'.get t := fun t ht => h t (List.mem_append.2 (.inl ht))
  unfold valM
  cases hg : d.so.guard with
  | none => exact goM_congr h1
  | some q =>
    obtain ⟨t, want⟩ := q
    have ht : T.get t = T'.get t := h t (List.mem_append.2 (.inr (by simp [hg])))
    dsimp only
    rw [ht]
    split
    · split
      · exact goM_congr h1
      · exact Iff.rfl
    · exact Iff.rfl
    · exact Iff.rfl

/-- Two that touch nothing that the other one writes. -/
def Fp.apart (a b : Fp) : Prop := (∀ i ∈ a.wr, ¬ b.In i) ∧ ∀ i ∈ b.wr, ¬ a.In i

theorem runM_congr {k : Tm → Hp → Prop} (hk : KR k) : ∀ (l : List DO) {T T' : Tm} {H : Hp}, Teq T T' → runM P G l T H k → runM P G l T' H k
  | [], _, _, _, he, h => hk _ _ _ he h
  | d :: l, T, T', H, he, h => by
    obtain ⟨v, H', h1, h2⟩ := h
    exact ⟨v, H', (valM_congr fun t _ => he t).1 h1, runM_congr hk l (fun t => by rw [get_put, get_put, he t]) h2⟩

theorem swapM {a b : DO} (hab : apartS a.so b.so = true) (hf : a.fp.apart b.fp) {r : List DO} {k : Tm → Hp → Prop} (hk : KR k) (h : runM P G (a :: b :: r) T H k) : runM P G (b :: a :: r) T H k := by
  obtain ⟨h1, h2, h3⟩ := apartS_spec hab
  obtain ⟨va, H1, ha, vb, H2, hb, hr⟩ := h
  obtain ⟨a1, a2, a3⟩ := valM_local ha
  obtain ⟨b1, b2, b3⟩ := valM_local hb
  obtain ⟨H1', hb', c1, c2, c3⟩ := b3 H a1.symm fun i hi => (a2 i fun hw => hf.1 i hw hi).symm
  obtain ⟨H2', ha', d1, d2, d3⟩ := a3 H1' c1 fun i hi => c3 i fun hw => hf.2 i hw hi
  have heq : H2' = H2 := by
    refine hp_ext fun i => ?_
    by_cases hia : i ∈ a.fp.wr
    · rw [d2 i hia, b2 i fun hw => hf.1 i hia (.inr hw)]
    · rw [d3 i hia]
      by_cases hib : i ∈ b.fp.wr
      · rw [c2 i hib]
      · rw [c3 i hib, b2 i hib, a2 i hia]
  subst heq
  refine ⟨vb, H1', (valM_congr fun t ht => ?_).1 hb', va, H2', (valM_congr fun t ht => ?_).1 ha', runM_congr hk r (fun t => ?_) hr⟩
  · rw [get_put, if_neg]
    exact fun e => h1 t e ht
  · rw [get_put, if_neg]
    exact fun e => h3 t e ht
  · simp only [get_put]
    by_cases e1 : a.so.dst = some t
    · have : ¬ b.so.dst = some t := h2 t e1
      simp [e1, this]
    · simp [e1]

theorem bubbleM {x : DO} {k : Tm → Hp → Prop} (hk : KR k) : ∀ (p q : List DO) {T : Tm} {H : Hp}, (∀ a ∈ p, apartS a.so x.so = true ∧ a.fp.apart x.fp) → runM P G (p ++ x :: q) T H k → runM P G (x :: (p ++ q)) T H k
  | [], q, T, H, _, h => h
  | a :: p, q, T, H, hp, h => by
    obtain ⟨h1, h2⟩ := hp a (by simp)
    have ih : ∀ T H, runM P G (p ++ x :: q) T H k → runM P G (x :: (p ++ q)) T H k := fun T H => bubbleM hk p q fun b hb => hp b (by simp [hb])
    refine swapM h1 h2 (r := p ++ q) hk ?_
    obtain ⟨v, H', h3, h4⟩ := h
    exact ⟨v, H', h3, ih _ _ h4⟩
end
end Go.Ab
