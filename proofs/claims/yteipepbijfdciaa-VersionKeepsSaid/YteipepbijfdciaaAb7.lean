/- A function's body, and what a call of it gives. No condition. -/
import Derived.Test.YteipepbijfdciaaAb6f
set_option linter.unusedSimpArgs false
set_option linter.unusedVariables false
namespace Go.Ab
open Go

def SemS (P : Program) (G : Gl) (N : Nat) (s : SC) (T : Tm) (H : Hp) (K : Ex → Tm → Hp → Prop) : Prop := ∀ c, compC P N c = some s → SemC P G N c T H K

def resS (T : Tm) (H : Hp) : List SR → Option (Bool × List AV)
  | [] => some (true, [])
  | .t t :: r => match resS T H r with
    | some (b, l) => some (b, T.get t :: l)
    | none => none
  | .cell a agg n :: r => match loadS agg n (T.get a) H, resS T H r with
    | some ⟨p, v, _⟩, some (b, l) => some (p && b, v :: l)
    | _, _ => none

def finV : List AV → AV
  | [v] => v
  | vs => .tup vs

def argsT : Nat → List AV → Tm
  | _, [] => []
  | i, a :: r => (i, a) :: argsT (i + 1) r

def AV.flat : AV → Bool
  | .tup _ => false
  | _ => true

/-- Results are handed back frozen, or as they are. -/
def frzR (m : Bool) (H : Hp) (vs : List AV) : Option (Bool × List AV × Hp) :=
  match m with
  | true => freezeAs H vs
  | false => some (vs.all AV.flat, vs, H)

/-- What a body's end gives. -/
def endK (m : Bool) (res : List SR) (Q : AV → Hp → Prop) (e : Ex) (T : Tm) (H : Hp) : Prop :=
  match e with
  | .exit _ => False
  | _ => match resS T H res with
    | some (b, vs) => gd b (match frzR m H vs with
      | some (b', vs', H') => gd b' (Q (finV vs') H')
      | none => False)
    | none => False

section
variable {P : Program} {G : Gl} {N : Nat} {φ : Pl} {H : Hp} {F : Cl} {w : World} {T : Tm}

theorem argsT_rel : ∀ (args : List AV) (xs pre : List Value) (n : Nat), F2 (AR φ H F w) args xs → ∀ t, AR φ H F w ((argsT pre.length args).get t) (((pre ++ xs).toArray ++ Array.replicate n undef).getD t undef)
  | [], _, pre, n, .nil, t => .one (.un _)
  | a :: args, _, pre, n, .cons (b := x) (bs := xs) h ht, t => by
    simp only [argsT, Tm.get]
    by_cases e : pre.length = t
    · subst e
      rw [Nat.beq_refl]
      have hx : (((pre ++ x :: xs).toArray ++ Array.replicate n undef).getD pre.length undef) = x := by
        rw [Array.getD_eq_getD_getElem?, Array.getElem?_append_left (by simp), List.getElem?_toArray, List.getElem?_append_right (Nat.le_refl _)]
        simp
      rw [hx]
      exact h
    · have hb : Nat.beq pre.length t = false := by
        cases hb : Nat.beq pre.length t with
        | true => exact absurd (Nat.eq_of_beq_eq_true hb) e
        | false => rfl
      rw [hb]
      have := argsT_rel args xs (pre ++ [x]) n ht t
      simpa using this

def resOne (tmps : Array Value) (r : ResultVar) : Sem Value :=
  match r with
  | .tmp t => pure (tmps.getD t undef)
  | .cell a t => do loadVar t (← asAddr (tmps.getD a undef))

theorem compR_run (hS : SRel G φ H F w) {tmps : Array Value} (hT : TRel φ H F w T tmps) : ∀ {rs : List ResultVar} {res : List SR} {b : Bool} {vs : List AV}, compR P rs = some res → resS T H res = some (b, vs) → b = true →
    ∃ xs : List Value, (rs.mapM (resOne tmps)).run P w = Result.ok xs w ∧ F2 (AR φ H F w) vs xs
  | [], res, b, vs, hc, hr, hb => by
    simp only [compR, Option.some.injEq] at hc
    subst hc
    simp only [resS, Option.some.injEq, Prod.mk.injEq] at hr
    obtain ⟨_, rfl⟩ := hr
    exact ⟨[], by simp, .nil⟩
  | .tmp t :: rs, res, b, vs, hc, hr, hb => by
    simp only [compR] at hc
    split at hc
    · rename_i l hl
      cases hc
      simp only [resS] at hr
      split at hr
      · rename_i b' l' hr'
        simp only [Option.some.injEq, Prod.mk.injEq] at hr
        obtain ⟨rfl, rfl⟩ := hr
        obtain ⟨xs, h1, h2⟩ := compR_run hS hT hl hr' hb
        exact ⟨_ :: xs, by simp only [List.mapM_cons, resOne, Sem.run_bind, Sem.run_pure, Result.andThen_ok, h1], .cons (hT t) h2⟩
      · cases hr
    · cases hc
  | .cell a t :: rs, res, b, vs, hc, hr, hb => by
    simp only [compR] at hc
    split at hc
    · rename_i agg n l hs hl
      cases hc
      simp only [resS] at hr
      split at hr
      · rename_i p v h' b' l' hld hr'
        simp only [Option.some.injEq, Prod.mk.injEq] at hr
        obtain ⟨rfl, rfl⟩ := hr
        simp only [Bool.and_eq_true] at hb
        obtain ⟨xs, h1, h2⟩ := compR_run hS hT hl hr' hb.2
        obtain ⟨hh, xv, h3, h4⟩ := loadS_run hs hS (hT a) hld hb.1
        have h5 : (do loadVar t (← asAddr (tmps.getD a undef)) : Sem Value).run P w = .ok xv w := by
          have hx := hT a
          generalize tmps.getD a undef = X at *
          have hptr : ∃ ad, X = .pointer (some ad) := by
            unfold loadS at hld
            split at hld
            · rename_i heq; rw [heq] at hx; obtain ⟨_, _, e, _⟩ := hx.cc.1; exact ⟨_, e⟩
            · rename_i heq; rw [heq] at hx; obtain ⟨_, _, _, _, _, e⟩ := hx.cc.1; exact ⟨_, e⟩
            · rename_i heq; rw [heq] at hx; obtain ⟨_, _, _, _, _, _, _, e, _⟩ := hx.cc.1; exact ⟨_, e⟩
            · cases hld
          obtain ⟨ad, rfl⟩ := hptr
          simpa [asAddr, Instr.loadAt, Instr.sureAddr] using h3
        exact ⟨xv :: xs, by
          have h6 : (resOne tmps (.cell a t)).run P w = Result.ok xv w := h5
          simp only [List.mapM_cons, Sem.run_bind, h6, Result.andThen_ok, h1, Sem.run_pure], .cons h4 h2⟩
      · cases hr
    · cases hc

theorem results_run {fn : Func} {tmps : Array Value} {xs : List Value} (h : (fn.results.toList.mapM (resOne tmps)).run P w = Result.ok xs w) :
    ∃ x, (results fn tmps).run P w = .ok x w ∧ ((∃ y, xs = [y] ∧ x = y) ∨ (xs.length ≠ 1 ∧ x = .tuple xs.toArray)) := by
  have hm : (fn.results.mapM (resOne tmps)).run P w = Result.ok xs.toArray w := by
    rw [Array.mapM_eq_mapM_toList]
    simp [h]
  have hres : results fn tmps = (do let vs ← fn.results.mapM (resOne tmps); pure (if h : vs.size = 1 then vs[0] else .tuple vs)) := by
    unfold results
    congr 1
  rw [hres, Sem.run_bind, hm]
  simp only [Result.andThen_ok, Sem.run_pure]
  refine ⟨_, rfl, ?_⟩
  by_cases hl : xs.length = 1
  · obtain ⟨y, rfl⟩ := List.length_eq_one_iff.1 hl
    exact .inl ⟨y, rfl, by simp⟩
  · exact .inr ⟨hl, by simp [hl]⟩

def NoCells (w : World) (b : Nat) : Prop := ∀ (c : Array Value) (e : TypeId) (f : Nat × Nat), w.heap[b]? ≠ some (Obj.cells c e f)

/-- Blocks that are no cells, turned. -/
theorem srel_nc (hS : SRel G φ H F w) {w' : World} (hsz : w'.heap.size = w.heap.size) (hb : ∀ b, w'.heap[b]? = w.heap[b]? ∨ NoCells w b ∧ NoCells w' b) :
    SRel G φ H F w' ∧ (∀ {v x}, AR φ H F w v x → AR φ H F w' v x) := by
  have hcell : ∀ b o, w'.cell? ⟨b, o, none⟩ = w.cell? ⟨b, o, none⟩ := by
    intro b o
    rcases hb b with h | ⟨h1, h2⟩
    · exact cell_of_heap h
    · have e1 : w.cell? ⟨b, o, none⟩ = none := by
        unfold World.cell?
        split
        · rename_i c e f h; exact absurd h (h1 c e f)
        · rfl
      have e2 : w'.cell? ⟨b, o, none⟩ = none := by
        unfold World.cell?
        split
        · rename_i c e f h; exact absurd h (h2 c e f)
        · rfl
      rw [e1, e2]
  have hshape : ∀ r, w'.shape? r = w.shape? r := by
    intro b
    rcases hb b with h | ⟨h1, h2⟩
    · exact shape_of_heap h
    · have e1 : w.shape? b = none := by
        unfold World.shape?
        split
        · rename_i c e f h; exact absurd h (h1 c e f)
        · rfl
      have e2 : w'.shape? b = none := by
        unfold World.shape?
        split
        · rename_i c e f h; exact absurd h (h2 c e f)
        · rfl
      rw [e1, e2]
  have kp : Keeps F F w w' := ⟨fun _ _ h => h, fun b o _ => hcell b o⟩
  have hC : ∀ {c x}, CR φ H F w c x → CR φ H F w' c x := by
    intro c x h
    cases c with
    | p v => exact Rp.keeps kp h
    | rp cs => obtain ⟨b, o, e, h⟩ := h; exact ⟨b, o, e, h.keeps kp⟩
    | ti es => obtain ⟨a, e, h⟩ := h; exact ⟨a, e, h.keeps kp⟩
    | os id n =>
      obtain ⟨sz, fz, es, h1, h2, h3⟩ := h
      refine ⟨sz, fz, es, h1, h2, fun e => ?_⟩
      rcases h3 e with h | ⟨r, cap, e', k, q1, q2, q3, q4, q5, q6⟩
      · exact .inl h
      · exact .inr ⟨r, cap, e', k, q1, q2, q3, q4, (hshape r).trans q5, q6⟩
    | _ => exact h
  have hA1 : ∀ {v x}, AR1 φ H F w v x → AR1 φ H F w' v x := by
    intro v x h
    cases h with
    | un x => exact .un x
    | c h f => exact .c (hC h) f
    | agg h => exact .agg (h.imp fun _ _ r => r.keeps kp)
    | mg h => exact .mg (h.imp fun _ _ r => ⟨hC r.1, r.2⟩)
  refine ⟨⟨hS.inj, fun i r h => by rw [hsz]; exact hS.dom i r h, hS.has, fun id b h => ?_, fun g cs h => (hS.glob g cs h).keeps kp, fun b o f => by rw [hsz]; exact hS.fin b o f⟩, fun h => ?_⟩
  · have own : ∀ {r c}, Own w r c → Own w' r c := by
      rintro r c ⟨e, he⟩
      rcases hb r with h | ⟨h1, _⟩
      · exact ⟨e, h.trans he⟩
      · exact absurd he (h1 _ _ _)
    have hB := hS.blk id b h
    cases b with
    | row cs => obtain ⟨r, c, h1, h2, h3, h4⟩ := hB; exact ⟨r, c, h1, own h2, h3, h4.imp fun _ _ q => q.keeps kp⟩
    | mrow cs => obtain ⟨r, c, h1, h2, h3, h4⟩ := hB; exact ⟨r, c, h1, own h2, h3, h4.imp fun _ _ q => ⟨hC q.1, q.2⟩⟩
    | arr sz fz es =>
      obtain ⟨h0, h1, h2⟩ := hB
      refine ⟨h0, h1, ?_⟩
      rcases h2 with h2 | ⟨r, c, h2, h3, h4, h5, h6, h7, h8⟩
      · exact .inl h2
      · refine .inr ⟨r, c, h2, own h3, h4, h5, h6, h7, fun i q j u hq hu => ?_⟩
        obtain ⟨x, hx, hr⟩ := h8 i q j u hq hu
        exact ⟨x, hx, hr.keeps kp⟩
    | hole => exact hB
  · cases h with
    | one h => exact .one (hA1 h)
    | tup h => exact .tup (h.imp fun _ _ r => hA1 r)

/-- The marks of loops over functions are taken at the end. -/
theorem unwind_marks {base : Nat} (cs : List Frame) : ∀ (rs : List Nat) (w : World) (fr : Frame), fr.mode = .returning → fr.defers = rs.map (fun r => { target := .collected r, args := #[] }) → rs.Nodup → (∀ r ∈ rs, base ≤ r ∧ w.heap[r]? = some (.deferred (some []))) →
    ∃ w', Steps P (lone fr cs w) (lone { fr with defers := [] } cs w') ∧ w'.os = w.os ∧ w'.tape = w.tape ∧ w'.output = w.output ∧ w'.heap.size = w.heap.size ∧ (∀ b, b < base → w'.heap[b]? = w.heap[b]?) ∧
      ∀ b, w'.heap[b]? = w.heap[b]? ∨ NoCells w b ∧ NoCells w' b
  | [], w, fr, hm, hd, _, _ => by
    have : { fr with defers := [] } = fr := by cases fr; simp at hd; simp [hd]
    exact ⟨w, by rw [this]; exact .refl _ _, rfl, rfl, rfl, rfl, fun _ _ => rfl, fun _ => .inl rfl⟩
  | r :: rs, w, fr, hm, hd, hn, hr => by
    obtain ⟨hr1, hr2⟩ := hr r (by simp)
    have hlt : r < w.heap.size := (Array.getElem?_eq_some_iff.1 hr2).1
    let w1 : World := { w with heap := w.heap.setIfInBounds r (.deferred none) }
    have htake : (Instr.takeDeferred r).run P w = .ok [] w1 := by
      simp [Instr.takeDeferred, getObj, setObj, Sem.run, hr2, w1]
    have hstep : step P (lone fr cs w) = .next (lone { fr with defers := rs.map (fun r => { target := .collected r, args := #[] }) } cs w1) := by
      refine step_lone_go ?_
      obtain ⟨fn, tmps, todo, defers, mode, kind, ro⟩ := fr
      simp only at hm hd
      subst hm
      subst hd
      simp [stepG, unwind, Sem.runT_eq, htake, GStep.bare_after]
    have hne : ∀ b, b ≠ r → w1.heap[b]? = w.heap[b]? := fun b hb => by simp [w1, Array.getElem?_setIfInBounds_ne (Ne.symm hb)]
    have hself : w1.heap[r]? = some (.deferred none) := by simp [w1, hlt]
    obtain ⟨w', g1, g2, g3, g4, g5, g6, g7⟩ := unwind_marks cs rs w1 { fr with defers := rs.map (fun r => { target := .collected r, args := #[] }) } hm rfl (List.nodup_cons.1 hn).2 (fun q hq => by
      have hqr : q ≠ r := fun e => (List.nodup_cons.1 hn).1 (e ▸ hq)
      exact ⟨(hr q (by simp [hq])).1, by rw [hne q hqr]; exact (hr q (by simp [hq])).2⟩)
    refine ⟨w', .head hstep g1, g2, g3, g4, by rw [g5]; simp [w1], fun b hb => by rw [g6 b hb, hne b (by omega)], fun b => ?_⟩
    by_cases hb : b = r
    · subst hb
      right
      refine ⟨(fun c e f h => by rw [hr2] at h; cases h), ?_⟩
      rcases g7 b with h | ⟨_, h⟩
      · intro c e f h'
        rw [h, hself] at h'
        cases h'
      · exact h
    · rcases g7 b with h | ⟨h1, h2⟩
      · exact .inl (h.trans (hne b hb))
      · exact .inr ⟨fun c e f h => h1 c e f (by rw [hne b hb]; exact h), h2⟩

theorem freezeA_flat {H H' : Hp} {a v : AV} {b : Bool} (h : freezeA H a = some (b, v, H')) : ∀ l, v ≠ .tup l := by
  unfold freezeA at h
  intro l e
  subst e
  split at h
  · split at h <;> simp at h
  · simp at h
  · split at h
    · rename_i cs _
      simp only [Option.some.injEq, Prod.mk.injEq] at h
      have := h.2.1
      unfold mkAgg at this
      split at this <;> cases this
    · cases h
  · cases h

theorem freezeAs_flat : ∀ {vs vs' : List AV} {H H' : Hp} {b : Bool}, freezeAs H vs = some (b, vs', H') → ∀ v ∈ vs', ∀ l, v ≠ .tup l
  | [], vs', H, H', b, h => by
    simp only [freezeAs, Option.some.injEq, Prod.mk.injEq] at h
    obtain ⟨_, rfl, _⟩ := h
    simp
  | a :: vs, vs', H, H', b, h => by
    simp only [freezeAs] at h
    split at h
    · rename_i b1 c1 H1 h1
      split at h
      · rename_i b2 r2 H2 h2
        simp only [Option.some.injEq, Prod.mk.injEq] at h
        obtain ⟨_, rfl, _⟩ := h
        intro v hv
        rcases List.mem_cons.1 hv with rfl | hv
        · exact freezeA_flat h1
        · exact freezeAs_flat h2 v hv
      · cases h
    · cases h

/-- A function's contract, out of its body. -/
theorem evG_of (m : Bool) {g : FuncId} {sf : SF} (hc : compF P g = some sf) {args : List AV} (hl : args.length = sf.np) {H : Hp} {Q : AV → Hp → Prop} (h : SemS P G sf.nt sf.body (argsT 0 args) H (endK m sf.res Q)) : EvG P G g args H Q := by
  unfold compF at hc
  split at hc
  · rename_i fn hfn
    split at hc
    · rename_i c hbody
      split at hc
      · rename_i s r hcc hr hd
        simp only [Option.some.injEq] at hc
        subst hc
        simp only [Bool.and_eq_true, decide_eq_true_eq, Bool.not_eq_true'] at hd
        obtain ⟨hd, hname⟩ := hd
        refine ⟨by simp [callable, hfn, hbody, hname], fun φ F w xs hS hx cs => ?_⟩
        have hxl : xs.length = args.length := hx.len.symm
        simp only at hl h
        let fr : Frame := Frame.enter P g xs.toArray .normal
        have htm : fr.tmps = xs.toArray ++ Array.replicate (fn.ntmps - xs.length) undef := by simp [fr, Frame.enter, hfn]
        have hp : Pre G fn.ntmps w.heap.size φ H F w (argsT 0 args) fr :=
          { run := rfl
            size := by rw [htm]; simp; omega
            defers := ⟨[], rfl, by simp, by simp⟩
            round := fun l hl => by cases hl
            base := Nat.le_refl _
            srel := hS
            trel := fun t => by rw [htm]; exact argsT_rel args xs [] _ hx t }
        obtain ⟨e, T', H', φ', F', w1, tmps', ds', hk, E, hp', hgo⟩ := h c hcc φ F w fr [] cs _ hp
        -- to the frame's end
        have hend : e ≠ .exit 0 ∧ (∀ i, e ≠ .exit i) := by
          constructor
          · intro he; rw [he] at hk; exact hk
          · intro i he; rw [he] at hk; exact hk
        have hret : ∃ todo, Steps P (lone fr cs w) (lone { fr with tmps := tmps', defers := ds', todo := todo, mode := .returning } cs w1) := by
          have hfr : ({ fr with todo := [.code c] } : Frame) = fr := by simp [fr, Frame.enter, hfn, hbody]
          cases e with
          | norm =>
            simp only [Goes, hfr] at hgo
            refine ⟨[], Steps.trans hgo (.one (step_lone_go ?_))⟩
            simp [stepG, stepG.exec, fr, Frame.enter]
          | ret =>
            simp only [Goes, hfr] at hgo
            obtain ⟨k', hgo⟩ := hgo
            refine ⟨.code .ret :: k', Steps.trans hgo (.one (step_lone_go ?_))⟩
            simp [stepG, stepG.exec, fr, Frame.enter]
          | exit i => exact absurd rfl (hend.2 i)
        obtain ⟨todo, hst⟩ := hret
        obtain ⟨rs, hrs, hnd, hrr⟩ := hp'.defers
        obtain ⟨w2, u1, u2, u3, u4, u5, u6, u7⟩ := unwind_marks (P := P) cs rs w1 { fr with tmps := tmps', defers := ds', todo := todo, mode := .returning } rfl hrs hnd hrr
        obtain ⟨S2, A2⟩ := srel_nc hp'.srel u5 u7
        have hT2 : TRel φ' H' F' w2 T' tmps' := fun t => A2 (hp'.trel t)
        have hk' : match resS T' H' r with
          | some (b, vs) => gd b (match frzR m H' vs with
            | some (b', vs', H'') => gd b' (Q (finV vs') H'')
            | none => False)
          | none => False := by
          cases e with
          | norm => exact hk
          | ret => exact hk
          | exit i => exact absurd rfl (hend.2 i)
        split at hk'
        · rename_i b vs hres
          obtain ⟨hb, hk'⟩ := gd_of hk'
          split at hk'
          · rename_i b' vs' H2 hfz
            obtain ⟨hb', hq⟩ := gd_of hk'
            obtain ⟨ys, y1, y2⟩ := compR_run S2 hT2 hr hres hb
            obtain ⟨x, x1, x2⟩ := results_run y1
            obtain ⟨F2', E2, S3, A3⟩ : ∃ Fz, Evo φ' H' F' w2 φ' H2 Fz w2 ∧ SRel G φ' H2 Fz w2 ∧ F2 (AR φ' H2 Fz w2) vs' ys := by
              cases m with
              | true => exact freezeAs_run S2 y2 hfz hb'
              | false =>
                simp only [frzR, Option.some.injEq, Prod.mk.injEq] at hfz
                obtain ⟨-, rfl, rfl⟩ := hfz
                exact ⟨F', Evo.refl _ _ _ _, S2, y2⟩
            have E1 : Evo φ H F w φ' H' F' w2 :=
              { os := u2.trans E.os, tape := u3.trans E.tape, output := u4.trans E.output, size := by rw [u5]; exact E.size
                keep := fun q hq hn => (u6 q hq).trans (E.keep q hq hn)
                kp := ⟨E.kp.mono, fun b o f => (cell_of_heap (u6 b (hS.fin b o f))).trans (E.kp.froz b o f)⟩
                newF := E.newF
                new := E.new
                be := E.be
                shp := fun q hq => (shape_of_heap (u6 q hq)).trans (E.shp q hq)
                npar := E.npar }
            have hA : AR φ' H2 F2' w2 (finV vs') x := by
              rcases x2 with ⟨y, rfl, rfl⟩ | ⟨hne, rfl⟩
              · cases A3 with
                | cons h t => cases t; exact h
              · have hlv : vs'.length ≠ 1 := by rw [A3.len]; exact hne
                have hfin : finV vs' = .tup vs' := by
                  unfold finV
                  split
                  · simp at hlv
                  · rfl
                rw [hfin]
                refine .tup ?_
                have hno : ∀ v ∈ vs', ∀ l, v ≠ .tup l := by
                  cases m with
                  | true => exact freezeAs_flat hfz
                  | false =>
                    simp only [frzR, Option.some.injEq, Prod.mk.injEq] at hfz
                    obtain ⟨e1, rfl, -⟩ := hfz
                    intro v hv l e
                    rw [← e1] at hb'
                    have := List.all_eq_true.1 hb' v hv
                    rw [e] at this
                    cases this
                clear hlv hfin hq hk' hfz hne x1 y1 y2
                induction A3 with
                | nil => exact .nil
                | cons h _ ih =>
                  refine .cons ?_ (ih fun v hv => hno v (by simp [hv]))
                  cases h with
                  | one h => exact h
                  | tup h => exact absurd rfl (hno _ List.mem_cons_self _)
            exact ⟨.returned x, w2, _, ⟨finV vs', H2, φ', F2', x, hq, rfl, E1.trans E2, S3, hA⟩, hst.trans u1, rfl, rfl, rfl, rfl, fn, hfn, x1⟩
          · exact hk'.elim
        · exact hk'.elim
      · cases hc
    · cases hc
  · cases hc
end
end Go.Ab
