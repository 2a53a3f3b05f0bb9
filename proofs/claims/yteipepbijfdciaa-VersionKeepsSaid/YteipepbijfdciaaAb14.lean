/- A range over a function: the rule, out of the iterator's contract. No condition. -/
import Derived.Test.YteipepbijfdciaaAb13
import Derived.RangeFuncNested
set_option linter.unusedSimpArgs false
set_option linter.unusedVariables false
namespace Go.Ab
open Go Go.RowKit

section
variable {P : Program} {G : Gl} {N : Nat} {φ φ' : Pl} {H H' : Hp} {F F' : Cl} {w w' : World} {T T' : Tm}

theorem cells_eq {W W' : World} {b : Nat} (h : W'.heap[b]? = W.heap[b]? ∨ NoCells W b ∧ NoCells W' b) : (∀ o, W'.cell? ⟨b, o, none⟩ = W.cell? ⟨b, o, none⟩) ∧ W'.shape? b = W.shape? b ∧ ∀ c, Own W b c → Own W' b c := by
  rcases h with h | ⟨h1, h2⟩
  · exact ⟨fun o => cell_of_heap h, shape_of_heap h, fun c ⟨e, he⟩ => ⟨e, h.trans he⟩⟩
  · have e1 : ∀ {W : World}, NoCells W b → (∀ o, W.cell? ⟨b, o, none⟩ = none) ∧ W.shape? b = none := by
      intro W h
      refine ⟨fun o => ?_, ?_⟩
      · unfold World.cell?
        split
        · rename_i c e f h'; exact absurd h' (h c e f)
        · rfl
      · unfold World.shape?
        split
        · rename_i c e f h'; exact absurd h' (h c e f)
        · rfl
    exact ⟨fun o => by rw [(e1 h1).1, (e1 h2).1], by rw [(e1 h1).2, (e1 h2).2], fun c ⟨e, he⟩ => absurd he (h1 _ _ _)⟩

/-- Blocks that are no cells turned, and others laid: memory is as it was. -/
theorem evo_nc {W W' : World} (E : Evo φ H F w φ' H' F' W) (hS : SRel G φ' H' F' W) (hos : W'.os = W.os) (htp : W'.tape = W.tape) (hou : W'.output = W.output) (hsz : W.heap.size ≤ W'.heap.size)
    (hb : ∀ b, b < W.heap.size → W'.heap[b]? = W.heap[b]? ∨ w.heap.size ≤ b ∧ NoCells W b ∧ NoCells W' b) : Evo φ H F w φ' H' F' W' ∧ SRel G φ' H' F' W' := by
  have hb' : ∀ b, b < W.heap.size → W'.heap[b]? = W.heap[b]? ∨ NoCells W b ∧ NoCells W' b := fun b h => (hb b h).imp id fun q => q.2
  have kp : Keeps F' F' W W' := ⟨fun _ _ h => h, fun b o f => (cells_eq (hb' b (hS.fin b o f))).1 o⟩
  have old : ∀ b, b < w.heap.size → W'.heap[b]? = W.heap[b]? := fun b h => by
    rcases hb b (Nat.lt_of_lt_of_le h E.size) with h' | ⟨h', _⟩
    · exact h'
    · omega
  have E0 : Evo φ H F w φ' H' F' W' :=
    { os := hos.trans E.os, tape := htp.trans E.tape, output := hou.trans E.output, size := Nat.le_trans E.size hsz
      keep := fun r hr hn => (old r hr).trans (E.keep r hr hn)
      kp := E.kp.trans kp
      newF := E.newF
      new := E.new
      be := E.be
      shp := fun r hr => (shape_of_heap (old r hr)).trans (E.shp r hr)
      npar := E.npar }
  have hC : ∀ {c x}, CR φ' H' F' W c x → CR φ' H' F' W' c x := by
    intro c x h
    cases c with
    | p v => exact Rp.keeps kp h
    | rp cs => obtain ⟨b, o, e, h⟩ := h; exact ⟨b, o, e, h.keeps kp⟩
    | ti es => obtain ⟨a, e, h⟩ := h; exact ⟨a, e, h.keeps kp⟩
    | os id n =>
      obtain ⟨sz, fz, es, h1, h2, h3⟩ := h
      refine ⟨sz, fz, es, h1, h2, fun e => ?_⟩
      rcases h3 e with h | ⟨r, cap, e', k, q1, q2, q3, q4, q5, q6⟩
      · exact .inl h
      · exact .inr ⟨r, cap, e', k, q1, q2, q3, q4, ((cells_eq (hb' r (lt_of_shape q5))).2.1).trans q5, q6⟩
    | _ => exact h
  refine ⟨E0, hS.inj, fun i r h => Nat.lt_of_lt_of_le (hS.dom i r h) hsz, hS.has, fun id b h => ?_, fun g cs h => (hS.glob g cs h).keeps kp, fun b o f => Nat.lt_of_lt_of_le (hS.fin b o f) hsz⟩
  have own : ∀ {r c}, Own W r c → Own W' r c := fun {r c} h => (cells_eq (hb' r (by obtain ⟨e, he⟩ := h; exact (Array.getElem?_eq_some_iff.1 he).1))).2.2 c h
  have hB := hS.blk id b h
  cases b with
  | row cs => obtain ⟨r, c, h1, h2, h3, h4⟩ := hB; exact ⟨r, c, h1, own h2, h3, h4.imp fun _ _ q => q.keeps kp⟩
  | mrow cs => obtain ⟨r, c, h1, h2, h3, h4⟩ := hB; exact ⟨r, c, h1, own h2, h3, h4.imp fun _ _ q => ⟨hC q.1, q.2⟩⟩
  | arr sz fz es =>
    obtain ⟨h0, h1, h2⟩ := hB
    refine ⟨h0, h1, ?_⟩
    rcases h2 with h2 | ⟨r, c, h2, h3, h4, h5, h6, h7, h8⟩
    · exact .inl h2
    · refine .inr ⟨r, c, h2, own h3, h4, h5, h6, h7, fun i q j u hq hu => ?_⟩
      obtain ⟨x, hx, hr⟩ := h8 i q j u hq hu
      exact ⟨x, hx, hr.keeps kp⟩
  | hole => exact hB

theorem evo_alloc {W : World} (E : Evo φ H F w φ' H' F' W) (hS : SRel G φ' H' F' W) (o : Obj) : Evo φ H F w φ' H' F' (W.alloc o) ∧ SRel G φ' H' F' (W.alloc o) :=
  evo_nc E hS rfl rfl rfl (by simp) fun b hb => .inl (Below.heap_alloc W o b hb)

theorem evo_putObj {W : World} (E : Evo φ H F w φ' H' F' W) (hS : SRel G φ' H' F' W) {l : Nat} {o o' : Obj} (hl : W.heap[l]? = some o) (hwl : w.heap.size ≤ l) (ho : o.isCells = false) (ho' : o'.isCells = false) :
    Evo φ H F w φ' H' F' (W.putObj l o') ∧ SRel G φ' H' F' (W.putObj l o') := by
  refine evo_nc E hS rfl rfl rfl (by simp [World.putObj]) fun b hb => ?_
  by_cases e : b = l
  · subst e
    refine .inr ⟨hwl, fun c e f h => ?_, fun c e f h => ?_⟩
    · rw [hl] at h; cases h; simp [Obj.isCells] at ho
    · rw [World.putObj_heap_same (Array.getElem?_eq_some_iff.1 hl).1] at h; cases h; simp [Obj.isCells] at ho'
  · exact .inl (World.putObj_heap_other e)

theorem evo_grown {W W' : World} (E : Evo φ H F w φ' H' F' W) (hS : SRel G φ' H' F' W) (hg : W.grownBy W' none) : Evo φ H F w φ' H' F' W' ∧ SRel G φ' H' F' W' :=
  evo_nc E hS hg.os hg.tape hg.output hg.size fun b hb => .inl (hg.block b hb (by simp))

/-- An iterator that hands over the numbers of a list, in order, and lays nothing but new blocks. -/
def SeqN (P : Program) (F : Cl) (gi : FuncId) (lb : Array Value) (xs : List Int) (w : World) : Prop :=
  ∀ (l : Nat) (J Jx : List Int → World → Prop) (W : World), Below w.heap.size w W → (∀ s A B, J s A → A.grownBy B none → J s B) → (∀ s A B, Jx s A → A.grownBy B none → Jx s B) →
    (∀ pre x W1, J pre W1 → pre ++ [x] <+: xs → YieldAt Fence.wide 5 P l #[.int .i64 x] W1 fun e W' =>
      (e = .returned (.bool true) ∧ J (pre ++ [x]) W' ∧ W1.heap.size ≤ W'.heap.size ∧ ∀ b o, F b o → W'.cell? ⟨b, o, none⟩ = W1.cell? ⟨b, o, none⟩) ∨ (e = .returned (.bool false) ∧ Jx (pre ++ [x]) W')) →
    J [] W →
    Calls P gi (#[.func (.yield l) #[] #[]] ++ lb) W fun e W' => (∃ v, e = .returned v) ∧ (J xs W' ∨ ∃ pre, Jx pre W')

theorem marks_inj : ∀ {x y : List Nat}, (x.map fun r => ({ target := .collected r, args := #[] } : Deferred)) = (y.map fun r => { target := .collected r, args := #[] }) → x = y
  | [], [], _ => rfl
  | [], _ :: _, h => by simp at h
  | _ :: _, [], h => by simp at h
  | a :: x, b :: y, h => by
    simp only [List.map_cons, List.cons.injEq, Deferred.mk.injEq, Target.collected.injEq, and_true] at h
    rw [h.1, marks_inj h.2]

def jumpOf : Ex → Option Code
  | .norm => none
  | .exit id => some (.exit id)
  | .ret => some .ret

theorem run_enterLoop {fr : Frame} (hr : RoundOk w fr.roundOf) (ps : Array Tmp) (ca cb : Code) : ∃ (l : Nat) (ms : List Nat) (W1 : World) (D : Nat),
    (Instr.enterLoop fr.fn fr.tmps ps ca cb fr.roundOf).run P w = .ok (l, ms.map fun r => { target := .collected r, args := #[] }) W1 ∧
    W1.heap[l]? = some (.loop { state := .ready, pending := none, fn := fr.fn, tmps := fr.tmps, params := ps, assign := ca, body := cb, defers := D }) ∧
    w.heap.size ≤ l ∧ ms.Nodup ∧ (∀ r ∈ ms, w.heap.size ≤ r ∧ W1.heap[r]? = some (.deferred (some []))) ∧ Below w.heap.size w W1 ∧ W1.os = w.os ∧ W1.tape = w.tape ∧ W1.output = w.output ∧ w.heap.size ≤ W1.heap.size ∧ (∀ b, b < w.heap.size → W1.heap[b]? = w.heap[b]?) := by
  cases hro : fr.roundOf with
  | none =>
    refine ⟨w.heap.size + 1, [w.heap.size], _, w.heap.size, run_enterLoop_outer _ _ _ _ _, ?_, by omega, by simp, ?_, ?_, rfl, rfl, rfl, by simp; omega, fun b hb => ?_⟩
    · have := World.alloc_heap_new (w.alloc (.deferred (some []))) (.loop { state := .ready, pending := none, fn := fr.fn, tmps := fr.tmps, params := ps, assign := ca, body := cb, defers := w.heap.size })
      rwa [World.size_alloc] at this
    · intro r hr
      simp at hr
      subst hr
      exact ⟨Nat.le_refl _, (Below.heap_alloc _ _ _ (by simp)).trans (World.alloc_heap_new w _)⟩
    · exact ((Below.refl _ w).alloc (Nat.le_refl _) _).alloc (by simp) _
    · exact (Below.heap_alloc _ _ _ (by simp; omega)).trans (Below.heap_alloc _ _ _ hb)
  | some l0 =>
    obtain ⟨r0, h0⟩ := hr l0 hro
    refine ⟨w.heap.size, [], _, r0.defers, run_enterLoop_inner h0 _ _ _ _ _, World.alloc_heap_new w _, Nat.le_refl _, by simp, by simp, (Below.refl _ w).alloc (Nat.le_refl _) _, rfl, rfl, rfl, by simp, fun b hb => Below.heap_alloc _ _ _ hb⟩

/-- A range over an iterator. -/
theorem sem_rf {f : Operand} {z : SA} {p : Nat} {ca cb : Code} {gi : FuncId} {caps : List Id} {K : Ex → Tm → Hp → Prop} (hz : compA f = some z) (hv : evS G T z = .c (.fn gi caps)) (hpn : p < N) (hgi : callable P gi = true) {xs : List Int}
    (hseq : ∀ φ F w (cv : List Value), SRel G φ H F w → F2 (fun id v => ∃ b r, H.get id = some b ∧ b.isRow = true ∧ φ id = some r ∧ v = .pointer (some ⟨r, 0, none⟩)) caps cv → SeqN P F gi cv.toArray xs w)
    (Inv : List Int → Hp → Prop) (Kx : Ex → Hp → Prop) (h0 : Inv [] H)
    (round : ∀ pre x H1, pre ++ [x] <+: xs → Inv pre H1 → SemC P G N ca (T.put (some p) (.c (.p (.int .i64 x)))) H1 fun e T2 H2 => e = .norm ∧ SemC P G N cb T2 H2 fun e T3 H3 => match e with | .norm => Inv (pre ++ [x]) H3 | e => Kx e H3)
    (done : ∀ H1, Inv xs H1 → K .norm T H1) (stop : ∀ e H1, e ≠ .norm → Kx e H1 → K e T H1) : SemC P G N (.rangeFunc f #[p] ca cb) T H K := by
  intro φ F w fr k cs base hp
  have hfv := eval_rel hp.srel hp.trel f z hz
  rw [hv] at hfv
  obtain ⟨cv, hcv, hcaps⟩ := hfv.cc.1
  obtain ⟨l, ms, W1, D, hent, hl1, hwl, hnd, hms, hB1, o1, o2, o3, hsz1, hold⟩ := run_enterLoop (P := P) hp.round #[p] ca cb
  obtain ⟨E1, S1⟩ := evo_nc (Evo.refl φ H F w) hp.srel o1 o2 o3 hsz1 fun b hb => .inl (hold b hb)
  obtain ⟨rec, hrec⟩ : ∃ rec : LoopState → Option Code → Loop, rec = fun st pe => { state := st, pending := pe, fn := fr.fn, tmps := fr.tmps, params := #[p], assign := ca, body := cb, defers := D } := ⟨_, rfl⟩
  have hl1' : W1.heap[l]? = some (.loop (rec .ready none)) := by rw [hrec]; exact hl1
  have hmne : ∀ r ∈ ms, r ≠ l := fun r hr e => by
    have := (hms r hr).2
    rw [e, hl1] at this
    cases this
  -- what is held between two rounds
  let J : List Int → World → Prop := fun pre W => ∃ φ' H' F', Inv pre H' ∧ Evo φ H F w φ' H' F' W ∧ SRel G φ' H' F' W ∧ W.heap[l]? = some (.loop (rec .ready none)) ∧ ∀ r ∈ ms, W.heap[r]? = some (.deferred (some []))
  let Jx : List Int → World → Prop := fun _ W => ∃ e φ' H' F', e ≠ .norm ∧ Kx e H' ∧ Evo φ H F w φ' H' F' W ∧ SRel G φ' H' F' W ∧ W.heap[l]? = some (.loop (rec .done (jumpOf e))) ∧ ∀ r ∈ ms, W.heap[r]? = some (.deferred (some []))
  have hgr : ∀ {A B : World} {o : Obj} {r : Nat}, A.grownBy B none → A.heap[r]? = some o → B.heap[r]? = some o := fun hg h => (hg.block _ (Array.getElem?_eq_some_iff.1 h).1 (by simp)).trans h
  have hJ : ∀ s A B, J s A → A.grownBy B none → J s B := by
    rintro s A B ⟨φ', H', F', h1, h2, h3, h4, h5⟩ hg
    obtain ⟨E', S'⟩ := evo_grown h2 h3 hg
    exact ⟨φ', H', F', h1, E', S', hgr hg h4, fun r hr => hgr hg (h5 r hr)⟩
  have hJx : ∀ s A B, Jx s A → A.grownBy B none → Jx s B := by
    rintro s A B ⟨e, φ', H', F', h0, h1, h2, h3, h4, h5⟩ hg
    obtain ⟨E', S'⟩ := evo_grown h2 h3 hg
    exact ⟨e, φ', H', F', h0, h1, E', S', hgr hg h4, fun r hr => hgr hg (h5 r hr)⟩
  have hcall := hseq φ F w cv hp.srel hcaps l J Jx W1 hB1 hJ hJx ?_ ⟨φ, H, F, h0, E1, S1, hl1', fun r hr => (hms r hr).2⟩
  · -- behind the iterator
    let c : Frame := { fr with todo := .inRangeFunc l :: k, defers := (ms.map fun r => ({ target := .collected r, args := #[] } : Deferred)) ++ fr.defers }
    have hat : ∀ (ds : List Deferred) (t : List Item), ({ fr with todo := t, defers := ds } : Frame) = fr.atR { tmps := fr.tmps, defers := ds } t := fun ds t => by simp [Frame.atR, ← hp.run]
    have hrun : ∀ (xs : Array Value) (W : World), (callFunc gi xs).run P W = .ok (.enter gi xs) W := by
      intro xs W
      have hgi' := hgi
      unfold callable at hgi'
      split at hgi'
      · rename_i fn hfn
        simp only [Bool.and_eq_true, Bool.not_eq_true'] at hgi'
        have hb : ¬ fn.body = none := by
          intro hbb
          rw [hbb] at hgi'
          simp at hgi'
        have hn : ¬ fn.name = "runtime.NumGoroutine" := by
          have := hgi'.2
          simpa using this
        simp [callFunc, hfn, hn, hb]
      · cases hgi'
    have henter : step P (lone { fr with todo := .code (.rangeFunc f #[p] ca cb) :: k } cs w) = .next (lone (Frame.enter P gi (#[.func (.yield l) #[] #[]] ++ cv.toArray) .normal) (c :: cs) W1) := by
      have h1 : ({ fr with todo := .code (.rangeFunc f #[p] ca cb) :: k } : Frame) = fr.atR { tmps := fr.tmps, defers := fr.defers } (.code (.rangeFunc f #[p] ca cb) :: k) := hat fr.defers _
      have hg : ({ tmps := fr.tmps, defers := fr.defers } : Act).eval f = .func (.func gi) #[] cv.toArray := by rw [← hcv]; cases f <;> rfl
      rw [h1, show c = fr.atR { tmps := fr.tmps, defers := (ms.map fun r => ({ target := .collected r, args := #[] } : Deferred)) ++ fr.defers } (.inRangeFunc l :: k) from hat _ _]
      refine stepR_rangeFunc (d := { target := .fn (.func gi) cv.toArray, args := #[.func (.yield l) #[] #[]] }) (w₁' := W1) hent ?_ ?_
      · simp only [resolve, hg]
        simp [go_sem]
      · simp [invoke, go_sem, hrun]
    obtain ⟨e, W2, fr2, ⟨⟨v, rfl⟩, hpost⟩, hcomes, hfn, hleave⟩ := hcall (c :: cs)
    have hfin : c.finish v = { c with todo := .endRangeFunc l :: k } := by simp [c, Frame.finish]
    have hsteps : Steps P (lone { fr with todo := .code (.rangeFunc f #[p] ca cb) :: k } cs w) (lone { c with todo := .endRangeFunc l :: k } cs W2) := by
      refine .head henter (Steps.trans hcomes (.one ?_))
      rw [← hfin]
      exact step_leave_returned hleave
    have hds : ∀ {W : World}, (∀ r ∈ ms, W.heap[r]? = some (.deferred (some []))) → DOk W base fr.defers → DOk W base ((ms.map fun r => ({ target := .collected r, args := #[] } : Deferred)) ++ fr.defers) := by
      rintro W hm ⟨rs, q1, q2, q3⟩
      refine ⟨ms ++ rs, by rw [q1, List.map_append], ?_, ?_⟩
      · refine List.nodup_append.2 ⟨hnd, q2, fun a ha b hb e => ?_⟩
        subst e
        obtain ⟨rs', q1', -, q3'⟩ := hp.defers
        have : rs = rs' := by
          have := q1.symm.trans q1'
          exact marks_inj this
        subst this
        have h1 := (hms a ha).1
        have h2 := (Array.getElem?_eq_some_iff.1 (q3' a hb).2).1
        omega
      · intro r hr
        rcases List.mem_append.1 hr with h | h
        · exact ⟨Nat.le_trans hp.base (hms r h).1, hm r h⟩
        · exact q3 r h
    have finish : ∀ (e : Ex) (st : LoopState) (φ' : Pl) (H' : Hp) (F' : Cl), st ≠ .busy → K e T H' → Evo φ H F w φ' H' F' W2 → SRel G φ' H' F' W2 → W2.heap[l]? = some (.loop (rec st (jumpOf e))) → (∀ r ∈ ms, W2.heap[r]? = some (.deferred (some []))) →
        ∃ e T' H' φ' F' w' tmps' ds', K e T' H' ∧ Evo φ H F w φ' H' F' w' ∧ Pre G N base φ' H' F' w' T' { fr with tmps := tmps', defers := ds' } ∧ Goes P fr (.code (.rangeFunc f #[p] ca cb)) k cs w e { fr with tmps := tmps', defers := ds' } w' := by
      intro e st φ' H' F' hst hK E2 S2 hl2 hm2
      have hend := run_endLoop (P := P) hl2 (by rw [hrec]; exact hst)
      obtain ⟨E3, S3⟩ := evo_putObj E2 S2 (o' := .loop { rec st (jumpOf e) with state := .exhausted }) hl2 hwl rfl rfl
      have hm3 : ∀ r ∈ ms, (W2.putObj l (.loop { rec st (jumpOf e) with state := .exhausted })).heap[r]? = some (.deferred (some [])) := fun r hr => (World.putObj_heap_other (hmne r hr)).trans (hm2 r hr)
      refine ⟨e, T, H', φ', F', _, fr.tmps, c.defers, hK, E3, { run := hp.run, size := hp.size, defers := hds hm3 (hp.defers.evo hp.srel E3), round := hp.round.evo hp.srel E3, base := Nat.le_trans hp.base E3.size, srel := S3, trel := hp.trel.evo E3 }, ?_⟩
      have hlast : step P (lone { c with todo := .endRangeFunc l :: k } cs W2) = .next (lone { c with todo := ((jumpOf e).map Item.code).toList ++ k } cs (W2.putObj l (.loop { rec st (jumpOf e) with state := .exhausted }))) := by
        have hend := hend.trans (show Result.ok (rec st (jumpOf e)).pending (W2.putObj l (.loop { rec st (jumpOf e) with state := .exhausted })) = .ok (jumpOf e) (W2.putObj l (.loop { rec st (jumpOf e) with state := .exhausted })) by rw [hrec])
        rw [show ({ c with todo := .endRangeFunc l :: k } : Frame) = fr.atR { tmps := fr.tmps, defers := (ms.map fun r => ({ target := .collected r, args := #[] } : Deferred)) ++ fr.defers } (.endRangeFunc l :: k) from hat _ _]
        rw [show ({ c with todo := ((jumpOf e).map Item.code).toList ++ k } : Frame) = fr.atR { tmps := fr.tmps, defers := (ms.map fun r => ({ target := .collected r, args := #[] } : Deferred)) ++ fr.defers } (((jumpOf e).map Item.code).toList ++ k) from hat _ _]
        exact stepR_endRangeFunc hend
      have hall := Steps.trans hsteps (.one hlast)
      cases e with
      | norm => exact hall
      | exit id => exact ⟨k, rfl, hall⟩
      | ret => exact ⟨k, hall⟩
    rcases hpost with ⟨φ', H', F', h1, h2, h3, h4, h5⟩ | ⟨_, e, φ', H', F', h0, h1, h2, h3, h4, h5⟩
    · exact finish .norm .ready φ' H' F' (by simp) (done H' h1) h2 h3 h4 h5
    · exact finish e .done φ' H' F' (by simp) (stop e H' h0 h1) h2 h3 h4 h5
  · -- a round
    rintro pre x W ⟨φ2, H2, F2', hI, E2, S2, hl2, hm2⟩ hpre
    have hy := run_yield (P := P) (args := #[.int .i64 x]) hl2 (by rw [hrec]; rfl)
    rw [hrec] at hy
    refine ⟨fr.fn, _, ca, cb, hy, trivial, fun c cs' _ => ?_⟩
    clear hy
    obtain ⟨t1, ht1⟩ : ∃ t1, t1 = fr.tmps.setIfInBounds p (.int .i64 x) := ⟨_, rfl⟩
    let b0 : Frame := { (default : Frame) with fn := fr.fn, kind := .normal, roundOf := some l }
    have hrd : Frame.round l fr.fn (((#[p] : Array Tmp).zip #[Value.int .i64 x]).foldl (fun tmps (t, a) => tmps.setIfInBounds t a) fr.tmps) ca cb .normal = b0.atR { tmps := t1, defers := [] } (.code ca :: [.beginRound, .code cb]) := by
      rw [ht1]; simp [Frame.round, Frame.atR, b0]
    rw [hrd]
    have hput : ∀ (W : World) (o : Obj), (W.putObj l o).heap.size = W.heap.size := fun W o => by simp [World.putObj]
    have hnc : ∀ {W : World} {o o' : Obj}, W.heap[l]? = some o → o.isCells = false → o'.isCells = false → ∀ b, (W.putObj l o').heap[b]? = W.heap[b]? ∨ NoCells W b ∧ NoCells (W.putObj l o') b := by
      intro W o o' h ho ho' b
      by_cases e : b = l
      · subst e
        refine .inr ⟨fun c e f h' => ?_, fun c e f h' => ?_⟩
        · rw [h] at h'; cases h'; simp [Obj.isCells] at ho
        · rw [World.putObj_heap_same (Array.getElem?_eq_some_iff.1 h).1] at h'; cases h'; simp [Obj.isCells] at ho'
      · exact .inl (World.putObj_heap_other e)
    have p0 : Pre G N 0 φ2 H2 F2' W (T.put (some p) (.c (.p (.int .i64 x)))) (b0.atR { tmps := t1, defers := [] } []) :=
      { run := rfl, size := by rw [ht1]; simp [Frame.atR, hp.size], defers := ⟨[], rfl, by simp, by simp⟩, round := fun l' hl' => by cases hl'; exact ⟨_, hl2⟩, base := Nat.zero_le _, srel := S2
        trel := by rw [ht1]; exact (hp.trel.evo E2).put (by rw [hp.size]; exact hpn) (.ofCR (.int .i64 x) rfl) }
    obtain ⟨e, T3, H3, φ3, F3, W3, tm3, ds3, ⟨rfl, hbody⟩, E3, p3, g3⟩ := round pre x H2 hpre hI φ2 F2' W _ [.beginRound, .code cb] (c :: cs') 0 p0
    have hl3 := E3.other S2 hl2 (by simp)
    have hbr := run_beginRound (P := P) hl3 (by rw [hrec])
    obtain ⟨E3b, S3b⟩ := evo_putObj (E2.trans E3) p3.srel (o' := .loop { rec .ready none with state := .busy }) hl3 hwl rfl rfl
    obtain ⟨-, A3b⟩ := srel_nc p3.srel (hput W3 (.loop { rec .ready none with state := .busy })) (hnc hl3 rfl rfl)
    have hl3b : (W3.putObj l (.loop { rec .ready none with state := .busy })).heap[l]? = some (.loop { rec .ready none with state := .busy }) := World.putObj_heap_same (Array.getElem?_eq_some_iff.1 hl3).1
    have p3b : Pre G N 0 φ3 H3 F3 (W3.putObj l (.loop { rec .ready none with state := .busy })) T3 (b0.atR { tmps := tm3, defers := ds3 } []) :=
      { run := rfl, size := p3.size
        defers := by
          obtain ⟨rs, q1, q2, q3⟩ := p3.defers
          refine ⟨rs, q1, q2, fun r hr => ⟨Nat.zero_le _, (World.putObj_heap_other fun e => ?_).trans (q3 r hr).2⟩⟩
          have := (q3 r hr).2
          rw [e, hl3] at this
          cases this
        round := fun l' hl' => by cases hl'; exact ⟨_, hl3b⟩, base := Nat.zero_le _, srel := S3b, trel := fun t => A3b (p3.trel t) }
    obtain ⟨e, T4, H4, φ4, F4, W4, tm4, ds4, hk4, E4, p4, g4⟩ := hbody φ3 F3 _ _ [] (c :: cs') 0 p3b
    have hl4 := E4.other S3b hl3b (by simp)
    have hend := run_endRound (P := P) (jumpOf e) hl4
    obtain ⟨E5, S5⟩ := evo_putObj (E3b.trans E4) p4.srel (o' := .loop { rec .ready none with state := if (jumpOf e).isNone then .ready else .done, pending := jumpOf e }) hl4 hwl rfl rfl
    have hl5 : (W4.putObj l (.loop { rec .ready none with state := if (jumpOf e).isNone then .ready else .done, pending := jumpOf e })).heap[l]? = some (.loop (rec (if (jumpOf e).isNone then .ready else .done) (jumpOf e))) := by
      rw [World.putObj_heap_same (Array.getElem?_eq_some_iff.1 hl4).1, hrec]
    have hm5 : ∀ r ∈ ms, (W4.putObj l (.loop { rec .ready none with state := if (jumpOf e).isNone then .ready else .done, pending := jumpOf e })).heap[r]? = some (.deferred (some [])) := fun r hr =>
      (World.putObj_heap_other (hmne r hr)).trans (E4.other S3b ((World.putObj_heap_other (hmne r hr)).trans (E3.other S2 (hm2 r hr) (by simp))) (by simp))
    have hsz5 : ∀ {o : Obj}, W.heap.size ≤ (W4.putObj l o).heap.size := fun {o} => by
      rw [hput]
      have h3 := E3.size
      have h4 := E4.size
      rw [hput] at h4
      omega
    have s3 : Steps P (lone (b0.atR { tmps := t1, defers := [] } (.code ca :: [.beginRound, .code cb])) (c :: cs') W) (lone (b0.atR { tmps := tm3, defers := ds3 } [.code cb]) (c :: cs') (W3.putObj l (.loop { rec .ready none with state := .busy }))) :=
      Steps.trans g3 (.one (stepR_beginRound (b := b0) (a := { tmps := tm3, defers := ds3 }) rfl hbr))
    cases e with
    | norm =>
      exact ⟨.returned (.bool true), _, .inl ⟨rfl, ⟨φ4, H4, F4, hk4, E5, S5, hl5, hm5⟩, hsz5, fun b o f => (E5.kp.froz b o f).trans (E2.kp.froz b o f).symm⟩, comesIn_wide.2 (Steps.trans s3 (Steps.trans g4 (.one (stepR_round_end (b := b0) (a := { tmps := tm4, defers := ds4 }) rfl rfl hend))))⟩
    | ret =>
      obtain ⟨k', g4⟩ := g4
      exact ⟨.returned (.bool false), _, .inr ⟨rfl, .ret, φ4, H4, F4, by simp, hk4, E5, S5, hl5, hm5⟩, comesIn_wide.2 (Steps.trans s3 (Steps.trans g4 (.one (stepR_round_ret (b := b0) (a := { tmps := tm4, defers := ds4 }) rfl rfl hend))))⟩
    | exit id =>
      obtain ⟨k', hx, g4⟩ := g4
      exact ⟨.returned (.bool false), _, .inr ⟨rfl, .exit id, φ4, H4, F4, by simp, hk4, E5, S5, hl5, hm5⟩, comesIn_wide.2 (Steps.trans s3 (Steps.trans g4 (.one (stepR_round_exit (b := b0) (a := { tmps := tm4, defers := ds4 }) rfl rfl (hx.trans rfl) hend))))⟩

theorem compC_rf {z : SA} {ps : List Nat} {a b : SC} : ∀ (c : Code), compC P N c = some (.rf z ps a b) → (∃ f p ca cb, c = .rangeFunc f p ca cb ∧ compA f = some z ∧ p.toList = ps ∧ compC P N ca = some a ∧ compC P N cb = some b ∧ ps.all (fun p => decide (p < N)) = true) ∨ ∃ c', c = .scope c' ∧ compC P N c' = some (.rf z ps a b) := by
  intro c hc
  cases c with
  | scope c => exact .inr ⟨c, rfl, by simpa only [compC] using hc⟩
  | rangeFunc f p ca cb =>
    simp only [compC] at hc
    split at hc
    · rename_i x y q h1 h2 h3 h4
      simp only [Option.some.injEq, SC.rf.injEq] at hc
      obtain ⟨rfl, rfl, rfl, rfl⟩ := hc
      exact .inl ⟨f, p, ca, cb, rfl, h1, rfl, h2, h3, h4⟩
    · cases hc
  | _ =>
    simp only [compC] at hc
    repeat' split at hc
    all_goals cases hc

/-- What a round's end asks, in plain form. -/
def roundRF (Inv : Hp → Prop) (Kx : Ex → Hp → Prop) (e : Ex) (_ : Tm) (H : Hp) : Prop :=
  match e with
  | .norm => Inv H
  | e => Kx e H

theorem SemS.rf (fl : Bool) (hm : P.follows .mixedOrders = true) {z : SA} {p : Nat} {a b : SC} {gi : FuncId} {id : Id} {s : Int} {K : Ex → Tm → Hp → Prop} (hv : evS G T z = .c (.fn gi [id])) (hgi : callable P gi = true) (hid : H.get id = some (.row [.int .u16 s])) {xs : List Int}
    (hseq : ∀ (F : Cl) w r, (∀ g cs, G g = some cs → At F w g 0 cs) → (∀ b o, F b o → b < w.heap.size) → w.cell? ⟨r, 0, none⟩ = some (.int .u16 s) → SeqN P F gi #[.pointer (some ⟨r, 0, none⟩)] xs w)
    (Inv : List Int → Hp → Prop) (Kx : Ex → Hp → Prop) (h0 : Inv [] H)
    (round : ∀ pre x H1, pre ++ [x] <+: xs → Inv pre H1 → wpf P G fl N a ((p, .c (.p (.int .i64 x))) :: T) H1 fun e T2 H2 => e = .norm ∧ wpf P G fl N b T2 H2 (roundRF (Inv (pre ++ [x])) Kx))
    (done : ∀ H1, Inv xs H1 → K .norm T H1) (stop : ∀ e H1, e ≠ .norm → Kx e H1 → K e T H1) : SemS P G N (.rf z [p] a b) T H K := by
  intro c
  induction c with
  | scope c ih =>
    intro hc
    exact sem_scope (ih (by simpa only [compC] using hc))
  | rangeFunc f ps ca cb _ _ =>
    intro hc
    rcases compC_rf _ hc with ⟨f', p', ca', cb', e, h1, h2, h3, h4, h5⟩ | ⟨c', e, _⟩
    · cases e
      obtain rfl : ps = #[p] := by cases ps; simpa using h2
      refine sem_rf h1 hv (by simpa using h5) hgi ?_ Inv Kx h0 ?_ done stop
      · intro φ F w cv hS hcv
        cases hcv with
        | cons hx ht =>
          cases ht
          obtain ⟨_, r, -, -, hφ, rfl⟩ := hx
          refine hseq F w r hS.glob hS.fin ?_
          obtain ⟨r', c, q1, ⟨e, q2⟩, -, q4⟩ := hS.blk id _ hid
          rw [hφ] at q1
          cases q1
          cases hcc : c.toList with
          | nil => rw [hcc] at q4; cases q4
          | cons v l =>
            rw [hcc] at q4
            cases q4 with
            | cons hv hl =>
              cases hv
              cases hl
              obtain rfl : c = #[.int .u16 s] := by cases c; simpa using hcc
              simp [World.cell?, q2]
      · intro pre x H1 hp hi
        have h := round pre x H1 hp hi
        rw [wpf_eq] at h
        refine (wps_sound hm ca a h3 h).mono ?_
        rintro e T2 H2 ⟨rfl, h⟩
        rw [wpf_eq] at h
        refine ⟨rfl, (wps_sound hm cb b h4 h).mono ?_⟩
        intro e T3 H3 h
        cases e <;> exact h
    · cases e
  | _ =>
    intro hc
    rcases compC_rf _ hc with ⟨f', p', ca', cb', e, _⟩ | ⟨c', e, _⟩ <;> cases e
end
end Go.Ab
