/- Regions whose order is open and that write, ended. No condition. -/
import Derived.Test.YteipepbijfdciaaAb6e
set_option linter.unusedSimpArgs false
set_option linter.unusedVariables false
namespace Go.Ab
open Go

def idEq : Id → Id → Bool
  | .par a, .par b => Nat.beq a b
  | .loc a, .loc b => Nat.beq a b
  | _, _ => false
def inIds (i : Id) : List Id → Bool
  | [] => false
  | j :: r => match idEq i j with
    | true => true
    | false => inIds i r
def noneIn (a : List Id) (b : Fp) : Bool := a.all fun i => !inIds i b.rd && !inIds i b.wr
def disj (a b : Fp) : Bool := noneIn a.wr b && noneIn b.wr a
def okFp (before : Nat) (fp : Fp) : Nat → List Fp → Bool
  | _, [] => true
  | i, g :: r => (before.testBit i || disj g fp) && okFp before fp (i + 1) r

section
variable (P : Program) (G : Gl)

def stepM (slot : Nat) (o : SOp) (T : Tm) (H : Hp) (k : AV → Hp → Fp → Prop) : Prop :=
  match o with
  | .call _ f args => match evS G T f with
    | .c (.fn g []) => ∃ v H' fp, callG P G g (args.map (evS G T)) H v H' fp ∧ k v H' fp
    | _ => False
  | o => match opM G (.loc slot) o T H with
    | some ⟨b, v, H'⟩ => gd b (k v H' ⟨rdO G o T, wrO G (.loc slot) o T⟩)
    | none => False

def oM (slot : Nat) (o : SO) (T : Tm) (H : Hp) (k : Tm → Hp → Fp → Prop) : Prop :=
  match o.guard with
  | none => stepM P G slot o.op T H fun v H fp => k (T.put o.dst v) H fp
  | some (t, want) => match T.get t with
    | .c (.p (.bool b)) => match want with
      | true => brP b (stepM P G slot o.op T H fun v H fp => k (T.put o.dst v) H fp) (k (T.put o.dst (.tup [])) H ⟨[], []⟩)
      | false => brP b (k (T.put o.dst (.tup [])) H ⟨[], []⟩) (stepM P G slot o.op T H fun v H fp => k (T.put o.dst v) H fp)
    | .tup [] => k (T.put o.dst (.tup [])) H ⟨[], []⟩
    | _ => False

def nextS (o : SO) (s : Nat) : Nat := match o.op.adds with | true => s + 1 | false => s

def lM (an : List Nat) : List SO → Nat → Nat → Tm → Hp → List Fp → (Tm → Hp → Prop) → Prop
  | [], _, _, T, H, _, k => k T H
  | o :: r, j, s, T, H, log, k => oM P G s o T H fun T H fp => gd (okFp (an.getD j 0) fp 0 log) (lM an r (j + 1) (nextS o s) T H (log ++ [fp]) k)

def cnt : List SO → Nat
  | [] => 0
  | o :: r => match o.op.adds with
    | true => cnt r + 1
    | false => cnt r

def holes : Nat → List Blk
  | 0 => []
  | n + 1 => .hole :: holes n

def withHoles (H : Hp) (n : Nat) : Hp := ⟨H.par, H.loc ++ holes n⟩
end

section
variable {P : Program} {G : Gl} {N : Nat} {φ φ' : Pl} {H H' : Hp} {F F' : Cl} {w w' : World} {T T' : Tm}

theorem idEq_eq {i j : Id} : idEq i j = true ↔ i = j := by
  cases i <;> cases j <;> simp [idEq]
theorem inIds_mem {i : Id} : ∀ {l : List Id}, inIds i l = true ↔ i ∈ l
  | [] => by simp [inIds]
  | j :: r => by
    simp only [inIds]
    cases h : idEq i j with
    | true => simp [idEq_eq.1 h]
    | false =>
      have : i ≠ j := fun e => by rw [idEq_eq.2 e] at h; cases h
      simp [this, inIds_mem]
theorem noneIn_spec {a : List Id} {b : Fp} (h : noneIn a b = true) : ∀ i ∈ a, ¬ b.In i := by
  intro i hi hb
  have := List.all_eq_true.1 h i hi
  simp only [Bool.and_eq_true, Bool.not_eq_true', Bool.eq_false_iff] at this
  rcases hb with hb | hb
  · exact this.1 (inIds_mem.2 hb)
  · exact this.2 (inIds_mem.2 hb)
theorem disj_spec {a b : Fp} (h : disj a b = true) : a.apart b := by
  simp only [disj, Bool.and_eq_true] at h
  exact ⟨noneIn_spec h.1, noneIn_spec h.2⟩
theorem okFp_spec {before : Nat} {fp : Fp} : ∀ {log : List Fp} {i : Nat}, okFp before fp i log = true → ∀ {j : Nat} {g : Fp}, log[j]? = some g → before.testBit (i + j) = true ∨ g.apart fp
  | [], _, _, j, g, hj => by simp at hj
  | g0 :: r, i, h, j, g, hj => by
    simp only [okFp, Bool.and_eq_true, Bool.or_eq_true] at h
    cases j with
    | zero =>
      simp at hj
      subst hj
      exact h.1.imp id disj_spec
    | succ j =>
      have := okFp_spec h.2 (by simpa using hj)
      rwa [show i + 1 + j = i + (j + 1) by omega] at this

/-- Of a list of steps: what touches the same stands in order. -/
def Compat (an : List Nat) (fps : List Fp) (from_ : Nat) : Prop := ∀ i j a b, i < j → from_ ≤ j → fps[i]? = some a → fps[j]? = some b → (an.getD j 0).testBit i = true ∨ a.apart b

theorem stepM_go {slot : Nat} {o : SOp} {k : AV → Hp → Fp → Prop} (h : stepM P G slot o T H k) : ∃ v H' fp, goM P G (.loc slot) o T H v H' fp ∧ k v H' fp := by
  cases o
  case call p f args =>
    simp only [stepM] at h
    simp only [goM]
    split at h
    · rename_i g hg
      simp only [hg]
      exact h
    · exact h.elim
  all_goals
    simp only [stepM] at h
    simp only [goM]
    split at h
    · rename_i b v H' he
      obtain ⟨rfl, h⟩ := gd_of h
      exact ⟨v, H', _, ⟨he, rfl⟩, h⟩
    · exact h.elim

theorem oM_val {slot : Nat} {o : SO} {k : Tm → Hp → Fp → Prop} (h : oM P G slot o T H k) : ∃ v H' fp, valM P G ⟨o, .loc slot, fp⟩ T H v H' ∧ k (T.put o.dst v) H' fp := by
  unfold oM at h
  unfold valM
  dsimp only
  cases hg : o.guard with
  | none => rw [hg] at h; exact stepM_go h
  | some q =>
    obtain ⟨t, want⟩ := q
    rw [hg] at h
    dsimp only at h ⊢
    split at h
    · rename_i b hb
      simp only [hb]
      cases want <;> cases b <;> simp only [brP] at h
      · obtain ⟨v, H', fp, h1, h2⟩ := stepM_go h; exact ⟨v, H', fp, h1, h2⟩
      · exact ⟨.tup [], H, ⟨[], []⟩, ⟨rfl, rfl⟩, h⟩
      · exact ⟨.tup [], H, ⟨[], []⟩, ⟨rfl, rfl⟩, h⟩
      · obtain ⟨v, H', fp, h1, h2⟩ := stepM_go h; exact ⟨v, H', fp, h1, h2⟩
    · rename_i hb
      simp only [hb]
      exact ⟨.tup [], H, ⟨[], []⟩, ⟨rfl, rfl⟩, h⟩
    · exact h.elim

theorem lM_run {an : List Nat} {k : Tm → Hp → Prop} : ∀ {l : List SO} {s : Nat} {T : Tm} {H : Hp} {log : List Fp}, lM P G an l log.length s T H log k →
    ∃ ds : List DO, ds.map DO.so = l ∧ runM P G ds T H k ∧ Compat an (log ++ ds.map DO.fp) log.length
  | [], s, T, H, log, h => ⟨[], rfl, h, fun i j a b hij hj _ hb => by
      rw [List.map_nil, List.append_nil] at hb
      have := (List.getElem?_eq_some_iff.1 hb).1
      omega⟩
  | o :: r, s, T, H, log, h => by
    obtain ⟨v, H', fp, h1, h2⟩ := oM_val h
    obtain ⟨h3, h4⟩ := gd_of h2
    rw [show log.length + 1 = (log ++ [fp]).length by simp] at h4
    obtain ⟨ds, q1, q2, q3⟩ := lM_run h4
    refine ⟨⟨o, .loc s, fp⟩ :: ds, by simp [q1], ⟨v, H', h1, q2⟩, fun i j a b hij hj ha hb => ?_⟩
    have e : log ++ ((⟨o, .loc s, fp⟩ : DO) :: ds).map DO.fp = (log ++ [fp]) ++ ds.map DO.fp := by simp
    rw [e] at ha hb
    by_cases hjl : j = log.length
    · subst hjl
      have hb' : b = fp := by
        rw [List.append_assoc, List.getElem?_append_right (Nat.le_refl _)] at hb
        simpa using hb.symm
      subst hb'
      have ha' : log[i]? = some a := by
        rw [List.append_assoc, List.getElem?_append_left hij] at ha
        exact ha
      have := okFp_spec h3 ha'
      rwa [Nat.zero_add] at this
    · exact q3 i j a b hij (by simp; omega) ha hb

theorem froA_freeze {a b : AV} (h : froA H a = some b) : freezeA H a = some (true, b, H) := by
  cases a with
  | c c =>
    cases c with
    | os id n =>
      simp only [froA] at h
      split at h
      · rename_i sz es hg
        split at h
        · rename_i hn
          cases h
          have hset : H.set id (.arr sz true es) = H := by
            refine hp_ext fun i => ?_
            by_cases e : i = id
            · subst e; rw [Hp.get_set_self hg, hg]
            · rw [Hp.get_set_other e]
          simp only [freezeA, freezeC, hg, hn, hset]
        · cases h
      · cases h
    | _ => simp [froA] at h <;> subst h <;> rfl
  | agg cs => simp [froA] at h; subst h; rfl
  | _ => simp [froA] at h

theorem froAs_freeze : ∀ {l m : List AV}, froAs H l = some m → freezeAs H l = some (true, m, H)
  | [], m, h => by simp [froAs] at h; subst h; rfl
  | a :: l, m, h => by
    simp only [froAs] at h
    split at h
    · rename_i b l' h1 h2
      cases h
      simp only [freezeAs, froA_freeze h1, froAs_freeze h2]
      rfl
    · cases h

theorem LEv.at {g : FuncId} {args : List AV} {v : AV} {fp : Fp} (h : LEv P G g args H v H' fp) : EvR P G g args H v H' := by
  obtain ⟨H2', h1, h2, h3, h4⟩ := h.2.2 H (.refl H) fun _ _ => rfl
  have : H2' = H' := hp_ext fun i => by
    by_cases hi : i ∈ fp.wr
    · exact h3 i hi
    · rw [h4 i hi, h.2.1 i hi]
  exact this ▸ h1

theorem opM_sound {o : Oper} {so : SOp} {ρ : Operand → Value} (hc : compOp P o.op = some so) {slot : Id} {v : AV} (h : opM G slot so T H = some ⟨true, v, H'⟩) (hS : SRel G φ H F w) (hρ : ∀ a s, compA a = some s → AR φ H F w (evS G T s) (ρ a)) :
    Snd P G (execOp ρ o) φ H F w v H' := by
  obtain ⟨hok, e, v0, h1, h2, h3⟩ := opM_spec h
  obtain ⟨nx, xv, w', φ', F', r1, r2, E, S, A⟩ := opS_sound hc h1 rfl hS hρ
  rcases h3 with ⟨b, rfl, hadd, hs, rfl, rfl⟩ | ⟨he, rfl, rfl⟩
  · obtain ⟨φ2, E2, S2, A2⟩ := move_slot hS hs E S A
    exact ⟨nx, xv, w', φ2, F', r1, r2, E2, S2, A2⟩
  · exact ⟨nx, xv, w', φ', F', r1, r2, E, S, A⟩

theorem goM_goes {o : Oper} {so : SOp} (hc : compOp P o.op = some so) {slot : Id} {v : AV} {fp : Fp} (h : goM P G slot so T H v H' fp) {fr : Frame} {base : Nat} (hp : Pre G N base φ H F w T fr) {ops : Array Oper} {i : Nat} {rest : List Nat} {k0 : List Item} {cs : List Frame}
    (ho : ops[i]? = some o) (hw : Region.wanted o (yielded ops fr.tmps) = true) : OpGoes P G φ H F w fr ops i rest k0 cs fun v' h' => v' = v ∧ h' = H' := by
  have plain : opM G slot so T H = some ⟨true, v, H'⟩ → OpGoes P G φ H F w fr ops i rest k0 cs fun v' h' => v' = v ∧ h' = H' := by
    intro h
    have hd : ∀ c, o.op ≠ .defer c := by
      intro c e
      rw [e] at hc
      simp [compOp] at hc
    obtain ⟨nx, xv, w', φ', F', r1, r2, E, S, A⟩ := opM_sound hc h hp.srel (eval_rel hp.srel hp.trel)
    refine ⟨_, _, φ', F', w', xv, ⟨rfl, rfl⟩, E, S, A, .one (step_lone_go ?_)⟩
    rw [step_op hp.run ho hw hd]
    rcases r2 with rfl | ⟨rfl, rfl⟩
    · simp [stepG.apply, Sem.runT_eq, r1, GStep.bare_after]
    · simp [stepG.apply, Sem.runT_eq, r1, GStep.bare_after]
  cases so
  case call p f args =>
    refine stepO_goes (d := false) hc ?_ hp ho hw
    simp only [goM] at h
    simp only [stepO, wpCall]
    split at h
    · rename_i g hg
      rw [hg]
      simp only [callK]
      rcases h with h | ⟨args', h1, h2, rfl, rfl⟩
      · exact ⟨false, _, _, v, H', rfl, by simpa using h.at, rfl, rfl⟩
      · exact ⟨true, args', _, v, _, froAs_freeze h1, by rw [List.map_nil, List.append_nil]; exact h2.at _, rfl, rfl⟩
    · exact h.elim
  all_goals exact plain h.1

theorem getDO {ds : List DO} {ss : List SO} (hds : ds.map DO.so = ss) {i : Nat} {s : SO} (h : ss[i]? = some s) : ∃ d, ds[i]? = some d ∧ d.so = s := by
  rw [← hds, List.getElem?_map] at h
  cases hd : ds[i]? with
  | none => rw [hd] at h; cases h
  | some d => rw [hd] at h; exact ⟨d, rfl, by simpa using h⟩

theorem runM_goes {ops : Array Oper} {ss : List SO} {ds : List DO} (hds : ds.map DO.so = ss) (hcomp : compOps P N ops.toList ops.toList = some ss) {k : Tm → Hp → Prop} : ∀ (l : List Nat) {T : Tm} {H : Hp} {φ : Pl} {F : Cl} {w : World} {fr : Frame} {base : Nat} (k0 : List Item) (cs : List Frame),
    (∀ i ∈ l, i < ops.size) → runM P G (l.filterMap (ds[·]?)) T H k → Pre G N base φ H F w T fr →
    ∃ T' H' φ' F' w' tmps', k T' H' ∧ Evo φ H F w φ' H' F' w' ∧ Pre G N base φ' H' F' w' T' { fr with tmps := tmps' } ∧
      Steps P (lone { fr with todo := .inRegion ops l :: k0 } cs w) (lone { fr with tmps := tmps', todo := k0 } cs w')
  | [], T, H, φ, F, w, fr, base, k0, cs, _, h, hp => ⟨T, H, φ, F, w, fr.tmps, h, Evo.refl φ H F w, hp, .one (step_lone_go (by simp [stepG, stepG.exec, hp.run]))⟩
  | i :: rest, T, H, φ, F, w, fr, base, k0, cs, hl, h, hp => by
    have hi : i < ops.size := hl i (by simp)
    have ho : ops[i]? = some ops[i] := Array.getElem?_eq_getElem hi
    have ho' : ops.toList[i]? = some ops[i] := by simp [hi]
    obtain ⟨s, hs, hdst, hop, hgd, hdn⟩ := (compOps_get hcomp).2 ho'
    obtain ⟨dd, hd, rfl⟩ : ∃ dd, ds[i]? = some dd ∧ dd.so = s := by
      rw [← hds, List.getElem?_map] at hs
      cases hd : ds[i]? with
      | none => rw [hd] at hs; cases hs
      | some dd => rw [hd] at hs; exact ⟨dd, rfl, by simpa using hs⟩
    rw [List.filterMap_cons, hd] at h
    obtain ⟨vv, Hv, h, hrest⟩ := h
    have hdn' : ∀ t, ops[i].dst = some t → t < fr.tmps.size := fun t ht => by rw [hp.size]; exact hdn t ht
    -- how it goes on
    have on : ∀ {v : AV} {H1 : Hp} {φ1 : Pl} {F1 : Cl} {w1 : World} {x : Value}, runM P G (rest.filterMap (ds[·]?)) (T.put dd.so.dst v) H1 k → Evo φ H F w φ1 H1 F1 w1 → SRel G φ1 H1 F1 w1 → AR φ1 H1 F1 w1 v x →
        Steps P (lone { fr with todo := .inRegion ops (i :: rest) :: k0 } cs w) (lone (({ fr with todo := .inRegion ops (i :: rest) :: k0 } : Frame).finish x) cs w1) →
        ∃ T' H' φ' F' w' tmps', k T' H' ∧ Evo φ H F w φ' H' F' w' ∧ Pre G N base φ' H' F' w' T' { fr with tmps := tmps' } ∧
          Steps P (lone { fr with todo := .inRegion ops (i :: rest) :: k0 } cs w) (lone { fr with tmps := tmps', todo := k0 } cs w') := by
      intro v H1 φ1 F1 w1 x hk E S A hst
      rw [finish_region ho] at hst
      rw [hdst] at hk
      have hp1 : Pre G N base φ1 H1 F1 w1 (T.put ops[i].dst v) { fr with tmps := putT fr.tmps ops[i].dst x } :=
        { run := hp.run, size := put_size.trans hp.size, defers := hp.defers.evo hp.srel E, round := hp.round.evo hp.srel E, base := Nat.le_trans hp.base E.size, srel := S, trel := (hp.trel.evo E).putO hdn' A }
      obtain ⟨T', H', φ', F', w', tmps', g1, g2, g3, g4⟩ := runM_goes hds hcomp rest k0 cs (fun j hj => hl j (by simp [hj])) hk hp1
      exact ⟨T', H', φ', F', w', tmps', g1, E.trans g2, g3, hst.trans g4⟩
    have run : Region.wanted ops[i] (yielded ops fr.tmps) = true → goM P G dd.slot dd.so.op T H vv Hv dd.fp →
        ∃ T' H' φ' F' w' tmps', k T' H' ∧ Evo φ H F w φ' H' F' w' ∧ Pre G N base φ' H' F' w' T' { fr with tmps := tmps' } ∧
          Steps P (lone { fr with todo := .inRegion ops (i :: rest) :: k0 } cs w) (lone { fr with tmps := tmps', todo := k0 } cs w') := by
      intro hw hst
      obtain ⟨v, H1, φ1, F1, w1, x, ⟨rfl, rfl⟩, g2, g3, g4, g5⟩ := goM_goes hop hst hp (k0 := k0) (cs := cs) (rest := rest) ho hw
      exact on hrest g2 g3 g4 g5
    have skip : Region.wanted ops[i] (yielded ops fr.tmps) = false → vv = .tup [] ∧ Hv = H →
        ∃ T' H' φ' F' w' tmps', k T' H' ∧ Evo φ H F w φ' H' F' w' ∧ Pre G N base φ' H' F' w' T' { fr with tmps := tmps' } ∧
          Steps P (lone { fr with todo := .inRegion ops (i :: rest) :: k0 } cs w) (lone { fr with tmps := tmps', todo := k0 } cs w') := by
      rintro hw ⟨hv, hh⟩
      rw [hv, hh] at hrest
      refine on hrest (Evo.refl φ H F w) hp.srel (x := undef) (.tup .nil) (.one (step_lone_go ?_))
      obtain ⟨fn, tmps, todo, defers, mode, kind, ro⟩ := fr
      have hm := hp.run
      simp only at hm
      subst hm
      have hw' : ((ops[i]?).map (Region.wanted · (yielded ops tmps))).getD false = false := by rw [ho]; exact hw
      simp [stepG, stepG.exec, hw']
    -- the guard
    unfold valM at h
    cases hg : ops[i].guard with
    | none =>
      rw [hg] at hgd
      simp only [compG, Option.some.injEq] at hgd
      rw [← hgd] at h
      exact run (by simp [Region.wanted, hg]) h
    | some q =>
      obtain ⟨j, want⟩ := q
      rw [hg] at hgd
      simp only [compG] at hgd
      split at hgd
      · rename_i oj hoj
        split at hgd
        · rename_i t ht
          simp only [Option.some.injEq] at hgd
          rw [← hgd] at h
          have hoj' : ops[j]? = some oj := by simpa using hoj
          have hwant : Region.wanted ops[i] (yielded ops fr.tmps) = (yielded ops fr.tmps j == some want) := by simp [Region.wanted, hg]
          have hy : yielded ops fr.tmps j = match fr.tmps[t]? with | some (.bool b) => some b | _ => none := by
            simp only [yielded, hoj', ht, Option.bind_some]
            cases fr.tmps[t]? with
            | none => rfl
            | some v => cases v <;> rfl
          have hrel := hp.trel t
          simp only at h
          split at h
          · rename_i b hb
            rw [hb] at hrel
            have hbv := hrel.bool
            have hget : fr.tmps[t]? = some (.bool b) := by
              rw [Array.getD_eq_getD_getElem?] at hbv
              cases hc : fr.tmps[t]? with
              | none => rw [hc] at hbv; cases hbv
              | some v => rw [hc] at hbv; simp at hbv; rw [hbv]
            rw [hy, hget] at hwant
            cases want <;> cases b
            · exact run (by rw [hwant]; rfl) h
            · exact skip (by rw [hwant]; rfl) h
            · exact skip (by rw [hwant]; rfl) h
            · exact run (by rw [hwant]; rfl) h
          · rename_i hb
            rw [hb] at hrel
            obtain ⟨xs, hx, hxs⟩ := hrel.tupr
            cases hxs
            have hnb : (match fr.tmps[t]? with | some (.bool b) => some b | _ => none) = none := by
              rw [Array.getD_eq_getD_getElem?] at hx
              cases hc : fr.tmps[t]? with
              | none => rfl
              | some v => rw [hc] at hx; simp at hx; subst hx; rfl
            rw [hy, hnb] at hwant
            exact skip (by rw [hwant]; rfl) h
          · exact h.elim
        · cases hgd
      · cases hgd


theorem draw_goM {ops : Array Oper} {ss : List SO} {ds : List DO} (hds : ds.map DO.so = ss) (hfp : Compat (ancs [] ops.toList) (ds.map DO.fp) 0) (hlen : ops.size = ss.length) (hd : drawM ops.toList ss = true) {k : Tm → Hp → Prop} (hk : KR k) : ∀ (fuel t : Nat) (L : Array Bool) (T : Tm) (H : Hp), L.size = ops.size → Closed ops.toList L → (rest ops.size L).length ≤ fuel →
    runM P G ((rest ops.size L).filterMap (ds[·]?)) T H k → runM P G ((Region.linearise.go .any ops fuel t L []).filterMap (ds[·]?)) T H k ∧ ∀ i ∈ Region.linearise.go .any ops fuel t L [], i < ops.size
  | 0, t, L, T, H, hL, hc, hf, h => by
    have : rest ops.size L = [] := List.eq_nil_of_length_eq_zero (by omega)
    rw [this] at h
    simpa [Region.linearise.go] using h
  | fuel + 1, t, L, T, H, hL, hc, hf, h => by
    simp only [Region.linearise.go]
    change runM P G ((match (Region.ready .any ops L)[t % (Region.ready .any ops L).length]? with
      | some i => Region.linearise.go .any ops fuel (t / (Region.ready .any ops L).length) (L.setIfInBounds i true) [i]
      | none => [].reverse).filterMap (ds[·]?)) T H k ∧ ∀ i ∈ (match (Region.ready .any ops L)[t % (Region.ready .any ops L).length]? with
      | some i => Region.linearise.go .any ops fuel (t / (Region.ready .any ops L).length) (L.setIfInBounds i true) [i]
      | none => [].reverse), i < ops.size
    have hdr : ∀ j, j < ops.size → ∃ oj sj bf, ops.toList[j]? = some oj ∧ ss[j]? = some sj ∧ (ancs [] ops.toList)[j]? = some bf ∧ (∀ e ∈ oj.after.toList, Region.binds .any e = true → e.on < j) ∧
        ∀ i, i < j → bf.testBit i = true ∨ ∃ si, ss[i]? = some si ∧ apartS si sj = true := by
      intro j hj
      have := List.all_eq_true.1 hd j (by simpa using hj)
      split at this
      · rename_i oj sj bf h1 h2 h3
        simp only [Bool.and_eq_true, List.all_eq_true] at this
        refine ⟨oj, sj, bf, h1, h2, h3, fun e he hb => ?_, fun i hi => ?_⟩
        · have := this.1 e he
          simpa [hb] using this
        · have := this.2 i (by simpa using hi)
          simp only [Bool.or_eq_true] at this
          rcases this with h | h
          · exact .inl h
          · right
            split at h
            · rename_i si hsi
              exact ⟨si, hsi, h⟩
            · cases h
      · cases this
    have hmem : ∀ i, i ∈ Region.ready .any ops L ↔ i < ops.size ∧ L.getD i true = false ∧ ∃ o, ops[i]? = some o ∧ ∀ e ∈ o.after.toList, Region.binds .any e = true → L.getD e.on false = true := by
      intro i
      unfold Region.ready
      rw [List.mem_filter, List.mem_range]
      constructor
      · rintro ⟨h1, h2⟩
        simp only [Bool.and_eq_true, Bool.not_eq_true'] at h2
        have ho : ops[i]? = some ops[i] := Array.getElem?_eq_getElem h1
        refine ⟨h1, h2.1, _, ho, fun e he hb => ?_⟩
        have h3 := h2.2
        rw [ho] at h3
        simp only [Option.map_some, Option.getD_some, Array.all_eq_true] at h3
        obtain ⟨q, hq, hqe⟩ := List.mem_iff_getElem.1 he
        have := h3 q (by simpa using hq)
        have hqe' : ops[i].after[q] = e := by rw [← hqe]; simp
        rw [hqe'] at this
        simpa [hb] using this
      · rintro ⟨h1, h2, o, ho, h3⟩
        refine ⟨h1, ?_⟩
        rw [ho]
        simp only [Bool.and_eq_true, Bool.not_eq_true', Option.map_some, Option.getD_some, Array.all_eq_true]
        refine ⟨h2, fun q hq => ?_⟩
        by_cases hb : Region.binds .any o.after[q] = true
        · simp [hb, h3 o.after[q] (by simp) hb]
        · simp [hb]
    cases hi : (Region.ready .any ops L)[t % (Region.ready .any ops L).length]? with
    | none =>
      have hnil : Region.ready .any ops L = [] := by
        cases hr : Region.ready .any ops L with
        | nil => rfl
        | cons x xs =>
          rw [hr] at hi
          have hlt : t % (x :: xs).length < (x :: xs).length := Nat.mod_lt _ (by simp)
          rw [List.getElem?_eq_getElem hlt] at hi
          cases hi
      have hrest : rest ops.size L = [] := by
        cases hr : rest ops.size L with
        | nil => rfl
        | cons m ms =>
          exfalso
          have hm : m ∈ rest ops.size L := by rw [hr]; simp
          obtain ⟨hm1, hm2⟩ := List.mem_filter.1 hm
          simp only [List.mem_range] at hm1
          have hsort : ∀ a, a < m → a < ops.size → L.getD a true = true := by
            intro a ha hlt
            cases hb : L.getD a true with
            | true => rfl
            | false =>
              exfalso
              have hmem' : a ∈ rest ops.size L := List.mem_filter.2 ⟨by simpa using hlt, by simp [hb]⟩
              have hs : (rest ops.size L).Pairwise (· < ·) := List.Pairwise.filter _ List.pairwise_lt_range
              rw [hr] at hs hmem'
              rcases List.mem_cons.1 hmem' with rfl | h'
              · omega
              · have := (List.pairwise_cons.1 hs).1 a h'; omega
          obtain ⟨om, sm, bf, h1, h2, h3, h4, h5⟩ := hdr m hm1
          have : m ∈ Region.ready .any ops L := (hmem m).2 ⟨hm1, by simpa using hm2, om, by simpa using h1, fun e he hb => by
            have hlt := h4 e he hb
            exact (getD_tf hL (by omega) true).1 (hsort e.on hlt (by omega))⟩
          rw [hnil] at this
          cases this
      rw [hrest] at h
      simpa using h
    | some i =>
      simp only []
      have him := List.mem_of_getElem? hi
      obtain ⟨h1, h2, o, ho, h3⟩ := (hmem i).1 him
      obtain ⟨p, q, e1, e2, e3⟩ := rest_split h1 hL h2
      obtain ⟨oi, si, bf, d1, d2, d3, d4, d5⟩ := hdr i h1
      obtain rfl : oi = o := by simp at d1; rw [ho] at d1; cases d1; rfl
      obtain ⟨di, hdi, rfl⟩ := getDO hds d2
      rw [linearise_go_acc, List.reverse_singleton, List.singleton_append, List.filterMap_cons, hdi]
      rw [e1, List.filterMap_append, List.filterMap_cons, hdi] at h
      have hb := bubbleM (x := di) hk (p.filterMap (ds[·]?)) (q.filterMap (ds[·]?)) (fun a ha => by
        obtain ⟨j, hj, hja⟩ := List.mem_filterMap.1 ha
        obtain ⟨hji, hjl⟩ := e3 j hj
        have hno : bf.testBit j = true → False := by
          intro hbit
          have := anc_listed hc i oi d1 h3 j bf d3 hbit
          have hjl' := (getD_tf hL (by omega) false).1 hjl
          rw [this] at hjl'
          cases hjl'
        refine ⟨?_, ?_⟩
        · rcases d5 j hji with hbit | ⟨sj, g1, g2⟩
          · exact (hno hbit).elim
          · rw [← hds, List.getElem?_map, hja] at g1
            simp at g1
            subst g1
            exact g2
        · rcases hfp j i a.fp di.fp hji (Nat.zero_le _) (by rw [List.getElem?_map, hja]; rfl) (by rw [List.getElem?_map, hdi]; rfl) with hbit | g
          · rw [List.getD_eq_getElem?_getD, d3] at hbit
            exact (hno hbit).elim
          · exact g) h
      rw [← List.filterMap_append, ← e2] at hb
      have hc' : Closed ops.toList (L.setIfInBounds i true) := by
        intro s os hs hsl e he hbn
        have key : L.getD e.on false = true → (L.setIfInBounds i true).getD e.on false = true := by
          intro hh
          by_cases hei : i = e.on
          · subst hei; simp [Array.getD_eq_getD_getElem?, hL, h1]
          · simpa [Array.getD_eq_getD_getElem?, Array.getElem?_setIfInBounds_ne hei] using hh
        by_cases hsi : i = s
        · subst hsi
          rw [d1] at hs
          cases hs
          exact key (h3 e he hbn)
        · apply key
          refine hc s os hs ?_ e he hbn
          simpa [Array.getD_eq_getD_getElem?, Array.getElem?_setIfInBounds_ne hsi] using hsl
      have hlen' : (rest ops.size (L.setIfInBounds i true)).length ≤ fuel := by
        rw [e2]
        rw [e1] at hf
        simp only [List.length_append, List.length_cons] at hf ⊢
        omega
      have ih := fun T H h => draw_goM hds hfp hlen hd hk fuel (t / (Region.ready .any ops L).length) (L.setIfInBounds i true) T H (by simpa using hL) hc' hlen' h
      obtain ⟨vb, Hb, hb1, hb2⟩ := hb
      refine ⟨⟨vb, Hb, hb1, (ih _ _ hb2).1⟩, ?_⟩
      intro j hj
      rcases List.mem_cons.1 hj with rfl | hj
      · exact h1
      · exact linearise_lt _ _ _ j hj


theorem runM_mono {k k' : Tm → Hp → Prop} (hk : ∀ T H, k T H → k' T H) : ∀ (l : List DO) {T : Tm} {H : Hp}, runM P G l T H k → runM P G l T H k'
  | [], _, _, h => hk _ _ h
  | _ :: l, _, _, ⟨v, H', h1, h2⟩ => ⟨v, H', h1, runM_mono hk l h2⟩

/-- A place kept. -/
theorem srel_hole (hS : SRel G φ H F w) : Evo φ H F w φ (H.add .hole) F w ∧ SRel G φ (H.add .hole) F w := by
  have E : Evo φ H F w φ (H.add .hole) F w := { Evo.refl φ H F w with be := fun id b h => ⟨b, Hp.get_add_old h, BE.refl φ id b⟩, npar := rfl }
  refine ⟨E, srel_upd hS E H.nid (fun i b h hne => ?_) (fun _ _ => rfl) (fun r h => by rw [no_phi_nid hS] at h; cases h) (by rw [Hp.get_add_new]; rfl) (fun _ _ _ _ => rfl) (fun _ _ _ _ _ => Iff.rfl) (fun b h => ?_) hS.fin⟩
  · rcases Hp.get_add_cases h with h | ⟨h, _⟩
    · exact h
    · exact absurd h hne
  · rw [Hp.get_add_new] at h
    cases h
    exact no_phi_nid hS

theorem srel_holes : ∀ (n : Nat) {H : Hp}, SRel G φ H F w → Evo φ H F w φ (withHoles H n) F w ∧ SRel G φ (withHoles H n) F w
  | 0, H, hS => by
    have : withHoles H 0 = H := by simp [withHoles, holes]
    rw [this]
    exact ⟨Evo.refl φ H F w, hS⟩
  | n + 1, H, hS => by
    obtain ⟨E, S⟩ := srel_hole hS
    obtain ⟨E2, S2⟩ := srel_holes n S
    have : withHoles (H.add .hole) n = withHoles H (n + 1) := by simp [withHoles, holes, Hp.add]
    rw [this] at E2 S2
    exact ⟨E.trans E2, S2⟩

theorem filterMap_rangeD {ss : List DO} : ∀ (n k : Nat), k + n = ss.length → (List.range' k n).filterMap (ss[·]?) = ss.drop k
  | 0, k, h => by simp; omega
  | n + 1, k, h => by
    have hk : k < ss.length := by omega
    rw [List.range'_succ, List.filterMap_cons, List.getElem?_eq_getElem hk, filterMap_rangeD n (k + 1) (by omega)]
    exact (List.drop_eq_getElem_cons hk).symm

/-- A region whose order is open, and that writes. -/
theorem sem_region_M (hm : P.follows .mixedOrders = true) {id : Nat} {ops : Array Oper} {ss : List SO} (hcomp : compOps P N ops.toList ops.toList = some ss) (hd : drawM ops.toList ss = true) {K : Ex → Tm → Hp → Prop} (h : lM P G (ancs [] ops.toList) ss 0 H.loc.length T (withHoles H (cnt ss)) [] (K .norm)) : SemC P G N (.region id ops true) T H K := by
  refine SemI.kr fun φ F w fr k cs base hp => ?_
  have hl := (compOps_get hcomp).1
  simp only [Array.length_toList] at hl
  let K' : Tm → Hp → Prop := fun T H => ∃ T0, K .norm T0 H ∧ Teq T0 T
  have hk : KR K' := fun T T' H e ⟨T0, h1, h2⟩ => ⟨T0, h1, fun t => (h2 t).trans (e t)⟩
  have hr : rest ops.size (Array.replicate ops.size false) = List.range ops.size := by
    unfold rest
    rw [List.filter_eq_self]
    intro a ha
    simp only [List.mem_range] at ha
    simp [Array.getD_eq_getD_getElem?, ha]
  have hss : ∀ ds : List DO, ds.length = ss.length → (rest ops.size (Array.replicate ops.size false)).filterMap (ds[·]?) = ds := by
    intro ds hdl
    rw [hr, List.range_eq_range', filterMap_rangeD ops.size 0 (by omega)]
    rfl
  obtain ⟨ds, hds, hrun, hfp⟩ := lM_run (log := []) h
  rw [List.nil_append] at hfp
  have hdl : ds.length = ss.length := by rw [← hds, List.length_map]
  have h' : runM P G ((rest ops.size (Array.replicate ops.size false)).filterMap (ds[·]?)) T (withHoles H (cnt ss)) K' := by
    rw [hss ds hdl]
    exact runM_mono (fun T H h => ⟨T, h, fun _ => rfl⟩) ds hrun
  obtain ⟨E0, S0⟩ := srel_holes (cnt ss) hp.srel
  have hclosed : Closed ops.toList (Array.replicate ops.size false) := by
    intro s o hs hsl
    exfalso
    by_cases hlt : s < ops.size
    · simp [Array.getD_eq_getD_getElem?, hlt] at hsl
    · simp [Array.getD_eq_getD_getElem?, hlt] at hsl
  -- the draw
  let t := w.tape w.drawn (.order fr.fn id)
  let w1 : World := { w with drawn := w.drawn + 1 }
  obtain ⟨g1, g2⟩ := draw_goM (P := P) (G := G) hds hfp hl hd hk ops.size t _ T (withHoles H (cnt ss)) (by simp) hclosed (by rw [hr]; simp) h'
  have E1 : Evo φ (withHoles H (cnt ss)) F w φ (withHoles H (cnt ss)) F w1 := Evo.drew φ _ F w _
  have hp1 : Pre G N base φ (withHoles H (cnt ss)) F w1 T fr :=
    { run := hp.run, size := hp.size, defers := (hp.defers.evo hp.srel E0).evo S0 E1, round := (hp.round.evo hp.srel E0).evo S0 E1, base := hp.base
      srel := ⟨S0.inj, S0.dom, S0.has, fun i b hb => BR.evo E1 rfl (fun _ _ => rfl) (fun _ _ _ => Iff.rfl) (S0.blk i b hb), fun g cs hg => (S0.glob g cs hg).keeps E1.kp, S0.fin⟩
      trel := (hp.trel.evo E0).evo E1 }
  obtain ⟨T', H', φ', F', w', tmps', q1, q2, q3, q4⟩ := runM_goes hds hcomp (Region.linearise .any ops t) k cs g2 g1 hp1
  refine ⟨.norm, T', H', φ', F', w', tmps', fr.defers, q1, (E0.trans E1).trans q2, q3, Steps.head ?_ q4⟩
  have hsch : Region.schedule (P.follows .mixedOrders) ops t = Region.linearise .any ops t := by simp [Region.schedule, hm]
  exact step_lone_go (by
    simp only [stepG, hp.run]
    simp [stepG.exec, choose, Sem.run, Question.forced, Question.cut, ← hsch, t, w1])
end
end Go.Ab
