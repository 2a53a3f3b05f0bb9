/- Blocks renamed; new blocks in places kept for them. No condition. -/
import Derived.Test.YteipepbijfdciaaAb6c
set_option linter.unusedSimpArgs false
set_option linter.unusedVariables false
namespace Go.Ab
open Go

def C.ren (ρ : Id → Id) : C → C
  | .ptr i o => .ptr (ρ i) o
  | .ap i n j o => .ap (ρ i) n j o
  | .os i n => .os (ρ i) n
  | .fn g caps => .fn g (caps.map ρ)
  | c => c
def AV.ren1 (ρ : Id → Id) : AV → AV
  | .c u => .c (u.ren ρ)
  | .mg cs => .mg (cs.map (C.ren ρ))
  | a => a
def AV.ren (ρ : Id → Id) : AV → AV
  | .tup vs => .tup (vs.map (AV.ren1 ρ))
  | a => a.ren1 ρ
def Blk.ren (ρ : Id → Id) : Blk → Blk
  | .mrow cs => .mrow (cs.map (C.ren ρ))
  | b => b

def mvId (n s i : Id) : Id := match decide (i = n) with | true => s | false => i

def opM (G : Gl) (slot : Id) (o : SOp) (T : Tm) (H : Hp) : Option Res :=
  match okM G o T with
  | false => none
  | true => match opS G o T H with
    | none => none
    | some ⟨p, v, H'⟩ => match o.adds with
      | false => some ⟨p, v, H'⟩
      | true => match H'.loc.drop H.loc.length with
        | [] => some ⟨p, v, H'⟩
        | b :: _ => match H.get slot with
          | some .hole => some ⟨p, v.ren (mvId H.nid slot), H.set slot (b.ren (mvId H.nid slot))⟩
          | _ => none

section
variable {P : Program} {G : Gl} {N : Nat} {φ φ' φ1 φ2 : Pl} {H H' H1 H2 : Hp} {F F' : Cl} {w w' : World} {T T' : Tm} {ρ : Id → Id}

theorem ren_isRow {b : Blk} : (b.ren ρ).isRow = b.isRow := by cases b <;> rfl

theorem CR.ren (R : ∀ i c, H1.get i = some c → c ≠ .hole → H2.get (ρ i) = some (c.ren ρ) ∧ φ2 (ρ i) = φ1 i) {c : C} {x : Value} (h : CR φ1 H1 F w c x) : CR φ2 H2 F w (c.ren ρ) x := by
  cases c with
  | ptr id o =>
    obtain ⟨b, r, h1, h2, h3, h4⟩ := h
    obtain ⟨r1, r2⟩ := R id b h1 (by rintro rfl; simp [Blk.isRow] at h2)
    exact ⟨_, r, r1, by rw [ren_isRow]; exact h2, r2.trans h3, h4⟩
  | ap id n i o =>
    obtain ⟨sz, fz, es, b, k, h1, h2, h3, h4⟩ := h
    obtain ⟨r1, r2⟩ := R id _ h1 (by simp)
    exact ⟨sz, fz, es, b, k, r1, h2, h3, fun e => ⟨r2.trans (h4 e).1, (h4 e).2⟩⟩
  | os id n =>
    obtain ⟨sz, fz, es, h1, h2, h3⟩ := h
    obtain ⟨r1, r2⟩ := R id _ h1 (by simp)
    refine ⟨sz, fz, es, r1, h2, fun e => ?_⟩
    rcases h3 e with h | ⟨r, cap, e', k, q1, q2⟩
    · exact .inl h
    · exact .inr ⟨r, cap, e', k, r2.trans q1, q2⟩
  | fn g caps =>
    obtain ⟨cv, h1, h2⟩ := h
    refine ⟨cv, h1, F2.mapl.2 (h2.imp fun id v ⟨b, r, q1, q2, q3, q4⟩ => ?_)⟩
    obtain ⟨r1, r2⟩ := R id b q1 (by rintro rfl; simp [Blk.isRow] at q2)
    exact ⟨_, r, r1, by rw [ren_isRow]; exact q2, r2.trans q3, q4⟩
  | _ => exact h

theorem AR1.ren (R : ∀ i c, H1.get i = some c → c ≠ .hole → H2.get (ρ i) = some (c.ren ρ) ∧ φ2 (ρ i) = φ1 i) {a : AV} {x : Value} (h : AR1 φ1 H1 F w a x) : AR1 φ2 H2 F w (a.ren1 ρ) x := by
  cases h with
  | un x => exact .un x
  | c h hx => exact .c (h.ren R) hx
  | agg h => exact .agg h
  | mg h => exact .mg (F2.mapl.2 (h.imp fun _ _ q => ⟨q.1.ren R, q.2⟩))

theorem AR.ren (R : ∀ i c, H1.get i = some c → c ≠ .hole → H2.get (ρ i) = some (c.ren ρ) ∧ φ2 (ρ i) = φ1 i) {a : AV} {x : Value} (h : AR φ1 H1 F w a x) : AR φ2 H2 F w (a.ren ρ) x := by
  cases h with
  | one h =>
    have : a.ren ρ = a.ren1 ρ := by cases h <;> rfl
    rw [this]
    exact .one (h.ren R)
  | tup h => exact .tup (F2.mapl.2 (h.imp fun _ _ q => q.ren R))

theorem BR.ren (R : ∀ i c, H1.get i = some c → c ≠ .hole → H2.get (ρ i) = some (c.ren ρ) ∧ φ2 (ρ i) = φ1 i) {id id' : Id} (hφ : φ2 id' = φ1 id) {b : Blk} (h : BR φ1 H1 F w id b) : BR φ2 H2 F w id' (b.ren ρ) := by
  cases b with
  | row cs => obtain ⟨r, c, h1, h2⟩ := h; exact ⟨r, c, hφ.trans h1, h2⟩
  | mrow cs => obtain ⟨r, c, h1, h2, h3, h4⟩ := h; exact ⟨r, c, hφ.trans h1, h2, h3, F2.mapl.2 (h4.imp fun _ _ q => ⟨q.1.ren R, q.2⟩)⟩
  | arr sz fz es =>
    obtain ⟨h0, h1, h2⟩ := h
    refine ⟨h0, h1, ?_⟩
    rcases h2 with ⟨h3, h4⟩ | ⟨r, c, h3, h4⟩
    · exact .inl ⟨hφ.trans h3, h4⟩
    · exact .inr ⟨r, c, hφ.trans h3, h4⟩
  | hole => exact hφ.trans h

theorem CR.ids {c : C} {x : Value} (h : CR φ H F w c x) : ∀ i ∈ idsC c, (H.get i).isSome := by
  intro i hi
  cases c with
  | ptr id o => obtain ⟨b, r, h1, _⟩ := h; simp [idsC] at hi; subst hi; rw [h1]; rfl
  | ap id n j o => obtain ⟨sz, fz, es, b, k, h1, _⟩ := h; simp [idsC] at hi; subst hi; rw [h1]; rfl
  | os id n => obtain ⟨sz, fz, es, h1, _⟩ := h; simp [idsC] at hi; subst hi; rw [h1]; rfl
  | fn g caps =>
    obtain ⟨cv, -, h2⟩ := h
    simp only [idsC] at hi
    clear x
    induction h2 with
    | nil => cases hi
    | cons q _ ih =>
      rcases List.mem_cons.1 hi with rfl | hi
      · obtain ⟨b, r, q1, _⟩ := q; rw [q1]; rfl
      · exact ih hi
  | _ => simp [idsC] at hi

theorem ren_id {c : C} (h : ∀ i ∈ idsC c, ρ i = i) : c.ren ρ = c := by
  cases c with
  | ptr id o => simp only [C.ren]; rw [h id (by simp [idsC])]
  | ap id n j o => simp only [C.ren]; rw [h id (by simp [idsC])]
  | os id n => simp only [C.ren]; rw [h id (by simp [idsC])]
  | fn g caps =>
    simp only [C.ren]
    congr 1
    conv => rhs; rw [← List.map_id caps]
    exact List.map_congr_left h
  | _ => rfl

theorem ren_ids {cs : List C} (h : ∀ c ∈ cs, ∀ i ∈ idsC c, ρ i = i) : cs.map (C.ren ρ) = cs := by
  conv => rhs; rw [← List.map_id cs]
  exact List.map_congr_left fun c hc => ren_id (h c hc)

theorem f2_left {α β : Type} {R : α → β → Prop} {as : List α} {bs : List β} (h : F2 R as bs) : ∀ a ∈ as, ∃ b, R a b := by
  induction h with
  | nil => intro a ha; cases ha
  | cons h _ ih =>
    intro a ha
    rcases List.mem_cons.1 ha with rfl | ha
    · exact ⟨_, h⟩
    · exact ih a ha

theorem blk_ren_id (hS : SRel G φ H F w) {id : Id} {b : Blk} (hg : H.get id = some b) (h : ∀ i, (H.get i).isSome → ρ i = i) : b.ren ρ = b := by
  have hB := hS.blk id b hg
  cases b with
  | mrow cs =>
    obtain ⟨r, c, h1, h2, h3, h4⟩ := hB
    simp only [Blk.ren]
    rw [ren_ids]
    intro c hc i hi
    obtain ⟨x, hx⟩ := f2_left h4 c hc
    exact h i (hx.1.ids i hi)
  | _ => rfl

theorem mvId_new {n s : Id} : mvId n s n = s := by simp [mvId]
theorem mvId_old {n s i : Id} (h : i ≠ n) : mvId n s i = i := by simp [mvId, h]

/-- A new block goes where a place was kept for it. -/
theorem move_slot (hS : SRel G φ H F w) {s : Id} (hs : H.get s = some .hole) {b : Blk} (E : Evo φ H F w φ' (H.add b) F' w') (S : SRel G φ' (H.add b) F' w') {v : AV} {x : Value} (A : AR φ' (H.add b) F' w' v x) :
    ∃ φ2, Evo φ H F w φ2 (H.set s (b.ren (mvId H.nid s))) F' w' ∧ SRel G φ2 (H.set s (b.ren (mvId H.nid s))) F' w' ∧ AR φ2 (H.set s (b.ren (mvId H.nid s))) F' w' (v.ren (mvId H.nid s)) x := by
  have hne : s ≠ H.nid := by intro e; rw [e, Hp.nid_none] at hs; cases hs
  have hold : ∀ {i c}, H.get i = some c → i ≠ H.nid := by intro i c h e; rw [e, Hp.nid_none] at h; cases h
  let φ2 : Pl := fun i => if i = s then φ' H.nid else if i = H.nid then none else φ' i
  have p1 : φ2 s = φ' H.nid := by simp [φ2]
  have p2 : ∀ {i}, i ≠ s → i ≠ H.nid → φ2 i = φ' i := by intro i h1 h2; simp [φ2, h1, h2]
  have p3 : φ2 H.nid = none := by simp [φ2, Ne.symm hne]
  have gs : (H.set s (b.ren (mvId H.nid s))).get s = some (b.ren (mvId H.nid s)) := Hp.get_set_self hs
  have go : ∀ {i}, i ≠ s → (H.set s (b.ren (mvId H.nid s))).get i = H.get i := fun h => Hp.get_set_other h
  have R : ∀ i c, (H.add b).get i = some c → c ≠ .hole → (H.set s (b.ren (mvId H.nid s))).get (mvId H.nid s i) = some (c.ren (mvId H.nid s)) ∧ φ2 (mvId H.nid s i) = φ' i := by
    intro i c hi hc
    rcases Hp.get_add_cases hi with h | ⟨rfl, rfl⟩
    · have hn := hold h
      rw [mvId_old hn]
      have his : i ≠ s := by intro e; rw [e, hs] at h; cases h; exact hc rfl
      refine ⟨?_, p2 his hn⟩
      rw [go his, h, blk_ren_id hS h]
      intro j hj
      obtain ⟨q, hq⟩ := Option.isSome_iff_exists.1 hj
      exact mvId_old (hold hq)
    · rw [mvId_new]
      exact ⟨gs, p1⟩
  refine ⟨φ2, ?_, ?_, A.ren R⟩
  · refine { os := E.os, tape := E.tape, output := E.output, size := E.size, keep := E.keep, kp := E.kp, newF := E.newF, new := fun id r h => ?_, be := fun id c hc => ?_, shp := E.shp, npar := by cases s <;> simp [Hp.set] }
    · by_cases h1 : id = s
      · subst h1
        rw [p1] at h
        rcases E.new _ r h with h | h
        · rw [no_phi_nid hS] at h; cases h
        · exact .inr h
      · by_cases h2 : id = H.nid
        · subst h2; rw [p3] at h; cases h
        · rw [p2 h1 h2] at h; exact E.new id r h
    · by_cases h1 : id = s
      · subst h1
        rw [hs] at hc
        cases hc
        exact ⟨_, gs, by cases b.ren (mvId H.nid id) <;> trivial⟩
      · refine ⟨c, (go h1).trans hc, ?_⟩
        obtain ⟨c', hc', hb⟩ := E.be id c hc
        rw [Hp.get_add_old hc] at hc'
        cases hc'
        have := p2 h1 (hold hc)
        cases c <;> simp_all [BE]
  · refine ⟨fun i j r hi hj => ?_, fun i r h => ?_, fun i r h => ?_, fun id c hc => ?_, S.glob, S.fin⟩
    · have back : ∀ {i r}, φ2 i = some r → (i = s ∧ φ' H.nid = some r) ∨ (i ≠ s ∧ i ≠ H.nid ∧ φ' i = some r) := by
        intro i r h
        by_cases h1 : i = s
        · subst h1; exact .inl ⟨rfl, p1 ▸ h⟩
        · by_cases h2 : i = H.nid
          · subst h2; rw [p3] at h; cases h
          · exact .inr ⟨h1, h2, (p2 h1 h2) ▸ h⟩
      rcases back hi with ⟨rfl, a⟩ | ⟨a1, a2, a3⟩ <;> rcases back hj with ⟨b1, b2⟩ | ⟨b1, b2, b3⟩
      · exact b1.symm
      · exact absurd (S.inj _ _ r a b3).symm b2
      · exact absurd (S.inj _ _ r a3 b2) a2
      · exact S.inj i j r a3 b3
    · by_cases h1 : i = s
      · subst h1; rw [p1] at h; exact S.dom _ r h
      · by_cases h2 : i = H.nid
        · subst h2; rw [p3] at h; cases h
        · rw [p2 h1 h2] at h; exact S.dom i r h
    · by_cases h1 : i = s
      · subst h1; rw [gs]; rfl
      · by_cases h2 : i = H.nid
        · subst h2; rw [p3] at h; cases h
        · rw [p2 h1 h2] at h
          obtain ⟨c, hc⟩ := Option.isSome_iff_exists.1 (S.has i r h)
          rcases Hp.get_add_cases hc with hc | ⟨e, _⟩
          · rw [go h1, hc]; rfl
          · exact absurd e h2
    · by_cases h1 : id = s
      · subst h1
        rw [gs] at hc
        cases hc
        exact (S.blk H.nid b Hp.get_add_new).ren R p1
      · rw [go h1] at hc
        have := (S.blk id c (Hp.get_add_old hc)).ren R (p2 h1 (hold hc))
        rwa [blk_ren_id hS hc] at this
        intro j hj
        obtain ⟨q, hq⟩ := Option.isSome_iff_exists.1 hj
        exact mvId_old (hold hq)

theorem set_len (H : Hp) (id : Id) (b : Blk) : SameLen H (H.set id b) := by cases id <;> constructor <;> simp [Hp.set]

/-- What it comes to, with a place kept for a new block. -/
theorem opM_spec {slot : Id} {o : SOp} {p : Bool} {v : AV} (h : opM G slot o T H = some ⟨p, v, H'⟩) : okM G o T = true ∧ ∃ (e : Eff) (v0 : AV), opS G o T H = some ⟨p, v0, e.app H⟩ ∧
    (∀ H2, SameLen H H2 → (∀ i ∈ rdO G o T, H2.get i = H.get i) → opS G o T H2 = some ⟨p, v0, e.app H2⟩) ∧
    ((∃ b, e = .add b ∧ o.adds = true ∧ H.get slot = some .hole ∧ v = v0.ren (mvId H.nid slot) ∧ H' = H.set slot (b.ren (mvId H.nid slot))) ∨
      ((e = .keep ∨ ∃ id b, e = .set id b ∧ id ∈ wrO G slot o T ∧ (H.get id).isSome) ∧ v = v0 ∧ H' = e.app H)) := by
  unfold opM at h
  cases hok : okM G o T with
  | false => rw [hok] at h; cases h
  | true =>
    rw [hok] at h
    dsimp only at h
    cases ho : opS G o T H with
    | none => rw [ho] at h; cases h
    | some res =>
      obtain ⟨p0, v0, H0⟩ := res
      rw [ho] at h
      dsimp only at h
      obtain ⟨e, h1, h2, h3, h4⟩ := opS_eff hok ho
      subst h1
      refine ⟨rfl, e, v0, ?_⟩
      have same : (e = .keep ∨ ∃ id b, e = .set id b) → (e.app H).loc.drop H.loc.length = [] := by
        rintro (rfl | ⟨id, b, rfl⟩)
        · simp [Eff.app]
        · have := (set_len H id b).loc
          simp [Eff.app, this]
      have fin : (e = .keep ∨ ∃ id b, e = .set id b) → some (Res.mk p0 v0 (e.app H)) = some (Res.mk p v H') → some (Res.mk p0 v0 (e.app H)) = some (Res.mk p v0 (e.app H)) ∧
    (∀ H2, SameLen H H2 → (∀ i ∈ rdO G o T, H2.get i = H.get i) → opS G o T H2 = some ⟨p, v0, e.app H2⟩) ∧
    ((∃ b, e = .add b ∧ o.adds = true ∧ H.get slot = some .hole ∧ v = v0.ren (mvId H.nid slot) ∧ H' = H.set slot (b.ren (mvId H.nid slot))) ∨
      ((e = .keep ∨ ∃ id b, e = .set id b ∧ id ∈ wrO G slot o T ∧ (H.get id).isSome) ∧ v = v0 ∧ H' = e.app H)) := by
        intro he hq
        simp only [Option.some.injEq, Res.mk.injEq] at hq
        obtain ⟨rfl, rfl, rfl⟩ := hq
        refine ⟨rfl, h2, .inr ⟨?_, rfl, rfl⟩⟩
        rcases he with rfl | ⟨id, b, rfl⟩
        · exact .inl rfl
        · exact .inr ⟨id, b, rfl, (h3 id b rfl).1 slot, (h3 id b rfl).2⟩
      cases e with
      | keep =>
        cases hadd : o.adds with
        | false => rw [hadd] at h; exact hadd ▸ fin (.inl rfl) h
        | true => rw [hadd] at h; dsimp only at h; rw [same (.inl rfl)] at h; exact hadd ▸ fin (.inl rfl) h
      | set id b =>
        cases hadd : o.adds with
        | false => rw [hadd] at h; exact hadd ▸ fin (.inr ⟨_, _, rfl⟩) h
        | true => rw [hadd] at h; dsimp only at h; rw [same (.inr ⟨_, _, rfl⟩)] at h; exact hadd ▸ fin (.inr ⟨_, _, rfl⟩) h
      | add b =>
        rw [h4 b rfl] at h
        have hd : (Eff.app (.add b) H).loc.drop H.loc.length = [b] := by simp [Eff.app, Hp.add]
        dsimp only at h
        rw [hd] at h
        dsimp only at h
        split at h
        · rename_i hs
          simp only [Option.some.injEq, Res.mk.injEq] at h
          obtain ⟨rfl, rfl, rfl⟩ := h
          exact ⟨rfl, h2, .inl ⟨b, rfl, h4 b rfl, hs, rfl, rfl⟩⟩
        · cases h

theorem opM_eff {slot : Id} {o : SOp} {p : Bool} {v : AV} (h : opM G slot o T H = some ⟨p, v, H'⟩) : ∃ e : Eff, (e = .keep ∨ ∃ id b, e = .set id b ∧ id ∈ wrO G slot o T ∧ (H.get id).isSome) ∧ H' = e.app H ∧
    ∀ H2, SameLen H H2 → (∀ i, i ∈ rdO G o T ∨ i ∈ wrO G slot o T → H2.get i = H.get i) → opM G slot o T H2 = some ⟨p, v, e.app H2⟩ := by
  obtain ⟨hok, e, v0, h1, h2, h3⟩ := opM_spec h
  rcases h3 with ⟨b, rfl, hadd, hs, rfl, rfl⟩ | ⟨he, rfl, rfl⟩
  · have hwr : slot ∈ wrO G slot o T := by cases o <;> simp [SOp.adds] at hadd <;> simp [wrO]
    refine ⟨.set slot (b.ren (mvId H.nid slot)), .inr ⟨slot, _, rfl, hwr, by rw [hs]; rfl⟩, rfl, fun H2 hl ha => ?_⟩
    have := h2 H2 hl fun i hi => ha i (.inl hi)
    have hn : H2.nid = H.nid := by simp [Hp.nid, hl.loc]
    have hd : (Eff.app (.add b) H2).loc.drop H2.loc.length = [b] := by simp [Eff.app, Hp.add]
    simp only [opM, hok, this, hadd, hd, ha slot (.inr hwr), hs, hn]
    rfl
  · refine ⟨e, he, rfl, fun H2 hl ha => ?_⟩
    have := h2 H2 hl fun i hi => ha i (.inl hi)
    have hd : (e.app H2).loc.drop H2.loc.length = [] := by
      rcases he with rfl | ⟨id, b, rfl, -⟩
      · simp [Eff.app]
      · have := (set_len H2 id b).loc
        simp [Eff.app, this]
    simp only [opM, hok, this]
    cases o.adds with
    | false => rfl
    | true => simp only [hd]
end
end Go.Ab
