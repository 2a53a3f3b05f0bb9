/- Freezing, slices, literals of slices, conversions, held against the model's. No condition. -/
import Derived.Test.YteipepbijfdciaaAb3f
set_option linter.unusedSimpArgs false
set_option linter.unusedVariables false
namespace Go.Ab
open Go

section
variable {P : Program} {G : Gl} {φ : Pl} {H : Hp} {F : Cl} {w : World}

/-- The elements of an owner's block. -/
theorem BR.slAt {id : Id} {sz : Nat} {es : List (List PV)} (h : BR φ H F w id (.arr sz true es)) {n : Nat} {x : Value} (hx : OsV φ w id sz n x) (hn : n = es.length) : ∃ a cap, x = .slice a n cap ∧ n ≤ cap ∧ SlAt F w es a := by
  obtain ⟨h0, h1, h2⟩ := h
  rcases hx with ⟨h3, a, rfl⟩ | ⟨r, cap, e, k, hφ, rfl, hc, _, _, _⟩
  · subst hn
    exact ⟨a, 0, by rw [h3], by omega, .inl (List.eq_nil_of_length_eq_zero h3)⟩
  · refine ⟨_, cap, rfl, hc, .inr ⟨r, 0, sz, rfl, h0, fun i q hq => ⟨h1 i q hq, fun j u hj => ?_⟩⟩⟩
    have hi : i < es.length := (List.getElem?_eq_some_iff.1 hq).1
    rcases h2 with ⟨h3, _⟩ | ⟨r', c, h3, ⟨e', h4⟩, _, _, _, h7, h8⟩
    · rw [hφ] at h3; cases h3
    · obtain rfl : r' = r := by rw [hφ] at h3; exact (Option.some.inj h3).symm
      obtain ⟨x, hx, hr⟩ := h8 i q j u hq hj
      have hjs : j < sz := by have := (List.getElem?_eq_some_iff.1 hj).1; rw [h1 i q hq] at this; exact this
      have hb : i * sz + sz ≤ es.length * sz := by
        have : (i + 1) * sz ≤ es.length * sz := Nat.mul_le_mul_right sz hi
        rwa [Nat.succ_mul] at this
      rw [Nat.zero_add]
      exact ⟨h7 rfl _ (by omega), x, by simp [World.cell?, h4, hx], hr⟩

/-- What an owner has put in stays from now on. -/
theorem freeze_arr (hS : SRel G φ H F w) {id : Id} {sz : Nat} {fz : Bool} {es : List (List PV)} (hg : H.get id = some (.arr sz fz es)) :
    ∃ F', Evo φ H F w φ (H.set id (.arr sz true es)) F' w ∧ SRel G φ (H.set id (.arr sz true es)) F' w := by
  have hbe : BE φ φ id (.arr sz fz es) (.arr sz true es) := by simp [BE]
  have hB := hS.blk id _ hg
  have hbe' : ∀ id' c, H.get id' = some c → ∃ b', (H.set id (.arr sz true es)).get id' = some b' ∧ BE φ φ id' c b' := fun id' c hc => by
    by_cases h : id' = id
    · subst h; rw [hg] at hc; cases hc; exact ⟨_, Hp.get_set_self hg, hbe⟩
    · exact ⟨c, by rw [Hp.get_set_other h]; exact hc, BE.refl φ id' c⟩
  have hpar : (H.set id (.arr sz true es)).par.length = H.par.length := by cases id <;> simp [Hp.set]
  have hhas : ∀ i r, φ i = some r → ((H.set id (.arr sz true es)).get i).isSome := fun i r h => by
    obtain ⟨c, hc⟩ := Option.isSome_iff_exists.1 (hS.has i r h)
    obtain ⟨c', hc', _⟩ := hbe' i c hc
    simp [hc']
  obtain ⟨h0, h1, h2⟩ := hB
  rcases h2 with ⟨h3, h4⟩ | ⟨r, c, h3, ⟨e, h4⟩, h5, h6, h7, h8, h9⟩
  · have E : Evo φ H F w φ (H.set id (.arr sz true es)) F w := { Evo.refl φ H F w with be := hbe', npar := hpar }
    refine ⟨F, E, ⟨hS.inj, hS.dom, hhas, fun id' c hc => ?_, hS.glob, hS.fin⟩⟩
    by_cases h : id' = id
    · subst h; rw [Hp.get_set_self hg] at hc; cases hc; exact ⟨h0, h1, .inl ⟨h3, h4⟩⟩
    · rw [Hp.get_set_other h] at hc; exact BR.evo E rfl (fun _ _ => rfl) (fun _ _ _ => Iff.rfl) (hS.blk id' c hc)
  · let F' : Cl := fun b o => F b o ∨ (b = r ∧ o < es.length * sz)
    have E : Evo φ H F w φ (H.set id (.arr sz true es)) F' w :=
      { Evo.refl φ H F w with
        be := hbe'
        npar := hpar
        kp := ⟨fun b o f => .inl f, fun _ _ _ => rfl⟩
        newF := fun b o f => by
          rcases f with f | ⟨rfl, _⟩
          · exact .inl f
          · exact .inr (.inl ⟨id, h3⟩) }
    refine ⟨F', E, ⟨hS.inj, hS.dom, hhas, fun id' c' hc => ?_, fun g cs h => (hS.glob g cs h).keeps E.kp, fun b o f => ?_⟩⟩
    · by_cases h : id' = id
      · subst h
        rw [Hp.get_set_self hg] at hc
        cases hc
        refine ⟨h0, h1, .inr ⟨r, c, h3, ⟨e, h4⟩, h5, h6, fun o f => ⟨rfl, ?_⟩, fun _ o ho => .inr ⟨rfl, ho⟩, fun i q j u hq hu => ?_⟩⟩
        · rcases f with f | ⟨_, f⟩
          · exact (h7 o f).2
          · exact f
        · obtain ⟨x, hx, hr⟩ := h9 i q j u hq hu
          exact ⟨x, hx, hr.keeps E.kp⟩
      · rw [Hp.get_set_other h] at hc
        refine BR.evo E rfl (fun _ _ => rfl) (fun r' o hr' => ⟨fun f => ?_, fun f => .inl f⟩) (hS.blk id' c' hc)
        rcases f with f | ⟨rfl, _⟩
        · exact f
        · exact absurd (hS.inj id' id _ hr' h3) h
    · rcases f with f | ⟨rfl, _⟩
      · exact hS.fin b o f
      · exact hS.dom id b h3

theorem freezeC_run (hS : SRel G φ H F w) {c c' : C} {H' : Hp} {p : Bool} {x : Value} (hc : CR φ H F w c x) (h : freezeC H c = some (p, c', H')) (hp : p = true) :
    ∃ F', Evo φ H F w φ H' F' w ∧ SRel G φ H' F' w ∧ CR φ H' F' w c' x := by
  subst hp
  cases c <;> simp only [freezeC] at h
  case os id n =>
    obtain ⟨sz, fz, es, hg, hn, hv⟩ := hc
    simp only [hg, Option.some.injEq, Prod.mk.injEq, decide_eq_true_eq] at h
    obtain ⟨h1, rfl, rfl⟩ := h
    obtain ⟨F', E, S⟩ := freeze_arr hS hg
    refine ⟨F', E, S, ?_⟩
    obtain ⟨a, cap, rfl, hc, hs⟩ := (S.blk id _ (Hp.get_set_self hg)).slAt (hv h1) h1
    exact Rp.of_slAt hs h1 hc
  case nils =>
    simp only [Option.some.injEq, Prod.mk.injEq, true_and] at h
    obtain ⟨rfl, rfl⟩ := h
    have hc : x = .slice none 0 0 := hc
    subst hc
    exact ⟨F, Evo.refl φ H F w, hS, Rp.sl0 _ _⟩
  case ti es =>
    simp only [Option.some.injEq, Prod.mk.injEq, true_and] at h
    obtain ⟨rfl, rfl⟩ := h
    obtain ⟨a, rfl, hs⟩ := hc
    exact ⟨F, Evo.refl φ H F w, hS, Rp.of_slAt hs rfl (Nat.le_refl _)⟩
  all_goals
    simp only [Option.some.injEq, Prod.mk.injEq, true_and] at h
    obtain ⟨rfl, rfl⟩ := h
    exact ⟨F, Evo.refl φ H F w, hS, hc⟩

theorem freezeCs_run : ∀ {cs cs' : List C} {H H' : Hp} {F : Cl} {p : Bool} {xs : List Value}, SRel G φ H F w → F2 (fun c x => CR φ H F w c x ∧ Flat x) cs xs → freezeCs H cs = some (p, cs', H') → p = true →
    ∃ F', Evo φ H F w φ H' F' w ∧ SRel G φ H' F' w ∧ F2 (fun c x => CR φ H' F' w c x ∧ Flat x) cs' xs
  | [], cs', H, H', F, p, xs, hS, hc, h, hp => by
    simp only [freezeCs, Option.some.injEq, Prod.mk.injEq] at h
    obtain ⟨_, rfl, rfl⟩ := h
    cases hc
    exact ⟨F, Evo.refl φ H F w, hS, .nil⟩
  | c :: cs, cs', H, H', F, p, _, hS, .cons hc ht, h, hp => by
    simp only [freezeCs] at h
    split at h
    · rename_i b1 c1 H1 h1
      split at h
      · rename_i b2 r2 H2 h2
        simp only [Option.some.injEq, Prod.mk.injEq] at h
        obtain ⟨rfl, rfl, rfl⟩ := h
        simp only [Bool.and_eq_true] at hp
        obtain ⟨F1, E1, S1, C1⟩ := freezeC_run hS hc.1 h1 hp.1
        obtain ⟨F2', E2, S2, C2⟩ := freezeCs_run S1 (ht.imp fun _ _ q => ⟨q.1.evo E1, q.2⟩) h2 hp.2
        exact ⟨F2', E1.trans E2, S2, .cons ⟨C1.evo E2, hc.2⟩ C2⟩
      · cases h
    · cases h

theorem freezeA_run (hS : SRel G φ H F w) {a a' : AV} {H' : Hp} {p : Bool} {x : Value} (ha : AR φ H F w a x) (h : freezeA H a = some (p, a', H')) (hp : p = true) :
    ∃ F', Evo φ H F w φ H' F' w ∧ SRel G φ H' F' w ∧ AR φ H' F' w a' x := by
  cases a with
  | un => simp [freezeA] at h
  | c c =>
    simp only [freezeA] at h
    split at h
    · rename_i b1 c1 H1 h1
      simp only [Option.some.injEq, Prod.mk.injEq] at h
      obtain ⟨rfl, rfl, rfl⟩ := h
      obtain ⟨F1, E1, S1, C1⟩ := freezeC_run hS ha.cc.1 h1 hp
      exact ⟨F1, E1, S1, .ofCR C1 ha.cc.2⟩
    · cases h
  | agg cs =>
    simp only [freezeA, Option.some.injEq, Prod.mk.injEq] at h
    obtain ⟨_, rfl, rfl⟩ := h
    exact ⟨F, Evo.refl φ H F w, hS, ha⟩
  | mg cs =>
    simp only [freezeA] at h
    split at h
    · rename_i b1 c1 H1 h1
      simp only [Option.some.injEq, Prod.mk.injEq] at h
      obtain ⟨rfl, rfl, rfl⟩ := h
      obtain ⟨xs, rfl, hx⟩ := ha.mix
      obtain ⟨F1, E1, S1, C1⟩ := freezeCs_run hS hx h1 hp
      exact ⟨F1, E1, S1, mkAgg_rel C1⟩
    · cases h
  | tup vs => simp [freezeA] at h

theorem freezeAs_run : ∀ {as as' : List AV} {H H' : Hp} {F : Cl} {p : Bool} {xs : List Value}, SRel G φ H F w → F2 (AR φ H F w) as xs → freezeAs H as = some (p, as', H') → p = true →
    ∃ F', Evo φ H F w φ H' F' w ∧ SRel G φ H' F' w ∧ F2 (AR φ H' F' w) as' xs
  | [], cs', H, H', F, p, xs, hS, hc, h, hp => by
    simp only [freezeAs, Option.some.injEq, Prod.mk.injEq] at h
    obtain ⟨_, rfl, rfl⟩ := h
    cases hc
    exact ⟨F, Evo.refl φ H F w, hS, .nil⟩
  | c :: cs, cs', H, H', F, p, _, hS, .cons hc ht, h, hp => by
    simp only [freezeAs] at h
    split at h
    · rename_i b1 c1 H1 h1
      split at h
      · rename_i b2 r2 H2 h2
        simp only [Option.some.injEq, Prod.mk.injEq] at h
        obtain ⟨rfl, rfl, rfl⟩ := h
        simp only [Bool.and_eq_true] at hp
        obtain ⟨F1, E1, S1, C1⟩ := freezeA_run hS hc h1 hp.1
        obtain ⟨F2', E2, S2, C2⟩ := freezeAs_run S1 (ht.imp fun _ _ q => q.evo E1) h2 hp.2
        exact ⟨F2', E1.trans E2, S2, .cons (C1.evo E2) C2⟩
      · cases h
    · cases h

theorem pureA_rel {a : AV} {x : Value} (ha : AR φ H F w a x) {ps : List PV} (h : pureA a = some ps) : F2 (Rp F w) ps x.cells.toList := by
  cases a with
  | c c =>
    cases c <;> simp only [pureA, Option.some.injEq, reduceCtorEq] at h
    subst h
    have := ha.cells (us := [.p _]) rfl
    exact (F2.mapl (f := C.p) (as := [_])).1 this |>.imp fun _ _ q => q.1
  | agg cs =>
    simp only [pureA, Option.some.injEq] at h
    subst h
    have := ha.cells (us := cs.map .p) rfl
    exact (F2.mapl.1 this).imp fun _ _ q => q.1
  | _ => simp [pureA] at h

/-- New frozen cells: a literal's, a conversion's. -/
theorem snd_frozen (hS : SRel G φ H F w) {w' : World} {xs : List Value} {e : TypeId} {fr : Nat × Nat} (hG : Grown w w' (.cells xs.toArray e fr)) :
    let F' : Cl := fun b o => F b o ∨ b = w.heap.size
    Evo φ H F w φ H F' w' ∧ SRel G φ H F' w' := by
  intro F'
  have E : Evo φ H F w φ H F' w' :=
    { os := hG.os, tape := hG.tape, output := hG.output, size := by rw [hG.size]; omega
      keep := fun r hr _ => hG.old hr
      kp := ⟨fun _ _ f => .inl f, fun b o f => cell_of_heap (hG.old (hS.fin b o f))⟩
      newF := fun b o f => by
        rcases f with f | f
        · exact .inl f
        · exact .inr (.inr (by omega))
      new := fun _ _ h => .inl h
      be := fun id b h => ⟨b, h, BE.refl φ id b⟩
      shp := fun r hr => shape_of_heap (hG.old hr)
      npar := rfl }
  refine ⟨E, ⟨hS.inj, fun i r h => by rw [hG.size]; have := hS.dom i r h; omega, hS.has, fun id b h => ?_, fun g cs h => (hS.glob g cs h).keeps E.kp, fun b o f => ?_⟩⟩
  · refine BR.evo E rfl (fun r hr => hG.old (hS.dom id r hr)) (fun r o hr => ⟨fun f => ?_, fun f => .inl f⟩) (hS.blk id b h)
    rcases f with f | f
    · exact f
    · have := hS.dom id r hr; omega
  · rw [hG.size]
    rcases f with f | f
    · have := hS.fin b o f; omega
    · omega
end
end Go.Ab
