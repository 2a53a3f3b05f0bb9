/- Blocks forgotten that nothing names. No condition. -/
import Derived.Test.YteipepbijfdciaaAb8
set_option linter.unusedSimpArgs false
set_option linter.unusedVariables false
namespace Go.Ab
open Go

section
variable {P : Program} {G : Gl} {N : Nat}

/-! ### Blocks forgotten -/
def idsT : AV → List Id
  | .tup vs => vs.flatMap idsA
  | a => idsA a
def underI (n : Nat) : Id → Bool
  | .loc k => Nat.blt k n
  | .par _ => true
def underA (n : Nat) (a : AV) : Bool := (idsT a).all (underI n)
def underB (n : Nat) : Blk → Bool
  | .mrow cs => cs.all fun c => (idsC c).all (underI n)
  | _ => true
def cutH (n : Nat) (H : Hp) : Hp := ⟨H.par, H.loc.take n⟩
def underH (n : Nat) (H : Hp) : Bool := H.par.all (underB n) && H.loc.all (underB n)
def underT (n : Nat) (T : Tm) : Bool := T.all fun p => underA n p.2
def cutφ (φ : Pl) (n : Nat) : Pl := fun i => match underI n i with | true => φ i | false => none

variable {φ φ' : Pl} {H H' : Hp} {F F' : Cl} {w w' : World} {T T' : Tm}

theorem cut_get {n : Nat} {i : Id} (h : underI n i = true) : (cutH n H).get i = H.get i := by
  cases i with
  | par k => rfl
  | loc k =>
    simp only [underI, Nat.blt_eq] at h
    simp only [cutH, Hp.get]
    rw [List.getElem?_take_of_lt h]
theorem cut_get_some {n : Nat} {i : Id} {b : Blk} (h : (cutH n H).get i = some b) : underI n i = true ∧ H.get i = some b := by
  cases i with
  | par k => exact ⟨rfl, h⟩
  | loc k =>
    simp only [cutH, Hp.get] at h ⊢
    have := (List.getElem?_eq_some_iff.1 h).1
    simp only [List.length_take] at this
    have hk : k < n := by omega
    rw [List.getElem?_take_of_lt hk] at h
    exact ⟨by simpa [underI] using hk, h⟩
theorem cutφ_under {n : Nat} {i : Id} (h : underI n i = true) : cutφ φ n i = φ i := by simp [cutφ, h]
theorem cutφ_some {n : Nat} {i : Id} {r : Nat} (h : cutφ φ n i = some r) : underI n i = true ∧ φ i = some r := by
  unfold cutφ at h
  split at h
  · rename_i hu; exact ⟨hu, h⟩
  · cases h

theorem CR.cut {n : Nat} {c : C} {x : Value} (hu : (idsC c).all (underI n) = true) (h : CR φ H F w c x) : CR (cutφ φ n) (cutH n H) F w c x := by
  have hi : ∀ i ∈ idsC c, (cutH n H).get i = H.get i ∧ cutφ φ n i = φ i := fun i hi => ⟨cut_get (List.all_eq_true.1 hu i hi), cutφ_under (List.all_eq_true.1 hu i hi)⟩
  cases c with
  | ptr id o => obtain ⟨h1, h2⟩ := hi id (by simp [idsC]); simpa only [CR, h1, h2] using h
  | ap id m j o => obtain ⟨h1, h2⟩ := hi id (by simp [idsC]); simpa only [CR, h1, h2] using h
  | os id m => obtain ⟨h1, h2⟩ := hi id (by simp [idsC]); simpa only [CR, OsV, h1, h2] using h
  | fn g caps =>
    obtain ⟨cv, h1, h2⟩ := h
    refine ⟨cv, h1, ?_⟩
    simp only [idsC] at hi
    clear h1 hu
    induction h2 with
    | nil => exact .nil
    | cons q _ ih =>
      obtain ⟨b, r, q1, q2, q3, q4⟩ := q
      obtain ⟨e1, e2⟩ := hi _ List.mem_cons_self
      exact .cons ⟨b, r, e1.trans q1, q2, e2.trans q3, q4⟩ (ih fun i h => hi i (by simp [h]))
  | _ => exact h
theorem AR1.cut {n : Nat} {a : AV} {x : Value} (hu : (idsA a).all (underI n) = true) (h : AR1 φ H F w a x) : AR1 (cutφ φ n) (cutH n H) F w a x := by
  cases h with
  | un x => exact .un x
  | c h hx => exact .c (h.cut hu) hx
  | agg h => exact .agg h
  | mg h =>
    simp only [idsA] at hu
    refine .mg ?_
    induction h with
    | nil => exact .nil
    | cons q _ ih =>
      rw [List.flatMap_cons, List.all_append, Bool.and_eq_true] at hu
      exact .cons ⟨q.1.cut hu.1, q.2⟩ (ih hu.2)
theorem AR.cut {n : Nat} {a : AV} {x : Value} (hu : underA n a = true) (h : AR φ H F w a x) : AR (cutφ φ n) (cutH n H) F w a x := by
  cases h with
  | one h =>
    refine .one (h.cut ?_)
    cases h <;> exact hu
  | tup h =>
    simp only [underA, idsT] at hu
    refine .tup ?_
    induction h with
    | nil => exact .nil
    | cons q _ ih =>
      rw [List.flatMap_cons, List.all_append, Bool.and_eq_true] at hu
      exact .cons (q.cut hu.1) (ih hu.2)
theorem BR.cut {n : Nat} {id : Id} {b : Blk} (hid : underI n id = true) (hu : underB n b = true) (h : BR φ H F w id b) : BR (cutφ φ n) (cutH n H) F w id b := by
  have hφ := cutφ_under (φ := φ) hid
  cases b with
  | row cs => simpa only [BR, hφ] using h
  | mrow cs =>
    obtain ⟨r, c, h1, h2, h3, h4⟩ := h
    refine ⟨r, c, hφ.trans h1, h2, h3, ?_⟩
    simp only [underB] at hu
    clear h2
    generalize c.toList = xs at h4
    induction h4 with
    | nil => exact .nil
    | cons q _ ih =>
      rw [List.all_cons, Bool.and_eq_true] at hu
      exact .cons ⟨q.1.cut hu.1, q.2⟩ (ih hu.2)
  | arr sz fz es => simpa only [BR, hφ] using h
  | hole => exact hφ.trans h

theorem under_get {n : Nat} (h : underT n T = true) (t : Nat) : underA n (T.get t) = true := by
  induction T with
  | nil => rfl
  | cons p r ih =>
    obtain ⟨u, v⟩ := p
    simp only [underT, List.all_cons, Bool.and_eq_true] at h
    simp only [Tm.get]
    split
    · exact h.1
    · exact ih h.2
theorem under_blk {n : Nat} (h : underH n H = true) {i : Id} {b : Blk} (hg : H.get i = some b) : underB n b = true := by
  simp only [underH, Bool.and_eq_true] at h
  cases i with
  | par k => exact List.all_eq_true.1 h.1 b (List.mem_of_getElem? hg)
  | loc k => exact List.all_eq_true.1 h.2 b (List.mem_of_getElem? hg)

theorem srel_cut {n : Nat} (hn : H.loc.length ≤ n) (hu : underH n (cutH n H') = true) (E : Evo φ H F w φ' H' F' w') (S : SRel G φ' H' F' w') : Evo φ H F w (cutφ φ' n) (cutH n H') F' w' ∧ SRel G (cutφ φ' n) (cutH n H') F' w' := by
  have hold : ∀ {i b}, H.get i = some b → underI n i = true := by
    intro i b h
    cases i with
    | par k => rfl
    | loc k =>
      have := (List.getElem?_eq_some_iff.1 h).1
      simp [underI]; omega
  refine ⟨{ os := E.os, tape := E.tape, output := E.output, size := E.size, keep := E.keep, kp := E.kp, newF := E.newF, new := fun id r h => E.new id r (cutφ_some h).2, be := fun id b hb => ?_, shp := E.shp, npar := E.npar }, ?_⟩
  · obtain ⟨b', h1, h2⟩ := E.be id b hb
    refine ⟨b', (cut_get (hold hb)).trans h1, ?_⟩
    have := cutφ_under (φ := φ') (hold hb)
    cases b <;> cases b' <;> simp_all [BE]
  · refine ⟨fun i j r hi hj => S.inj i j r (cutφ_some hi).2 (cutφ_some hj).2, fun i r h => S.dom i r (cutφ_some h).2, fun i r h => ?_, fun id b hb => ?_, S.glob, S.fin⟩
    · obtain ⟨h1, h2⟩ := cutφ_some h
      rw [cut_get h1]
      exact S.has i r h2
    · obtain ⟨h1, h2⟩ := cut_get_some hb
      exact (S.blk id b h2).cut h1 (under_blk hu hb)

/-- What a piece of code comes to, with blocks forgotten that nothing names. -/
theorem SemI.cut {x : Item} {K K' : Ex → Tm → Hp → Prop} (h : SemI P G N x T H K') (hk : ∀ e T' H', K' e T' H' → K e T' H' ∨ ∃ n T1, H.loc.length ≤ n ∧ Sub T' T1 ∧ underT n T1 = true ∧ underH n (cutH n H') = true ∧ K e T1 (cutH n H')) : SemI P G N x T H K := by
  intro φ F w fr k cs base hp
  obtain ⟨e, T', H', φ', F', w', tmps', ds', h1, h2, h3, h4⟩ := h φ F w fr k cs base hp
  rcases hk e T' H' h1 with h1 | ⟨n, T1, q1, q2, q3, q4, q5⟩
  · exact ⟨e, T', H', φ', F', w', tmps', ds', h1, h2, h3, h4⟩
  · obtain ⟨E, S⟩ := srel_cut q1 q4 h2 h3.srel
    exact ⟨e, T1, _, _, F', w', tmps', ds', q5, E, { run := h3.run, size := h3.size, defers := h3.defers, round := h3.round, base := h3.base, srel := S, trel := fun t => ((h3.trel.sub q2) t).cut (under_get q3 t) }, h4⟩

end
end Go.Ab
