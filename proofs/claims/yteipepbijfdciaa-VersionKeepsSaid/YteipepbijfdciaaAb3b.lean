/- Loads, stores, new blocks, held against the model's memory. No condition. -/
import Derived.Test.YteipepbijfdciaaAb3
set_option linter.unusedSimpArgs false
set_option linter.unusedVariables false
namespace Go.Ab
open Go

section
variable {P : Program} {G : Gl} {φ : Pl} {H : Hp} {F : Cl} {w : World}

theorem shapeT_spec {t : TypeId} {agg : Bool} {n : Nat} (h : shapeT P t = some (agg, n)) :
    ∃ i d, P.info? t = some i ∧ P.underlying t = some d ∧ n = i.size ∧ agg = (match d with | .struct _ | .array _ _ => true | _ => false) := by
  unfold shapeT at h
  cases hi : P.info? t with
  | none => simp [hi] at h
  | some i =>
    cases hu : P.underlying t with
    | none => simp [hi, hu] at h
    | some d => refine ⟨i, d, rfl, rfl, ?_⟩; cases d <;> simp [hi, hu] at h <;> exact ⟨h.2.symm, by simp [h.1]⟩

theorem run_isAgg {t : TypeId} {agg : Bool} {n : Nat} (h : shapeT P t = some (agg, n)) (w : World) : (isAgg t).run P w = .ok agg w := by
  obtain ⟨i, d, hi, hu, _, rfl⟩ := shapeT_spec h
  unfold isAgg
  rw [Sem.run_bind, run_underlying hu w]
  cases d <;> simp

theorem run_sizeOf {t : TypeId} {agg : Bool} {n : Nat} (h : shapeT P t = some (agg, n)) (w : World) : (sizeOf t).run P w = .ok n w := by
  obtain ⟨i, d, hi, hu, rfl, _⟩ := shapeT_spec h
  simp [sizeOf, typeInfo, hi]

/-- Related cells from an address on. -/
def AtC {α : Type} (R : α → Value → Prop) (w : World) (b o : Nat) (us : List α) : Prop :=
  ∀ (j : Nat) (u : α), us[j]? = some u → ∃ v, w.cell? ⟨b, o + j, none⟩ = some v ∧ R u v

theorem AtC.list {α : Type} {R : α → Value → Prop} {b : Nat} : ∀ {us : List α} {o : Nat}, AtC R w b o us →
    ∃ xs : List Value, F2 R us xs ∧ ∀ (j : Nat) (v : Value), xs[j]? = some v → w.cell? ⟨b, o + j, none⟩ = some v
  | [], o, _ => ⟨[], .nil, fun j v h => by simp at h⟩
  | u :: us, o, h => by
    obtain ⟨v, hv, hr⟩ := h 0 u rfl
    obtain ⟨xs, h1, h2⟩ := AtC.list (us := us) (o := o + 1) (fun j u hj => by
      have := h (j + 1) u (by simpa using hj)
      rwa [show o + 1 + j = o + (j + 1) by omega])
    refine ⟨v :: xs, .cons hr h1, fun j v' hj => ?_⟩
    cases j with
    | zero => simp at hj; subst hj; exact hv
    | succ j => have := h2 j v' (by simpa using hj); rwa [show o + 1 + j = o + (j + 1) by omega] at this

theorem AtC.sub {α : Type} {R : α → Value → Prop} {b o : Nat} {us : List α} (h : AtC R w b o us) (d n : Nat) : AtC R w b (o + d) ((us.drop d).take n) := by
  intro j u hj
  rw [List.getElem?_take] at hj
  split at hj
  · rw [List.getElem?_drop] at hj
    have := h (d + j) u hj
    rwa [show o + d + j = o + (d + j) by omega]
  · simp at hj

theorem At.atC {b o : Nat} {cs : List PV} (h : At F w b o cs) : AtC (Rp F w) w b o cs := fun j c hc => (h j c hc).2

theorem atC_own {α : Type} {R : α → Value → Prop} {r : Nat} {c : Array Value} (ho : Own w r c) {us : List α} (h : F2 R us c.toList) : AtC R w r 0 us := by
  obtain ⟨e, he⟩ := ho
  intro j u hj
  obtain ⟨v, hv, hr⟩ := h.get hj
  exact ⟨v, by simp [World.cell?, he]; simpa using hv, hr⟩

theorem run_loadAgg {t : TypeId} {n : Nat} (ht : shapeT P t = some (true, n)) {b o : Nat} {xs : List Value} (hl : xs.length = n)
    (h : ∀ (j : Nat) (v : Value), xs[j]? = some v → w.cell? ⟨b, o + j, none⟩ = some v) : (loadVar t ⟨b, o, none⟩).run P w = .ok (.agg xs.toArray) w := by
  subst hl
  have hl := run_loadCells_list (P := P) w ⟨b, o, none⟩ xs (fun j v hv => by rw [Addr.add_lit]; exact h j v hv)
  simp [loadVar, run_isAgg ht, run_sizeOf ht, hl]

theorem run_loadOne {t : TypeId} {n : Nat} (ht : shapeT P t = some (false, n)) {b o : Nat} {v : Value} (h : w.cell? ⟨b, o, none⟩ = some v) : (loadVar t ⟨b, o, none⟩).run P w = .ok v w := by
  simp [loadVar, run_isAgg ht, h]

theorem allPure_map {cs : List C} {ps : List PV} (h : allPure cs = some ps) : cs = ps.map .p := by
  induction cs generalizing ps with
  | nil => simp [allPure] at h; subst h; rfl
  | cons c cs ih =>
    cases c <;> simp [allPure] at h
    cases hr : allPure cs with
    | none => simp [hr] at h
    | some l => simp [hr] at h; subst h; rw [ih hr]; rfl

theorem mkAgg_rel {cs : List C} {xs : List Value} (h : F2 (fun c x => CR φ H F w c x ∧ Flat x) cs xs) : AR φ H F w (mkAgg cs) (.agg xs.toArray) := by
  unfold mkAgg
  cases hp : allPure cs with
  | none => exact .one (.mg h)
  | some ps =>
    rw [allPure_map hp] at h
    exact .one (.agg ((F2.mapl.1 h).imp fun a b r => r.1))

/-- A load from pure cells. -/
theorem run_partP {t : TypeId} {agg : Bool} {n : Nat} (ht : shapeT P t = some (agg, n)) {cs : List PV} {b o0 o : Nat} (hA : AtC (Rp F w) w b o0 cs) {p : Bool} {v : AV}
    (h : partP agg n cs o = some (p, v)) (hp : p = true) : ∃ xv, (loadVar t ⟨b, o0 + o, none⟩).run P w = .ok xv w ∧ AR φ H F w v xv := by
  subst hp
  cases agg with
  | true =>
    simp only [partP, Option.some.injEq, Prod.mk.injEq, decide_eq_true_eq] at h
    obtain ⟨hl, rfl⟩ := h
    obtain ⟨xs, h1, h2⟩ := (hA.sub o n).list
    exact ⟨_, run_loadAgg ht (by rw [← h1.len]; simp; omega) h2, .one (.agg h1)⟩
  | false =>
    simp only [partP] at h
    cases hc : cs[o]? with
    | none => simp [hc] at h
    | some u =>
      simp only [hc, Option.some.injEq, Prod.mk.injEq, true_and] at h
      subst h
      obtain ⟨x, hx, hr⟩ := hA o u hc
      exact ⟨x, run_loadOne ht hx, .ofRp hr⟩

theorem run_partM {t : TypeId} {agg : Bool} {n : Nat} (ht : shapeT P t = some (agg, n)) {cs : List C} {b o0 o : Nat} (hA : AtC (fun c x => CR φ H F w c x ∧ Flat x) w b o0 cs) {p : Bool} {v : AV}
    (h : partM agg n cs o = some (p, v)) (hp : p = true) : ∃ xv, (loadVar t ⟨b, o0 + o, none⟩).run P w = .ok xv w ∧ AR φ H F w v xv := by
  subst hp
  cases agg with
  | true =>
    simp only [partM, Option.some.injEq, Prod.mk.injEq, decide_eq_true_eq] at h
    obtain ⟨hl, rfl⟩ := h
    obtain ⟨xs, h1, h2⟩ := (hA.sub o n).list
    exact ⟨_, run_loadAgg ht (by rw [← h1.len]; simp; omega) h2, mkAgg_rel h1⟩
  | false =>
    simp only [partM] at h
    cases hc : cs[o]? with
    | none => simp [hc] at h
    | some u =>
      simp only [hc, Option.some.injEq, Prod.mk.injEq, true_and] at h
      subst h
      obtain ⟨x, hx, hr⟩ := hA o u hc
      exact ⟨x, run_loadOne ht hx, .ofCR hr.1 hr.2⟩

theorem BR.arrAt {id : Id} {sz : Nat} {fz : Bool} {es : List (List PV)} (h : BR φ H F w id (.arr sz fz es)) {i : Nat} {q : List PV} (hq : es[i]? = some q) : ∃ r, φ id = some r ∧ AtC (Rp F w) w r (i * sz) q := by
  obtain ⟨_, _, h2⟩ := h
  rcases h2 with ⟨_, rfl⟩ | ⟨r, c, h2, ⟨e, h3⟩, h4, h5, h6, h7, h8⟩
  · simp at hq
  · refine ⟨r, h2, fun j u hj => ?_⟩
    obtain ⟨x, hx, hr⟩ := h8 i q j u hq hj
    exact ⟨x, by simp [World.cell?, h3, hx], hr⟩

theorem loadS_run {t : TypeId} {agg : Bool} {n : Nat} (ht : shapeT P t = some (agg, n)) (hS : SRel G φ H F w) {a : AV} {x : Value} (ha : AR φ H F w a x) {res : Res}
    (h : loadS agg n a H = some res) (hp : res.pre = true) : res.h = H ∧ ∃ xv, (Instr.loadAt t x).run P w = .ok xv w ∧ AR φ H F w res.v xv := by
  have go : ∀ (b o : Nat) (xv : Value), x = .pointer (some ⟨b, o, none⟩) → (loadVar t ⟨b, o, none⟩).run P w = .ok xv w → (Instr.loadAt t x).run P w = .ok xv w := by
    rintro b o xv rfl hr
    simp [Instr.loadAt, Instr.sureAddr, hr]
  unfold loadS at h
  split at h
  · rename_i cs
    obtain ⟨⟨b, o, rfl, hA⟩, _⟩ := ha.cc
    cases hq : partP agg n cs 0 with
    | none => simp [hq, resOf] at h
    | some q =>
      obtain ⟨p, v⟩ := q
      simp only [hq, resOf, Option.some.injEq] at h
      subst h
      obtain ⟨xv, h1, h2⟩ := run_partP (φ := φ) (H := H) ht hA.atC hq hp
      exact ⟨rfl, xv, go b o xv rfl h1, h2⟩
  · rename_i id o
    obtain ⟨⟨blk, r, hg, _, hφ, rfl⟩, _⟩ := ha.cc
    split at h
    · rename_i cs hgc
      rw [hg] at hgc
      cases hgc
      obtain ⟨r', c, hφ', ho, _, hc⟩ := hS.blk id _ hg
      obtain rfl : r' = r := by rw [hφ] at hφ'; exact (Option.some.inj hφ').symm
      cases hq : partP agg n cs o with
      | none => simp [hq, resOf] at h
      | some q =>
        obtain ⟨p, v⟩ := q
        simp only [hq, resOf, Option.some.injEq] at h
        subst h
        obtain ⟨xv, h1, h2⟩ := run_partP (φ := φ) (H := H) ht (atC_own ho hc) hq hp
        exact ⟨rfl, xv, go _ _ xv rfl (by simpa using h1), h2⟩
    · rename_i cs hgc
      rw [hg] at hgc
      cases hgc
      obtain ⟨r', c, hφ', ho, _, hc⟩ := hS.blk id _ hg
      obtain rfl : r' = r := by rw [hφ] at hφ'; exact (Option.some.inj hφ').symm
      cases hq : partM agg n cs o with
      | none => simp [hq, resOf] at h
      | some q =>
        obtain ⟨p, v⟩ := q
        simp only [hq, resOf, Option.some.injEq] at h
        subst h
        obtain ⟨xv, h1, h2⟩ := run_partM (φ := φ) (H := H) ht (atC_own ho hc) hq hp
        exact ⟨rfl, xv, go _ _ xv rfl (by simpa using h1), h2⟩
    · simp at h
  · rename_i id m i o
    obtain ⟨⟨sz, fz, es, b, k, hg, hm, rfl, hx⟩, _⟩ := ha.cc
    simp only [hg] at h
    cases hi : es[i]? with
    | none => simp [hi] at h
    | some cs =>
      simp only [hi] at h
      cases hq : partP agg n cs o with
      | none => simp [hq] at h
      | some q =>
        obtain ⟨p, v⟩ := q
        simp only [hq, Option.some.injEq] at h
        subst h
        simp only [Bool.and_eq_true, decide_eq_true_eq] at hp
        obtain ⟨hφ, rfl⟩ := hx hp.2
        obtain ⟨r', hφ', hA⟩ := (hS.blk id _ hg).arrAt hi
        obtain rfl : r' = b := by rw [hφ] at hφ'; exact (Option.some.inj hφ').symm
        obtain ⟨xv, h1, h2⟩ := run_partP (φ := φ) (H := H) ht hA hq hp.1
        exact ⟨rfl, xv, go _ _ xv rfl h1, h2⟩
  · simp at h
end
end Go.Ab
