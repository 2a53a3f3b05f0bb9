/- Stores and new blocks, held against the model's memory. No condition. -/
import Derived.Test.YteipepbijfdciaaAb3b
set_option linter.unusedSimpArgs false
set_option linter.unusedVariables false
namespace Go.Ab
open Go

section
variable {P : Program} {G : Gl} {φ : Pl} {H : Hp} {F : Cl} {w : World}

theorem Hp.get_set_self {H : Hp} {id : Id} {b b' : Blk} (h : H.get id = some b) : (H.set id b').get id = some b' := by
  cases id <;> simp only [Hp.get, Hp.set] at * <;> rw [List.getElem?_set_self (List.getElem?_eq_some_iff.1 h).1]
theorem Hp.get_set_other {H : Hp} {id id' : Id} {b' : Blk} (h : id' ≠ id) : (H.set id b').get id' = H.get id' := by
  cases id <;> cases id' <;> simp only [Hp.get, Hp.set] <;> first
    | rfl
    | (rw [List.getElem?_set_ne]; intro e; subst e; exact h rfl)
theorem Hp.get_add_old {H : Hp} {id : Id} {b b' : Blk} (h : H.get id = some b) : (H.add b').get id = some b := by
  cases id <;> simp only [Hp.get, Hp.add] at *
  · exact h
  · rw [List.getElem?_append_left (List.getElem?_eq_some_iff.1 h).1]; exact h
theorem Hp.get_add_new {H : Hp} {b : Blk} : (H.add b).get H.nid = some b := by
  simp [Hp.get, Hp.add, Hp.nid]
theorem Hp.get_add_cases {H : Hp} {id : Id} {b b' : Blk} (h : (H.add b').get id = some b) : H.get id = some b ∨ (id = H.nid ∧ b = b') := by
  cases id with
  | par n => exact .inl h
  | loc n =>
    simp only [Hp.get, Hp.add, List.getElem?_append] at h
    split at h
    · exact .inl h
    · rename_i hn
      have hlt := (List.getElem?_eq_some_iff.1 h).1
      simp at hlt
      obtain rfl : n = H.loc.length := by omega
      simp at h
      exact .inr ⟨rfl, h.symm⟩
theorem Hp.nid_none {H : Hp} : H.get H.nid = none := by simp [Hp.get, Hp.nid]

theorem cell_of_heap {w w' : World} {b o : Nat} (h : w'.heap[b]? = w.heap[b]?) : w'.cell? ⟨b, o, none⟩ = w.cell? ⟨b, o, none⟩ := by simp [World.cell?, h]
theorem shape_of_heap {w w' : World} {r : Nat} (h : w'.heap[r]? = w.heap[r]?) : w'.shape? r = w.shape? r := by simp [World.shape?, h]

/-- One block's cells are written. -/
theorem evo_set {id : Id} {b b' : Blk} {r : Nat} {cur cur' : Array Value} {e : TypeId} (hg : H.get id = some b) (hbe : BE φ φ id b b') (hφ : φ id = some r) (hF : ∀ o, ¬ F r o)
    (ho : w.heap[r]? = some (.cells cur e (0, 0))) (hsz : cur'.size = cur.size) : Evo φ H F w φ (H.set id b') F (w.setRow r cur') where
  os := rfl
  tape := rfl
  output := rfl
  size := by simp
  keep := fun r' _ hn => setRow_other w r r' cur' (fun e => hn id (e ▸ hφ))
  kp := ⟨fun _ _ h => h, fun b o f => cell_of_heap (setRow_other w r b cur' (fun e => hF o (e ▸ f)))⟩
  newF := fun _ _ h => .inl h
  new := fun _ _ h => .inl h
  be := fun id' c hc => by
    by_cases h : id' = id
    · subst h
      rw [hg] at hc
      cases hc
      exact ⟨b', Hp.get_set_self hg, hbe⟩
    · exact ⟨c, by rw [Hp.get_set_other h]; exact hc, BE.refl φ id' c⟩
  shp := fun r' _ => by
    by_cases h : r' = r
    · subst h
      simp [World.shape?, ho, setRow_heap w r' cur cur' e _ ho, hsz]
    · exact shape_of_heap (setRow_other w r r' cur' h)
  npar := by cases id <;> simp [Hp.set]

theorem srel_set (hS : SRel G φ H F w) {id : Id} {b b' : Blk} {r : Nat} {cur cur' : Array Value} {e : TypeId} (hg : H.get id = some b) (hbe : BE φ φ id b b') (hφ : φ id = some r) (hF : ∀ o, ¬ F r o)
    (ho : w.heap[r]? = some (.cells cur e (0, 0))) (hsz : cur'.size = cur.size) (hb : BR φ (H.set id b') F (w.setRow r cur') id b') : SRel G φ (H.set id b') F (w.setRow r cur') := by
  have E := evo_set (cur' := cur') hg hbe hφ hF ho hsz
  refine ⟨hS.inj, fun i r' h => by simpa using hS.dom i r' h, fun i r' h => ?_, fun id' c hc => ?_, fun g cs h => (hS.glob g cs h).keeps E.kp, fun b o f => by simpa using hS.fin b o f⟩
  · obtain ⟨c, hc⟩ := Option.isSome_iff_exists.1 (hS.has i r' h)
    obtain ⟨c', hc', _⟩ := E.be i c hc
    simp [hc']
  · by_cases h : id' = id
    · subst h
      rw [Hp.get_set_self hg] at hc
      cases hc
      exact hb
    · rw [Hp.get_set_other h] at hc
      refine BR.evo E rfl (fun r' hr' => setRow_other w r r' cur' (fun e => h (hS.inj id' id r' hr' (e ▸ hφ)))) (fun _ _ _ => Iff.rfl) (hS.blk id' c hc)

/-- The new place of a block that has just been made. -/
def newφ (φ : Pl) (H : Hp) (r : Nat) : Pl := fun i => if i = H.nid then some r else φ i

theorem newφ_old (hS : SRel G φ H F w) {id : Id} {b : Blk} {r : Nat} (h : H.get id = some b) : newφ φ H r id = φ id := by
  unfold newφ
  rw [if_neg]
  intro e
  rw [e, Hp.nid_none] at h
  cases h

/-- The world gains a block (and may have drawn). -/
structure Grown (w w' : World) (o : Obj) : Prop where
  os : w'.os = w.os
  tape : w'.tape = w.tape
  output : w'.output = w.output
  heap : w'.heap = w.heap.push o

theorem Grown.alloc (w : World) (o : Obj) : Grown w (w.alloc o) o := ⟨rfl, rfl, rfl, rfl⟩
theorem Grown.drewAlloc (w : World) (o : Obj) : Grown w (w.drew.alloc o) o := ⟨rfl, rfl, rfl, rfl⟩
theorem Grown.old {w w' : World} {o : Obj} (h : Grown w w' o) {r : Nat} (hr : r < w.heap.size) : w'.heap[r]? = w.heap[r]? := by
  rw [h.heap, Array.getElem?_push, if_neg (Nat.ne_of_lt hr)]
theorem Grown.new {w w' : World} {o : Obj} (h : Grown w w' o) : w'.heap[w.heap.size]? = some o := by
  rw [h.heap]; simp
theorem Grown.size {w w' : World} {o : Obj} (h : Grown w w' o) : w'.heap.size = w.heap.size + 1 := by rw [h.heap]; simp

theorem no_phi_nid (hS : SRel G φ H F w) : φ H.nid = none := by
  cases h : φ H.nid with
  | none => rfl
  | some r => have := hS.has _ _ h; rw [Hp.nid_none] at this; simp at this

theorem evo_new (hS : SRel G φ H F w) {w' : World} {o : Obj} (hG : Grown w w' o) (b : Blk) (F' : Cl) (hF : ∀ b o, F b o → F' b o) (hF' : ∀ b o, F' b o → F b o ∨ b = w.heap.size) :
    Evo φ H F w (newφ φ H w.heap.size) (H.add b) F' w' where
  os := hG.os
  tape := hG.tape
  output := hG.output
  size := by rw [hG.size]; omega
  keep := fun r hr _ => hG.old hr
  kp := ⟨hF, fun b o f => cell_of_heap (hG.old (hS.fin b o f))⟩
  newF := fun b o f => by
    rcases hF' b o f with h | h
    · exact .inl h
    · exact .inr (.inr (by omega))
  new := fun id r h => by
    unfold newφ at h
    split at h
    · cases h; exact .inr (Nat.le_refl _)
    · exact .inl h
  be := fun id c hc => ⟨c, Hp.get_add_old hc, by
    have := newφ_old (r := w.heap.size) hS hc
    cases c <;> simp [BE, this]⟩
  shp := fun r hr => shape_of_heap (hG.old hr)
  npar := rfl

theorem srel_new (hS : SRel G φ H F w) {w' : World} {o : Obj} (hG : Grown w w' o) (b : Blk) (F' : Cl) (hF : ∀ b o, F b o → F' b o) (hF' : ∀ b o, F' b o → F b o ∨ b = w.heap.size)
    (hb : BR (newφ φ H w.heap.size) (H.add b) F' w' H.nid b) : SRel G (newφ φ H w.heap.size) (H.add b) F' w' := by
  have E := evo_new hS hG b F' hF hF'
  refine ⟨fun i j r hi hj => ?_, fun i r h => ?_, fun i r h => ?_, fun id c hc => ?_, fun g cs h => (hS.glob g cs h).keeps E.kp, fun b o f => ?_⟩
  · unfold newφ at hi hj
    split at hi <;> split at hj
    · simp_all
    · cases hi; have := hS.dom j _ hj; omega
    · cases hj; have := hS.dom i _ hi; omega
    · exact hS.inj i j r hi hj
  · rw [hG.size]
    unfold newφ at h
    split at h
    · cases h; omega
    · have := hS.dom i r h; omega
  · unfold newφ at h
    split at h
    · rename_i e; subst e; rw [Hp.get_add_new]; rfl
    · obtain ⟨c, hc⟩ := Option.isSome_iff_exists.1 (hS.has i r h)
      rw [Hp.get_add_old hc]; rfl
  · rcases Hp.get_add_cases hc with hc | ⟨rfl, rfl⟩
    · refine BR.evo E (newφ_old hS hc) (fun r h => hG.old (hS.dom id r h)) (fun r o h => ⟨fun f => ?_, hF r o⟩) (hS.blk id c hc)
      rcases hF' r o f with f | f
      · exact f
      · have := hS.dom id r h; omega
    · exact hb
  · rw [hG.size]
    rcases hF' b o f with h | h
    · have := hS.fin b o h; omega
    · omega

theorem newφ_new : newφ φ H w.heap.size H.nid = some w.heap.size := by simp [newφ]

/-- A variable of its own: 'alloc', 'box'. -/
theorem snd_row (hS : SRel G φ H F w) {w' : World} {xs : List Value} {e : TypeId} (hG : Grown w w' (.cells xs.toArray e)) {a : AV} {b : Blk} (hb : mkRow a = some b)
    (hc : (∃ cs, a = .agg cs ∧ F2 (Rp F w) cs xs) ∨ (∃ cs, a = .mg cs ∧ F2 (fun c x => CR φ H F w c x ∧ Flat x) cs xs) ∨ (∃ c x, a = .c c ∧ xs = [x] ∧ CR φ H F w c x ∧ Flat x)) :
    Evo φ H F w (newφ φ H w.heap.size) (H.add b) F w' ∧ SRel G (newφ φ H w.heap.size) (H.add b) F w' ∧ AR (newφ φ H w.heap.size) (H.add b) F w' (.c (.ptr H.nid 0)) (.pointer (some ⟨w.heap.size, 0, none⟩)) := by
  have E := evo_new hS hG b F (fun _ _ h => h) (fun _ _ h => .inl h)
  have hrow : b.isRow = true := by
    rcases hc with ⟨cs, rfl, _⟩ | ⟨cs, rfl, _⟩ | ⟨c, x, rfl, _⟩
    · simp [mkRow] at hb; subst hb; rfl
    · simp [mkRow] at hb; subst hb; rfl
    · cases c <;> simp [mkRow] at hb <;> subst hb <;> rfl
  have hnF : ∀ o, ¬ F w.heap.size o := fun o f => by have := hS.fin _ _ f; omega
  have own : Own w' w.heap.size xs.toArray := ⟨e, hG.new⟩
  refine ⟨E, srel_new hS hG b F (fun _ _ h => h) (fun _ _ h => .inl h) ?_, .ofCR ⟨b, w.heap.size, Hp.get_add_new, hrow, newφ_new, rfl⟩ rfl⟩
  rcases hc with ⟨cs, rfl, h⟩ | ⟨cs, rfl, h⟩ | ⟨c, x, rfl, rfl, h, hf⟩
  · simp [mkRow] at hb; subst hb
    exact ⟨_, _, newφ_new, own, hnF, h.imp fun _ _ r => r.keeps E.kp⟩
  · simp [mkRow] at hb; subst hb
    exact ⟨_, _, newφ_new, own, hnF, h.imp fun _ _ r => ⟨r.1.evo E, r.2⟩⟩
  · cases c with
    | p v => simp [mkRow] at hb; subst hb; exact ⟨_, _, newφ_new, own, hnF, .cons (Rp.keeps E.kp h) .nil⟩
    | _ => simp [mkRow] at hb; subst hb; exact ⟨_, _, newφ_new, own, hnF, .cons ⟨h.evo E, hf⟩ .nil⟩

/-- What stands at so many cells, put in. -/
theorem putAt_f2 {α : Type} {R : α → Value → Prop} {cs us : List α} {xs ys : List Value} (h : F2 R cs xs) (k : F2 R us ys) (o : Nat) : F2 R (putAt cs o us) (putAt xs o ys) := by
  unfold putAt
  rw [k.len]
  exact ((h.take o).app k).app (h.drop _)

theorem putAt_len {α : Type} {cs us : List α} {o : Nat} (h : o + us.length ≤ cs.length) : (putAt cs o us).length = cs.length := by
  simp [putAt]; omega

theorem run_storeAt {t : TypeId} {agg : Bool} {n : Nat} (ht : shapeT P t = some (agg, n)) {r o : Nat} {cur : Array Value} {e : TypeId} (hr : w.heap[r]? = some (.cells cur e (0, 0))) {xv : Value} (hn : xv.cells.size = n)
    (hf : ∀ v ∈ xv.cells.toList, Flat v) (hl : o + n ≤ cur.size) : (Instr.storeAt t (.pointer (some ⟨r, o, none⟩)) xv).run P w = .ok () (w.setRow r (putAt cur.toList o xv.cells.toList).toArray) := by
  have hst := run_storeCells_at P r o e xv.cells.toList 0 cur w hr (by simp; omega) hf
  have hne : ¬ (xv.cells.size ≠ n) := by simp [hn]
  simp only [Instr.storeAt, Instr.sureAddr, Sem.run_bind, Sem.run_pure, Result.andThen_ok, storeVar, run_sizeOf ht, Sem.run_ite, hne, if_false, ne_eq]
  simp only [Nat.add_zero] at hst
  rw [hst]
  rfl

theorem AR.cells {a : AV} {x : Value} (h : AR φ H F w a x) {us : List C} (hu : cellsA a = some us) : F2 (fun c x => CR φ H F w c x ∧ Flat x) us x.cells.toList := by
  cases a with
  | c c =>
    simp [cellsA] at hu; subst hu
    obtain ⟨h, hf⟩ := h.cc
    have : x.cells = #[x] := by cases x <;> first | rfl | (cases hf)
    rw [this]
    exact .cons ⟨h, hf⟩ .nil
  | agg cs =>
    simp [cellsA] at hu; subst hu
    obtain ⟨xs, hx, h'⟩ := h.aggr
    rw [hx]
    exact F2.mapl.2 (h'.imp fun c x r => ⟨r, r.flat⟩)
  | mg cs =>
    simp [cellsA] at hu; subst hu
    obtain ⟨xs, hx, h'⟩ := h.mix
    rw [hx]
    exact h'
  | _ => simp [cellsA] at hu
end
end Go.Ab
