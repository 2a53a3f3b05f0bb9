/- Stores through an address, held against the model's. No condition. -/
import Derived.Test.YteipepbijfdciaaAb3c
set_option linter.unusedSimpArgs false
set_option linter.unusedVariables false
namespace Go.Ab
open Go

section
variable {P : Program} {G : Gl} {φ : Pl} {H : Hp} {F : Cl} {w : World}

def rowCells : Blk → List C
  | .row cs => cs.map .p
  | .mrow cs => cs
  | .arr .. => []
  | .hole => []

theorem br_cells {id : Id} {b : Blk} (hb : b.isRow = true) (h : BR φ H F w id b) : ∃ r c, φ id = some r ∧ Own w r c ∧ (∀ o, ¬ F r o) ∧ F2 (fun u x => CR φ H F w u x ∧ Flat x) (rowCells b) c.toList := by
  cases b with
  | row cs => obtain ⟨r, c, h1, h2, h3, h4⟩ := h; exact ⟨r, c, h1, h2, h3, F2.mapl.2 (h4.imp fun _ _ q => ⟨q, q.flat⟩)⟩
  | mrow cs => obtain ⟨r, c, h1, h2, h3, h4⟩ := h; exact ⟨r, c, h1, h2, h3, h4⟩
  | arr => simp [Blk.isRow] at hb
  | hole => simp [Blk.isRow] at hb

theorem br_of_cells {id : Id} {b : Blk} (hb : b.isRow = true) {r : Nat} {c : Array Value} (h1 : φ id = some r) (h2 : Own w r c) (h3 : ∀ o, ¬ F r o) (h4 : F2 (fun u x => CR φ H F w u x ∧ Flat x) (rowCells b) c.toList) : BR φ H F w id b := by
  cases b with
  | row cs => exact ⟨r, c, h1, h2, h3, (F2.mapl.1 h4).imp fun _ _ q => q.1⟩
  | mrow cs => exact ⟨r, c, h1, h2, h3, h4⟩
  | arr => simp [Blk.isRow] at hb
  | hole => simp [Blk.isRow] at hb

theorem be_rows {φ' : Pl} {id : Id} {b b' : Blk} (hb : b.isRow = true) (hb' : b'.isRow = true) (h : φ' id = φ id) : BE φ φ' id b b' := by
  cases b <;> cases b' <;> simp_all [Blk.isRow, BE]

theorem map_putAt {α β : Type} (f : α → β) (cs us : List α) (o : Nat) : (putAt cs o us).map f = putAt (cs.map f) o (us.map f) := by
  simp [putAt, List.map_take, List.map_drop]

theorem flat_of_f2 {α : Type} {R : α → Value → Prop} {us : List α} {xs : List Value} (h : F2 (fun c x => R c x ∧ Flat x) us xs) : ∀ v ∈ xs, Flat v := by
  induction h with
  | nil => intro v hv; cases hv
  | cons h _ ih =>
    intro v hv
    rcases List.mem_cons.1 hv with rfl | hv
    · exact h.2
    · exact ih v hv

theorem store_row {t : TypeId} {agg : Bool} {n : Nat} (ht : shapeT P t = some (agg, n)) (hS : SRel G φ H F w) {id : Id} {o : Nat} {x xv : Value} {v : AV} (ha : AR φ H F w (.c (.ptr id o)) x) (hv : AR φ H F w v xv)
    {b b' : Blk} (hg : H.get id = some b) (hb' : b'.isRow = true) {us : List C} (hu : cellsA v = some us) (hn : n = us.length) (hl : o + us.length ≤ (rowCells b).length) (hc : rowCells b' = putAt (rowCells b) o us) :
    ∃ w', (Instr.storeAt t x xv).run P w = .ok () w' ∧ Evo φ H F w φ (H.set id b') F w' ∧ SRel G φ (H.set id b') F w' := by
  obtain ⟨⟨b0, r, hg0, hb, hφ, rfl⟩, _⟩ := ha.cc
  rw [hg] at hg0
  cases hg0
  obtain ⟨r', c, hφ', ⟨e, ho⟩, hnF, hcs⟩ := br_cells hb (hS.blk id b hg)
  obtain rfl : r' = r := by rw [hφ] at hφ'; exact (Option.some.inj hφ').symm
  have hvc := hv.cells hu
  have hlen : xv.cells.size = n := by have := hvc.len; simp at this; omega
  have hsz : o + n ≤ c.size := by have := hcs.len; simp at this; omega
  have hrun := run_storeAt ht ho hlen (flat_of_f2 hvc) hsz
  have hsize : (putAt c.toList o xv.cells.toList).toArray.size = c.size := by
    have := putAt_len (cs := c.toList) (us := xv.cells.toList) (o := o) (by simp; omega)
    simpa using this
  have hbe : BE φ φ id b b' := be_rows hb hb' rfl
  have E := evo_set (cur' := (putAt c.toList o xv.cells.toList).toArray) hg hbe hφ hnF ho hsize
  refine ⟨_, hrun, E, srel_set hS hg hbe hφ hnF ho hsize (br_of_cells hb' hφ ⟨e, setRow_heap w _ c _ e _ ho⟩ hnF ?_)⟩
  rw [hc]
  exact putAt_f2 (hcs.imp fun _ _ q => ⟨q.1.evo E, q.2⟩) (hvc.imp fun _ _ q => ⟨q.1.evo E, q.2⟩) o

theorem store_arr {t : TypeId} {agg : Bool} {n : Nat} (ht : shapeT P t = some (agg, n)) (hS : SRel G φ H F w) {id : Id} {m i o : Nat} {x xv : Value} {v : AV} (ha : AR φ H F w (.c (.ap id m i o)) x) (hv : AR φ H F w v xv)
    {sz : Nat} {es : List (List PV)} (hg : H.get id = some (.arr sz false es)) {cs us : List PV} (hi : es[i]? = some cs) (hu : cellsA v = some (us.map .p)) (hn : n = us.length) (hl : o + us.length ≤ cs.length) (hm : m = es.length) :
    ∃ w', (Instr.storeAt t x xv).run P w = .ok () w' ∧ Evo φ H F w φ (H.set id (.arr sz false (es.set i (putAt cs o us)))) F w' ∧ SRel G φ (H.set id (.arr sz false (es.set i (putAt cs o us)))) F w' := by
  obtain ⟨⟨sz0, fz0, es0, r, k0, hg0, hm0, rfl, hx⟩, _⟩ := ha.cc
  rw [hg] at hg0
  cases hg0
  obtain ⟨hφ, rfl⟩ := hx hm
  obtain ⟨hs0, hrows, h2⟩ := hS.blk id _ hg
  have hil : i < es.length := (List.getElem?_eq_some_iff.1 hi).1
  rcases h2 with ⟨_, rfl⟩ | ⟨r', c, h2, ⟨e, ho⟩, hcap, hfit, hF1, hF2, hcont⟩
  · simp at hil
  obtain rfl : r' = r := by rw [hφ] at h2; exact (Option.some.inj h2).symm
  have hnF : ∀ o, ¬ F r' o := fun o f => by have := (hF1 o f).1; simp at this
  have hcl : cs.length = sz := hrows i cs hi
  have hvc := hv.cells hu
  have hlen : xv.cells.size = n := by have := hvc.len; simp at this; omega
  have hbnd : i * sz + sz ≤ es.length * sz := by
    have : (i + 1) * sz ≤ es.length * sz := Nat.mul_le_mul_right sz hil
    rwa [Nat.succ_mul] at this
  have hsz : i * sz + o + n ≤ c.size := by omega
  have hrun := run_storeAt ht ho hlen (flat_of_f2 hvc) hsz
  have hsize : (putAt c.toList (i * sz + o) xv.cells.toList).toArray.size = c.size := by
    have := putAt_len (cs := c.toList) (us := xv.cells.toList) (o := i * sz + o) (by simp; omega)
    simpa using this
  have hbe : BE φ φ id (.arr sz false es) (.arr sz false (es.set i (putAt cs o us))) := by simp [BE]
  have E := evo_set (cur' := (putAt c.toList (i * sz + o) xv.cells.toList).toArray) hg hbe hφ hnF ho hsize
  refine ⟨_, hrun, E, srel_set hS hg hbe hφ hnF ho hsize ⟨hs0, fun j q hq => ?_, .inr ⟨r', _, hφ, ⟨e, setRow_heap w _ c _ e _ ho⟩, ?_, ?_, fun o f => absurd f (hnF o), (fun h => by cases h), fun j q k u hq hu' => ?_⟩⟩⟩
  · rw [List.getElem?_set] at hq
    split at hq
    · cases hq; rw [putAt_len hl]; exact hcl
    · exact hrows j q hq
  · obtain ⟨cap, h1, h2⟩ := hcap
    exact ⟨cap, by rw [hsize]; exact h1, h2⟩
  · rw [hsize]; simpa using hfit
  · have hlv : xv.cells.toList.length = us.length := by have := hvc.len; simp at this ⊢; omega
    have hnew : ∀ k, (putAt c.toList (i * sz + o) xv.cells.toList).toArray[k]? = if k < i * sz + o then c[k]? else if k < i * sz + o + us.length then xv.cells.toList[k - (i * sz + o)]? else c[k]? := by
      intro k
      have ht1 : (c.toList.take (i * sz + o)).length = i * sz + o := by simp; omega
      simp only [putAt, List.getElem?_toArray, List.getElem?_append, List.length_append, ht1, hlv]
      by_cases h1 : k < i * sz + o
      · have h3 : k < i * sz + o + us.length := by omega
        simp [h1, h3, List.getElem?_take]
      · by_cases h3 : k < i * sz + o + us.length
        · simp [h1, h3]
        · simp [h1, h3, List.getElem?_drop]
          congr 1
          omega
    by_cases hj : j = i
    · subst hj
      rw [List.getElem?_set_self hil] at hq
      cases hq
      have hk : k < cs.length := by rw [← putAt_len hl]; exact (List.getElem?_eq_some_iff.1 hu').1
      have ht2 : (cs.take o).length = o := by simp; omega
      simp only [putAt, List.getElem?_append, List.length_append, ht2] at hu'
      rw [hnew]
      by_cases h1 : k < o
      · have h3 : k < o + us.length := by omega
        simp only [h1, h3, if_true, List.getElem?_take] at hu'
        obtain ⟨x, hx, hr⟩ := hcont j cs k u hi hu'
        exact ⟨x, by rw [if_pos (by omega)]; exact hx, hr.keeps E.kp⟩
      · by_cases h3 : k < o + us.length
        · simp only [h1, h3, if_true, if_false] at hu'
          obtain ⟨x, hx, hr⟩ := (F2.mapl.1 hvc).get hu'
          refine ⟨x, ?_, Rp.keeps E.kp hr.1⟩
          rw [if_neg (by omega), if_pos (by omega), show j * sz + k - (j * sz + o) = k - o by omega]
          exact hx
        · simp only [h3, if_false, List.getElem?_drop] at hu'
          rw [show o + us.length + (k - (o + us.length)) = k by omega] at hu'
          obtain ⟨x, hx, hr⟩ := hcont j cs k u hi hu'
          exact ⟨x, by rw [if_neg (by omega), if_neg (by omega)]; exact hx, hr.keeps E.kp⟩
    · rw [List.getElem?_set_ne (Ne.symm hj)] at hq
      obtain ⟨x, hx, hr⟩ := hcont j q k u hq hu'
      refine ⟨x, ?_, hr.keeps E.kp⟩
      have hk : k < sz := by have := (List.getElem?_eq_some_iff.1 hu').1; rw [hrows j q hq] at this; exact this
      rw [hnew]
      rcases Nat.lt_or_gt_of_ne hj with hlt | hgt
      · have : (j + 1) * sz ≤ i * sz := Nat.mul_le_mul_right sz hlt
        rw [Nat.succ_mul] at this
        rw [if_pos (by omega)]
        exact hx
      · have : (i + 1) * sz ≤ j * sz := Nat.mul_le_mul_right sz hgt
        rw [Nat.succ_mul] at this
        rw [if_neg (by omega), if_neg (by omega)]
        exact hx

theorem storeS_run {t : TypeId} {agg : Bool} {n : Nat} (ht : shapeT P t = some (agg, n)) (hS : SRel G φ H F w) {a v : AV} {x xv : Value} (ha : AR φ H F w a x) (hv : AR φ H F w v xv) {res : Res}
    (h : storeS n a v H = some res) (hp : res.pre = true) : res.v = .tup [] ∧ ∃ w', (Instr.storeAt t x xv).run P w = .ok () w' ∧ Evo φ H F w φ res.h F w' ∧ SRel G φ res.h F w' := by
  unfold storeS at h
  split at h
  · rename_i id o
    split at h <;> simp only [Option.some.injEq, reduceCtorEq] at h <;> subst h <;> simp only [decide_eq_true_eq] at hp <;> refine ⟨rfl, ?_⟩
    · rename_i hg; exact store_row ht hS ha hv hg rfl rfl hp.1 (by simpa [rowCells] using hp.2) (by simp [rowCells, map_putAt])
    · rename_i hg; exact store_row ht hS ha hv hg rfl rfl (by simpa using hp.1) (by simpa [rowCells] using hp.2) (by simp [rowCells, map_putAt])
    · rename_i hg; exact store_row ht hS ha hv hg rfl rfl hp.1 (by simpa [rowCells] using hp.2) (by simp [rowCells])
    · rename_i hg; exact store_row ht hS ha hv hg rfl rfl hp.1 (by simpa [rowCells] using hp.2) (by simp [rowCells])
    · rename_i hg; exact store_row ht hS ha hv hg rfl rfl hp.1 (by simpa [rowCells] using hp.2) (by simp [rowCells])
    · rename_i hg; exact store_row ht hS ha hv hg rfl rfl (by simpa using hp.1) (by simpa [rowCells] using hp.2) (by simp [rowCells])
    · rename_i hg; exact store_row ht hS ha hv hg rfl rfl hp.1 (by simpa [rowCells] using hp.2) (by simp [rowCells])
  · rename_i id m i o
    split at h
    · rename_i hg
      split at h
      · rename_i cs hi
        simp only [Option.some.injEq] at h
        subst h
        simp only [decide_eq_true_eq] at hp
        exact ⟨rfl, store_arr ht hS ha hv hg hi (us := [_]) rfl hp.1 (by simpa using hp.2.1) hp.2.2⟩
      · cases h
    · rename_i hg
      split at h
      · rename_i cs hi
        simp only [Option.some.injEq] at h
        subst h
        simp only [decide_eq_true_eq] at hp
        exact ⟨rfl, store_arr ht hS ha hv hg hi rfl hp.1 hp.2.1 hp.2.2⟩
      · cases h
    · cases h
  · cases h
end
end Go.Ab
