/- Appends, ended. No condition. -/
import Derived.Test.YteipepbijfdciaaAb3i
set_option linter.unusedSimpArgs false
set_option linter.unusedVariables false
namespace Go.Ab
open Go

section
variable {P : Program} {G : Gl} {φ φ' : Pl} {H H' : Hp} {F F' : Cl} {w w' : World}

/-- One block is made anew; the others stay. -/
theorem srel_upd (hS : SRel G φ H F w) (E : Evo φ H F w φ' H' F' w') (id : Id) (hH : ∀ i b, H'.get i = some b → i ≠ id → H.get i = some b) (hφ : ∀ i, i ≠ id → φ' i = φ i)
    (hdom : ∀ r, φ' id = some r → r < w'.heap.size) (hhas : (H'.get id).isSome) (hw : ∀ i r, i ≠ id → φ i = some r → w'.heap[r]? = w.heap[r]?)
    (hF : ∀ i r o, i ≠ id → φ i = some r → (F' r o ↔ F r o)) (hb : ∀ b, H'.get id = some b → BR φ' H' F' w' id b) (hfin : ∀ b o, F' b o → b < w'.heap.size) : SRel G φ' H' F' w' := by
  refine ⟨fun i j r hi hj => ?_, fun i r h => ?_, fun i r h => ?_, fun i b h => ?_, fun g cs h => (hS.glob g cs h).keeps E.kp, hfin⟩
  · have cross : ∀ i, i ≠ id → φ' i = some r → φ' id = some r → i = id := by
      intro i hne h1 h2
      rw [hφ i hne] at h1
      rcases E.new id r h2 with h | h
      · exact hS.inj i id r h1 h
      · have := hS.dom i r h1; omega
    by_cases h1 : i = id
    · by_cases h2 : j = id
      · rw [h1, h2]
      · subst h1; exact (cross j h2 hj hi).symm
    · by_cases h2 : j = id
      · subst h2; exact cross i h1 hi hj
      · rw [hφ i h1] at hi; rw [hφ j h2] at hj; exact hS.inj i j r hi hj
  · by_cases h1 : i = id
    · subst h1; exact hdom r h
    · rw [hφ i h1] at h; have := hS.dom i r h; have := E.size; omega
  · by_cases h1 : i = id
    · subst h1; exact hhas
    · rw [hφ i h1] at h
      obtain ⟨b, hb⟩ := Option.isSome_iff_exists.1 (hS.has i r h)
      obtain ⟨b', hb', _⟩ := E.be i b hb
      simp [hb']
  · by_cases h1 : i = id
    · subst h1; exact hb b h
    · have h' := hH i b h h1
      exact BR.evo E (hφ i h1) (fun r hr => hw i r h1 hr) (fun r o hr => hF i r o h1 hr) (hS.blk i b h')

theorem f2_at {sz : Nat} {es : List (List PV)} {xs : List Value} (h : F2 (Rp F w) es.flatten xs) (hsz : ∀ r ∈ es, r.length = sz) : ∀ {i : Nat} {q : List PV} {j : Nat} {u : PV}, es[i]? = some q → q[j]? = some u → ∃ x, xs[i * sz + j]? = some x ∧ Rp F w u x := by
  intro i q j u hq hu
  have : es.flatten[i * sz + j]? = some u := by
    clear h
    induction es generalizing i with
    | nil => simp at hq
    | cons r es ih =>
      have hr := hsz r (by simp)
      cases i with
      | zero =>
        simp at hq; subst hq
        have hj : j < r.length := (List.getElem?_eq_some_iff.1 hu).1
        rw [List.flatten_cons, Nat.zero_mul, Nat.zero_add, List.getElem?_append_left hj]
        exact hu
      | succ i =>
        have := ih (fun r hr => hsz r (by simp [hr])) (i := i) (by simpa using hq)
        rw [List.flatten_cons, List.getElem?_append_right (by rw [hr, Nat.succ_mul]; omega), hr, show (i + 1) * sz + j - sz = i * sz + j by rw [Nat.succ_mul]; omega]
        exact this
  exact h.get this

theorem flat_len {sz : Nat} {es : List (List PV)} (hsz : ∀ r ∈ es, r.length = sz) : es.flatten.length = es.length * sz := by
  induction es with
  | nil => simp
  | cons r es ih => rw [List.flatten_cons, List.length_append, hsz r (by simp), ih fun r hr => hsz r (by simp [hr])]; simp [Nat.succ_mul]; omega

theorem rows_of {sz : Nat} {es : List (List PV)} (h : ∀ (i : Nat) (r : List PV), es[i]? = some r → r.length = sz) : ∀ r ∈ es, r.length = sz := fun r hr => by
  obtain ⟨i, hi⟩ := List.getElem?_of_mem hr
  exact h i r hi

theorem of_rows {sz : Nat} {es : List (List PV)} (h : ∀ r ∈ es, r.length = sz) : ∀ (i : Nat) (r : List PV), es[i]? = some r → r.length = sz := fun i r hr => h r (List.mem_of_getElem? hr)

/-- An empty owner without memory. -/
theorem new_virtual (hS : SRel G φ H F w) {sz : Nat} (h0 : 0 < sz) (a : Option Addr) : Evo φ H F w φ (H.add (.arr sz false [])) F w ∧ SRel G φ (H.add (.arr sz false [])) F w ∧ AR φ (H.add (.arr sz false [])) F w (.c (.os H.nid 0)) (.slice a 0 0) := by
  have E : Evo φ H F w φ (H.add (.arr sz false [])) F w := { Evo.refl φ H F w with be := fun id b h => ⟨b, Hp.get_add_old h, BE.refl φ id b⟩, npar := rfl }
  refine ⟨E, srel_upd hS E H.nid (fun i b h hne => ?_) (fun _ _ => rfl) (fun r h => by rw [no_phi_nid hS] at h; cases h) (by rw [Hp.get_add_new]; rfl) (fun _ _ _ _ => rfl) (fun _ _ _ _ _ => Iff.rfl) (fun b h => ?_) hS.fin,
    .ofCR ⟨sz, false, [], Hp.get_add_new, Nat.le_refl _, fun _ => .inl ⟨rfl, a, rfl⟩⟩ rfl⟩
  · rcases Hp.get_add_cases h with h | ⟨h, _⟩
    · exact h
    · exact absurd h hne
  · rw [Hp.get_add_new] at h
    cases h
    exact ⟨h0, fun i r h => by simp at h, .inl ⟨no_phi_nid hS, rfl⟩⟩

/-- An owner with new memory. -/
theorem new_owner (hS : SRel G φ H F w) {w' : World} {e : TypeId} {xs zs : List Value} {sz cap : Nat} {es : List (List PV)} (hG : Grown w w' (.cells (xs ++ zs).toArray e)) (h0 : 0 < sz) (hsz : ∀ r ∈ es, r.length = sz) (hx : F2 (Rp F w) es.flatten xs)
    (hc : es.length ≤ cap) (hm : cap ≤ maxLen) (hz : (xs ++ zs).length = cap * sz) :
    Evo φ H F w (newφ φ H w.heap.size) (H.add (.arr sz false es)) F w' ∧ SRel G (newφ φ H w.heap.size) (H.add (.arr sz false es)) F w' ∧
      AR (newφ φ H w.heap.size) (H.add (.arr sz false es)) F w' (.c (.os H.nid es.length)) (.slice (some ⟨w.heap.size, 0, none⟩) es.length cap) := by
  have E := evo_new hS hG (.arr sz false es) F (fun _ _ h => h) (fun _ _ h => .inl h)
  have hnF : ∀ o, ¬ F w.heap.size o := fun o f => by have := hS.fin _ _ f; omega
  have hxl := hx.len
  rw [flat_len hsz] at hxl
  refine ⟨E, srel_new hS hG _ F (fun _ _ h => h) (fun _ _ h => .inl h) ⟨h0, of_rows hsz, .inr ⟨w.heap.size, (xs ++ zs).toArray, newφ_new, ⟨e, hG.new⟩, ⟨cap, by simpa using hz, hm⟩, ?_, fun o f => absurd f (hnF o), (fun h => by cases h), fun i q j u hq hu => ?_⟩⟩,
    .ofCR ⟨sz, false, es, Hp.get_add_new, Nat.le_refl _, fun _ => .inr ⟨w.heap.size, cap, e, cap * sz, newφ_new, rfl, hc, hm, ?_, rfl⟩⟩ rfl⟩
  · simp only [List.size_toArray, List.length_append]; omega
  · obtain ⟨x, hx', hr⟩ := f2_at hx hsz hq hu
    refine ⟨x, ?_, hr.keeps E.kp⟩
    have := (List.getElem?_eq_some_iff.1 hx').1
    rw [List.getElem?_toArray, List.getElem?_append_left this]
    exact hx'
  · simp only [World.shape?, hG.new, List.size_toArray, hz]

/-- An owner grows in place. -/
theorem grow_here (hS : SRel G φ H F w) {id : Id} {sz : Nat} {fz : Bool} {es new : List (List PV)} (hg : H.get id = some (.arr sz fz es)) {r cap : Nat} {c : Array Value} {e : TypeId} (hφ : φ id = some r) (ho : w.heap[r]? = some (.cells c e (0, 0)))
    (hcap : c.size = cap * sz) (hm : cap ≤ maxLen) (hroom : es.length + new.length ≤ cap) (hsz : ∀ q ∈ new, q.length = sz) {news : List Value} (hn : F2 (Rp F w) new.flatten news) :
    ∃ F', Evo φ H F w φ (H.set id (.arr sz fz (es ++ new))) F' (w.setRow r (putAt c.toList (es.length * sz) news).toArray) ∧
      SRel G φ (H.set id (.arr sz fz (es ++ new))) F' (w.setRow r (putAt c.toList (es.length * sz) news).toArray) ∧
      AR φ (H.set id (.arr sz fz (es ++ new))) F' (w.setRow r (putAt c.toList (es.length * sz) news).toArray) (.c (.os id (es.length + new.length))) (.slice (some ⟨r, 0, none⟩) (es.length + new.length) cap) := by
  obtain ⟨h0, h1, h2⟩ := hS.blk id _ hg
  rcases h2 with ⟨h3, _⟩ | ⟨r', c', h3, ⟨e', h4⟩, _, h6, h7, h8, h9⟩
  · rw [hφ] at h3; cases h3
  obtain rfl : r' = r := by rw [hφ] at h3; exact (Option.some.inj h3).symm
  rw [ho] at h4
  obtain ⟨rfl, rfl⟩ : c' = c ∧ e' = e := by cases h4; exact ⟨rfl, rfl⟩
  clear h4
  have hnl := hn.len
  rw [flat_len hsz] at hnl
  have hmul : (es.length + new.length) * sz ≤ cap * sz := Nat.mul_le_mul_right sz hroom
  rw [Nat.add_mul] at hmul
  have hsize : (putAt c'.toList (es.length * sz) news).toArray.size = c'.size := by
    have := putAt_len (cs := c'.toList) (us := news) (o := es.length * sz) (by simp; omega)
    simpa using this
  have hget : ∀ k, (putAt c'.toList (es.length * sz) news)[k]? = if k < es.length * sz then c'[k]? else if k < es.length * sz + new.length * sz then news[k - es.length * sz]? else c'[k]? := by
    intro k
    have ht1 : (c'.toList.take (es.length * sz)).length = es.length * sz := by simp; omega
    simp only [putAt, List.getElem?_append, List.length_append, ht1, ← hnl]
    by_cases h1 : k < es.length * sz
    · have h3 : k < es.length * sz + new.length * sz := by omega
      simp [h1, h3, List.getElem?_take]
    · by_cases h3 : k < es.length * sz + new.length * sz
      · simp [h1, h3]
      · simp [h1, h3, List.getElem?_drop]
        congr 1
        omega
  let F' : Cl := fun b o => F b o ∨ (b = r' ∧ fz = true ∧ o < (es.length + new.length) * sz)
  have hbe : BE φ φ id (.arr sz fz es) (.arr sz fz (es ++ new)) := by simp [BE]
  have hrow : ∀ k, k ≠ r' → (w.setRow r' (putAt c'.toList (es.length * sz) news).toArray).heap[k]? = w.heap[k]? := fun k hk => setRow_other w r' k _ hk
  have hnew : (w.setRow r' (putAt c'.toList (es.length * sz) news).toArray).heap[r']? = some (.cells (putAt c'.toList (es.length * sz) news).toArray e' (0, 0)) := setRow_heap w r' c' _ e' _ ho
  have E : Evo φ H F w φ (H.set id (.arr sz fz (es ++ new))) F' (w.setRow r' (putAt c'.toList (es.length * sz) news).toArray) :=
    { os := rfl, tape := rfl, output := rfl, size := by simp
      keep := fun k _ hn => hrow k (fun e => hn id (e ▸ hφ))
      kp := ⟨fun b o f => .inl f, fun b o f => by
        by_cases hb : b = r'
        · subst hb
          have := (h7 o f).2
          simp only [World.cell?, hnew, ho]
          rw [List.getElem?_toArray, hget, if_pos this]
        · exact cell_of_heap (hrow b hb)⟩
      newF := fun b o f => by
        rcases f with f | ⟨rfl, _⟩
        · exact .inl f
        · exact .inr (.inl ⟨id, hφ⟩)
      new := fun _ _ h => .inl h
      be := fun id' c hc => by
        by_cases h : id' = id
        · subst h; rw [hg] at hc; cases hc; exact ⟨_, Hp.get_set_self hg, hbe⟩
        · exact ⟨c, by rw [Hp.get_set_other h]; exact hc, BE.refl φ id' c⟩
      shp := fun k _ => by
        by_cases hk : k = r'
        · subst hk; simp only [World.shape?, hnew, ho, hsize]
        · exact shape_of_heap (hrow k hk)
      npar := by cases id <;> simp [Hp.set] }
  have hall : ∀ q ∈ es ++ new, q.length = sz := fun q hq => by
    rcases List.mem_append.1 hq with hq | hq
    · exact rows_of h1 q hq
    · exact hsz q hq
  refine ⟨F', E, srel_upd hS E id (fun i b h hne => by rwa [Hp.get_set_other hne] at h) (fun _ _ => rfl) (fun k hk => by simpa using hS.dom id k hk) (by rw [Hp.get_set_self hg]; rfl)
      (fun i k hne hk => hrow k (fun e => hne (hS.inj i id k hk (e ▸ hφ)))) (fun i k o hne hk => ⟨fun f => ?_, fun f => .inl f⟩) (fun b hb => ?_) (fun b o f => ?_),
    .ofCR ⟨sz, fz, es ++ new, Hp.get_set_self hg, by simp, fun _ => .inr ⟨r', cap, e', cap * sz, hφ, rfl, hroom, hm, ?_, rfl⟩⟩ rfl⟩
  · rcases f with f | ⟨rfl, _⟩
    · exact f
    · exact absurd (hS.inj i id _ hk hφ) hne
  · rw [Hp.get_set_self hg] at hb
    cases hb
    refine ⟨h0, of_rows hall, .inr ⟨r', _, hφ, ⟨e', hnew⟩, ⟨cap, by rw [hsize]; exact hcap, hm⟩, ?_, fun o f => ?_, fun hz o ho => .inr ⟨rfl, hz, by simpa using ho⟩, fun i q j u hq hu => ?_⟩⟩
    · rw [hsize, List.length_append, Nat.add_mul]; omega
    · rcases f with f | ⟨_, f1, f2⟩
      · have := h7 o f
        refine ⟨this.1, ?_⟩
        rw [List.length_append, Nat.add_mul]
        omega
      · exact ⟨f1, by rw [List.length_append]; exact f2⟩
    · have hj : j < sz := by have := (List.getElem?_eq_some_iff.1 hu).1; rw [of_rows hall i q hq] at this; exact this
      rw [List.getElem?_toArray, hget]
      by_cases hi : i < es.length
      · rw [List.getElem?_append_left hi] at hq
        have hb : i * sz + sz ≤ es.length * sz := by
          have : (i + 1) * sz ≤ es.length * sz := Nat.mul_le_mul_right sz hi
          rwa [Nat.succ_mul] at this
        obtain ⟨x, hx, hr⟩ := h9 i q j u hq hu
        exact ⟨x, by rw [if_pos (by omega)]; exact hx, hr.keeps E.kp⟩
      · rw [List.getElem?_append_right (by omega)] at hq
        have hi2 : i - es.length < new.length := (List.getElem?_eq_some_iff.1 hq).1
        obtain ⟨x, hx, hr⟩ := f2_at hn hsz hq hu
        have e1 : i * sz = es.length * sz + (i - es.length) * sz := by rw [← Nat.add_mul]; congr 1; omega
        have hb : (i - es.length) * sz + sz ≤ new.length * sz := by
          have : (i - es.length + 1) * sz ≤ new.length * sz := Nat.mul_le_mul_right sz hi2
          rwa [Nat.succ_mul] at this
        refine ⟨x, ?_, hr.keeps E.kp⟩
        rw [if_neg (by omega), if_pos (by omega), show i * sz + j - es.length * sz = (i - es.length) * sz + j by omega]
        exact hx
  · rcases f with f | ⟨rfl, _⟩
    · simpa using hS.fin b o f
    · simpa using hS.dom id b hφ
  · simp only [World.shape?, hnew, hsize, hcap]

/-- An owner grows into new memory. -/
theorem grow_there (hS : SRel G φ H F w) {w' : World} {id : Id} {sz cap : Nat} {fz : Bool} {es all : List (List PV)} (hg : H.get id = some (.arr sz fz es)) (hlt : es.length < all.length) {e : TypeId} {xs zs : List Value}
    (hG : Grown w w' (.cells (xs ++ zs).toArray e)) (hsz : ∀ r ∈ all, r.length = sz) (hx : F2 (Rp F w) all.flatten xs)
    (hc : all.length ≤ cap) (hm : cap ≤ maxLen) (hz : (xs ++ zs).length = cap * sz) :
    ∃ φ' F', Evo φ H F w φ' (H.set id (.arr sz fz all)) F' w' ∧ SRel G φ' (H.set id (.arr sz fz all)) F' w' ∧
      AR φ' (H.set id (.arr sz fz all)) F' w' (.c (.os id all.length)) (.slice (some ⟨w.heap.size, 0, none⟩) all.length cap) := by
  obtain ⟨h0, h1, h2⟩ := hS.blk id _ hg
  let φ' : Pl := fun i => if i = id then some w.heap.size else φ i
  let F' : Cl := fun b o => F b o ∨ (b = w.heap.size ∧ fz = true ∧ o < all.length * sz)
  have hφ' : φ' id = some w.heap.size := by simp [φ']
  have hφo : ∀ i, i ≠ id → φ' i = φ i := fun i hi => by simp [φ', hi]
  have hxl := hx.len
  rw [flat_len hsz] at hxl
  have E : Evo φ H F w φ' (H.set id (.arr sz fz all)) F' w' :=
    { os := hG.os, tape := hG.tape, output := hG.output, size := by rw [hG.size]; omega
      keep := fun k hk _ => hG.old hk
      kp := ⟨fun b o f => .inl f, fun b o f => cell_of_heap (hG.old (hS.fin b o f))⟩
      newF := fun b o f => by
        rcases f with f | ⟨rfl, _⟩
        · exact .inl f
        · exact .inr (.inr (Nat.le_refl _))
      new := fun i r h => by
        by_cases hi : i = id
        · subst hi; rw [hφ'] at h; cases h; exact .inr (Nat.le_refl _)
        · rw [hφo i hi] at h; exact .inl h
      be := fun id' c hc => by
        by_cases h : id' = id
        · subst h; rw [hg] at hc; cases hc; exact ⟨_, Hp.get_set_self hg, rfl, Nat.le_of_lt hlt, fun e => absurd e (by omega), fun h => h⟩
        · refine ⟨c, by rw [Hp.get_set_other h]; exact hc, ?_⟩
          cases c <;> simp [BE, hφo id' h]
      shp := fun k hk => shape_of_heap (hG.old hk)
      npar := by cases id <;> simp [Hp.set] }
  have hnF : ∀ o, ¬ F w.heap.size o := fun o f => by have := hS.fin _ _ f; omega
  refine ⟨φ', F', E, srel_upd hS E id (fun i b h hne => by rwa [Hp.get_set_other hne] at h) hφo (fun k hk => by rw [hφ'] at hk; cases hk; rw [hG.size]; omega) (by rw [Hp.get_set_self hg]; rfl)
      (fun i k hne hk => hG.old (hS.dom i k hk)) (fun i k o hne hk => ⟨fun f => ?_, fun f => .inl f⟩) (fun b hb => ?_) (fun b o f => ?_),
    .ofCR ⟨sz, fz, all, Hp.get_set_self hg, Nat.le_refl _, fun _ => .inr ⟨w.heap.size, cap, e, cap * sz, hφ', rfl, hc, hm, ?_, rfl⟩⟩ rfl⟩
  · rcases f with f | ⟨rfl, _⟩
    · exact f
    · have := hS.dom i _ hk; omega
  · rw [Hp.get_set_self hg] at hb
    cases hb
    refine ⟨h0, of_rows hsz, .inr ⟨w.heap.size, _, hφ', ⟨e, hG.new⟩, ⟨cap, by simpa using hz, hm⟩, ?_, fun o f => ?_, fun hz o ho => .inr ⟨rfl, hz, ho⟩, fun i q j u hq hu => ?_⟩⟩
    · simp only [List.size_toArray, List.length_append]; omega
    · rcases f with f | ⟨_, f1, f2⟩
      · exact absurd f (hnF o)
      · exact ⟨f1, f2⟩
    · obtain ⟨x, hx', hr⟩ := f2_at hx hsz hq hu
      refine ⟨x, ?_, hr.keeps E.kp⟩
      have := (List.getElem?_eq_some_iff.1 hx').1
      rw [List.getElem?_toArray, List.getElem?_append_left this]
      exact hx'
  · rcases f with f | ⟨rfl, _⟩
    · have := hS.fin b o f; rw [hG.size]; omega
    · rw [hG.size]; omega
  · simp only [World.shape?, hG.new, List.size_toArray, hz]
end
end Go.Ab
