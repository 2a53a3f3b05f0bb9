/- Makes, slicings, conversions, lengths; then every operation. No condition. -/
import Derived.Test.YteipepbijfdciaaAb3k
set_option linter.unusedSimpArgs false
set_option linter.unusedVariables false
namespace Go.Ab
open Go

section
variable {P : Program} {G : Gl} {φ : Pl} {H : Hp} {F : Cl} {w : World}

theorem madeCells_eq {z : Array Value} {zs : List PV} (h : F2 (Rp F w) zs z.toList) (h0 : 0 < z.size) : ∀ (n : Nat), F2 (Rp F w) (List.replicate n zs).flatten ((madeCells z (n * z.size)).toList) := by
  intro n
  have hl := h.len
  simp only [Array.length_toList] at hl
  refine F2.of_get ?_ fun i a b ha hb => ?_
  · simp [madeCells, hl]
  · have hflat : ∀ (n i : Nat) (a : PV), (List.replicate n zs).flatten[i]? = some a → zs[i % z.size]? = some a := by
      intro n
      induction n with
      | zero => intro i a h; simp at h
      | succ n ih =>
        intro i a h
        rw [List.replicate_succ, List.flatten_cons, List.getElem?_append] at h
        split at h
        · rw [Nat.mod_eq_of_lt (by omega)]; exact h
        · rename_i hi
          have := ih _ _ h
          rw [hl] at this hi
          rwa [← Nat.mod_eq_sub_mod (by omega)] at this
    have h1 := hflat n i a ha
    have hi : i < n * z.size := by
      have := (List.getElem?_eq_some_iff.1 hb).1
      simpa [madeCells] using this
    have h2 : b = z[i % z.size]! := by
      simp only [madeCells, Array.toList_map, List.getElem?_map, Array.toList_range, List.getElem?_range hi, Option.map_some, Option.some.injEq] at hb
      exact hb.symm
    have hm : i % z.size < z.size := Nat.mod_lt _ h0
    obtain ⟨v, hv, hr⟩ := h.get h1
    have : z.toList[i % z.size]? = some z[i % z.size] := by simp [hm]
    rw [this] at hv
    cases hv
    rw [h2, getElem!_pos z _ hm]
    exact hr

theorem mkSl_run (hS : SRel G φ H F w) {t e : TypeId} {i : TypeInfo} {zc : List C} {zs : List PV} (ht : P.underlying t = some (.slice e)) (hi : P.info? e = some i) (hz : zeroCs P e = some zc) (hzs : allPure zc = some zs) (h0 : 0 < i.size) (hzl : zc.length = i.size)
    {l c : AV} {x y : Value} (hl : AR φ H F w l x) (hc : AR φ H F w c y) {res : Res} (h : mkSl i.size i.bytes zs l c H = some res) (hp : res.pre = true) :
    ∃ xv w' φ' F', (Instr.makeSlice t x y).run P w = .ok xv w' ∧ Evo φ H F w φ' res.h F' w' ∧ SRel G φ' res.h F' w' ∧ AR φ' res.h F' w' res.v xv := by
  obtain ⟨i', z, hi', hzv, hcs⟩ := zeroCs_spec hz
  rw [hi] at hi'
  cases hi'
  have hrel : F2 (Rp F w) zs z.cells.toList := by
    have := constCs_rel (φ := φ) (H := H) (F := F) (w := w) hcs
    rw [allPure_map hzs] at this
    exact (F2.mapl.1 this).imp fun _ _ q => q.1
  have hzsz : z.cells.size = i.size := by have := (constCs_rel (φ := φ) (H := H) (F := F) (w := w) hcs).len; simp at this; omega
  have hzlen : zs.length = i.size := by have := hrel.len; simp at this; omega
  unfold mkSl at h
  split at h
  · rename_i k1 lv k2 cv
    simp only [Option.some.injEq] at h
    subst h
    simp only [decide_eq_true_eq] at hp
    obtain ⟨p0, p1, p2, p3⟩ := hp
    rw [hl.int, hc.int]
    have hr := run_make (P := P) w t e i z ht hi hzv k1 k2 lv cv p0 p1 (by omega) (by omega)
    have hall : ∀ r ∈ List.replicate lv.toNat zs, r.length = i.size := fun r hr => by
      rw [List.eq_of_mem_replicate hr]; exact hzlen
    have hsplit : madeCells z.cells (cv.toNat * i.size) = ((madeCells z.cells (lv.toNat * i.size)).toList ++ (madeCells z.cells (cv.toNat * i.size)).toList.drop (lv.toNat * i.size)).toArray := by
      apply Array.ext'
      have hle : lv.toNat * i.size ≤ cv.toNat * i.size := Nat.mul_le_mul_right _ (by omega)
      rw [List.toList_toArray]
      conv => lhs; rw [← List.take_append_drop (lv.toNat * i.size) (madeCells z.cells (cv.toNat * i.size)).toList]
      congr 1
      simp only [madeCells, Array.toList_map, Array.toList_range]
      rw [← List.map_take, List.take_range, Nat.min_eq_left hle]
    rw [hsplit] at hr
    have hmc := madeCells_eq hrel (by omega) lv.toNat
    rw [hzsz] at hmc
    obtain ⟨E, S, A⟩ := new_owner (es := List.replicate lv.toNat zs) (cap := cv.toNat) (e := e) (zs := (madeCells z.cells (cv.toNat * i.size)).toList.drop (lv.toNat * i.size)) hS (Grown.alloc w _) h0 hall hmc (by simp; omega) (by simp [maxLen]; omega)
      (by
        have hle : lv.toNat * i.size ≤ cv.toNat * i.size := Nat.mul_le_mul_right _ (by omega)
        simp only [List.length_append, List.length_drop, Array.length_toList, size_madeCells]; omega)
    rw [List.length_replicate] at A
    exact ⟨_, _, _, _, hr, E, S, A⟩
  · cases h

/-! ### Slicings -/

theorem slAt_sub {es : List (List PV)} {a : Option Addr} (h : SlAt F w es a) (l m : Nat) : ∀ (sz' : Nat), (∀ r ∈ es, r.length = sz') → SlAt F w ((es.take m).drop l) (a.map (·.add (l * sz'))) := by
  intro sz' hsz
  rcases h with rfl | ⟨b, o, sz, rfl, hs, hr⟩
  · exact .inl (by simp)
  · by_cases hne : (es.take m).drop l = []
    · exact .inl hne
    · have hss : sz = sz' := by
        cases es with
        | nil => simp at hne
        | cons r es => have := (hr 0 r rfl).1; have := hsz r (by simp); omega
      subst hss
      refine .inr ⟨b, o + l * sz, sz, by simp [Addr.add_lit], hs, fun i r hi => ?_⟩
      rw [List.getElem?_drop, List.getElem?_take] at hi
      split at hi
      · have := hr (l + i) r hi
        rwa [show o + l * sz + i * sz = o + (l + i) * sz by rw [Nat.add_mul]; omega]
      · cases hi

theorem bound_run {d len : Nat} {a : Option AV} {x : Option Value} (hax : (a = none ∧ x = none) ∨ ∃ av xv, a = some av ∧ x = some xv ∧ AR φ H F w av xv) {p : Bool} {n : Nat} (h : bound d a = some (p, n)) (hp : p = true) :
    (x = none ∧ n = d) ∨ ∃ k i, x = some (.int k i) ∧ 0 ≤ i ∧ i.toNat = n := by
  subst hp
  rcases hax with ⟨rfl, rfl⟩ | ⟨av, xv, rfl, rfl, hr⟩
  · simp only [bound, Option.some.injEq, Prod.mk.injEq, true_and] at h
    exact .inl ⟨rfl, h.symm⟩
  · right
    unfold bound at h
    split at h
    · simp_all
    · rename_i k i heq
      simp only [Option.some.injEq] at heq
      subst heq
      simp only [Option.some.injEq, Prod.mk.injEq, decide_eq_true_eq] at h
      exact ⟨k, i, by rw [hr.int], h.1, h.2⟩
    · cases h

theorem run_sliceBound {k : IntKind} {i : Int} {y : Nat} {code : BoundsCode} (h0 : 0 ≤ i) (h1 : i.toNat ≤ y) : (Instr.sliceBound (.int k i) y code).run P w = .ok i.toNat w := by
  have : 0 ≤ i ∧ i ≤ y := ⟨h0, by omega⟩
  simp [Instr.sliceBound, asIntOf, this]

theorem run_sliceBounds2 {isSlice : Bool} {len cap : Nat} (hlc : len ≤ cap) {lo hi : Option Value} {l h : Nat} (hlo : (lo = none ∧ l = 0) ∨ ∃ k i, lo = some (.int k i) ∧ 0 ≤ i ∧ i.toNat = l) (hhi : (hi = none ∧ h = len) ∨ ∃ k i, hi = some (.int k i) ∧ 0 ≤ i ∧ i.toNat = h)
    (hlh : l ≤ h) (hh : h ≤ len) : (Instr.sliceBounds isSlice len cap lo hi none).run P w = .ok (l, h, cap) w := by
  unfold Instr.sliceBounds
  rcases hhi with ⟨rfl, rfl⟩ | ⟨k, i, rfl, h0, rfl⟩
  · rcases hlo with ⟨rfl, rfl⟩ | ⟨k', j, rfl, h0', rfl⟩
    · simp
    · simp [run_sliceBound h0' hlh]
  · rcases hlo with ⟨rfl, rfl⟩ | ⟨k', j, rfl, h0', rfl⟩
    · simp [run_sliceBound h0 (show i.toNat ≤ cap by omega)]
    · simp [run_sliceBound h0 (show i.toNat ≤ cap by omega), run_sliceBound h0' hlh]

theorem run_sliceBounds3 {isSlice : Bool} {len cap : Nat} {lo hi : Option Value} {l h : Nat} {km : IntKind} {m : Int} (hlo : (lo = none ∧ l = 0) ∨ ∃ k i, lo = some (.int k i) ∧ 0 ≤ i ∧ i.toNat = l) (hhi : ∃ k i, hi = some (.int k i) ∧ 0 ≤ i ∧ i.toNat = h)
    (hlh : l ≤ h) (hh : h ≤ cap) (hm : m = h) : (Instr.sliceBounds isSlice len cap lo hi (some (.int km m))).run P w = .ok (l, h, h) w := by
  obtain ⟨k, i, rfl, h0, rfl⟩ := hhi
  have hm0 : 0 ≤ m := by omega
  have hmt : m.toNat = i.toNat := by omega
  unfold Instr.sliceBounds
  rcases hlo with ⟨rfl, rfl⟩ | ⟨k', j, rfl, h0', rfl⟩
  · simp [run_sliceBound hm0 (show m.toNat ≤ cap by omega), hmt, run_sliceBound h0 (Nat.le_refl _)]
  · simp [run_sliceBound hm0 (show m.toNat ≤ cap by omega), hmt, run_sliceBound h0 (Nat.le_refl _), run_sliceBound h0' hlh]

theorem slStr_run {t : TypeId} (ht : P.underlying t = some .string) {a : AV} {x : Value} (ha : AR φ H F w a x) {lo hi : Option AV} {xl xh : Option Value} (hl : (lo = none ∧ xl = none) ∨ ∃ av xv, lo = some av ∧ xl = some xv ∧ AR φ H F w av xv)
    (hh : (hi = none ∧ xh = none) ∨ ∃ av xv, hi = some av ∧ xh = some xv ∧ AR φ H F w av xv) {res : Res} (h : slStr a lo hi H = some res) (hp : res.pre = true) :
    res.h = H ∧ ∃ xv, (Instr.sliceAt t x xl xh none).run P w = .ok xv w ∧ AR φ H F w res.v xv := by
  unfold slStr at h
  split at h
  · rename_i s
    split at h
    · rename_i p l q m h1 h2
      simp only [Option.some.injEq] at h
      subst h
      simp only [Bool.and_eq_true, decide_eq_true_eq] at hp
      obtain ⟨⟨rfl, rfl⟩, hlm, hms⟩ := hp
      obtain ⟨b, rfl, rfl⟩ := ha.str
      have e1 := bound_run (len := 0) hl h1 rfl
      have e2 := bound_run (len := 0) hh h2 rfl
      have hbs : b.data.toList.length = b.size := by rw [Array.length_toList]; rfl
      rw [hbs] at hms e2
      have hr := run_sliceBounds2 (P := P) (w := w) (isSlice := false) (Nat.le_refl b.size) e1 e2 hlm hms
      refine ⟨rfl, .string (b.extract l m), by simp [Instr.sliceAt, run_underlying ht, Instr.slice, hr], .ofStr _ ?_⟩
      simp only [ByteArray.data_extract, Array.toList_extract, List.extract_eq_take_drop, List.drop_take]
    · cases h
  · cases h

theorem frz_spec {c : C} {H' : Hp} (h : frz H c = some H') : (∃ id n sz fz es, c = .os id n ∧ H.get id = some (.arr sz fz es) ∧ H' = H.set id (.arr sz true es)) ∨ ((∀ id n, c ≠ .os id n) ∧ H' = H) := by
  cases c <;> simp only [frz] at h
  case os id n =>
    split at h
    · rename_i sz fz es hg
      simp only [Option.some.injEq] at h
      exact .inl ⟨id, n, sz, fz, es, rfl, hg, h.symm⟩
    · cases h
  all_goals
    simp only [Option.some.injEq] at h
    exact .inr ⟨by simp, h.symm⟩

/-- A slice's elements, frozen. -/
theorem elems_frozen (hS : SRel G φ H F w) {c : C} {x : Value} (hc : CR φ H F w c x) {p : Bool} {es : List (List PV)} {H' : Hp} (h : elemsA H c = some (p, es)) (hp : p = true) (hf : frz H c = some H') :
    ∃ a cap F', x = .slice a es.length cap ∧ es.length ≤ cap ∧ Evo φ H F w φ H' F' w ∧ SRel G φ H' F' w ∧ SlAt F' w es a := by
  obtain ⟨a, cap, rfl, hcap, hcase⟩ := elemsA_rel hS hc h hp
  rcases frz_spec hf with ⟨id, n, sz, fz, es', rfl, hg, rfl⟩ | ⟨hn, rfl⟩
  · obtain ⟨F', E, S⟩ := freeze_arr hS hg
    subst hp
    simp only [elemsA, hg, Option.some.injEq, Prod.mk.injEq, decide_eq_true_eq] at h
    obtain ⟨rfl, rfl⟩ := h
    obtain ⟨sz1, fz1, es1, hg1, hn1, hv1⟩ := hc
    rw [hg] at hg1
    obtain ⟨rfl, rfl, rfl⟩ : sz1 = sz ∧ fz1 = fz ∧ es1 = es' := by cases hg1; exact ⟨rfl, rfl, rfl⟩
    obtain ⟨a', cap', hx, hc', hs⟩ := (S.blk id _ (Hp.get_set_self hg)).slAt (hv1 rfl) rfl
    obtain ⟨rfl, rfl⟩ : a' = a ∧ cap' = cap := by cases hx; exact ⟨rfl, rfl⟩
    exact ⟨a', cap', F', rfl, hcap, E, S, hs⟩
  · rcases hcase with ⟨id, n, rfl⟩ | hs
    · exact absurd rfl (hn id n)
    · exact ⟨a, cap, F, rfl, hcap, Evo.refl _ _ F w, hS, hs⟩

theorem slAt_size {F : Cl} {w : World} {es : List (List PV)} {a : Option Addr} (h : SlAt F w es a) : es = [] ∨ ∃ sz b o, a = some ⟨b, o, none⟩ ∧ 0 < sz ∧ ∀ r ∈ es, r.length = sz := by
  rcases h with h | ⟨b, o, sz, rfl, hs, hr⟩
  · exact .inl h
  · exact .inr ⟨sz, b, o, rfl, hs, fun r hr' => by obtain ⟨i, hi⟩ := List.getElem?_of_mem hr'; exact (hr i r hi).1⟩

theorem slSl_run (hS : SRel G φ H F w) {t e : TypeId} (ht : P.underlying t = some (.slice e)) {i : TypeInfo} (hi : P.info? e = some i) {a : AV} {x : Value} (ha : AR φ H F w a x) {lo hi' mx : Option AV} {xl xh xm : Option Value}
    (hl : (lo = none ∧ xl = none) ∨ ∃ av xv, lo = some av ∧ xl = some xv ∧ AR φ H F w av xv) (hh : (hi' = none ∧ xh = none) ∨ ∃ av xv, hi' = some av ∧ xh = some xv ∧ AR φ H F w av xv)
    (hm : (mx = none ∧ xm = none) ∨ ∃ av xv, mx = some av ∧ xm = some xv ∧ AR φ H F w av xv) (hmh : mx ≠ none → hi' ≠ none) {res : Res} (h : slSl i.size a lo hi' mx H = some res) (hp : res.pre = true) :
    ∃ F' xv, (Instr.sliceAt t x xl xh xm).run P w = .ok xv w ∧ Evo φ H F w φ res.h F' w ∧ SRel G φ res.h F' w ∧ AR φ res.h F' w res.v xv := by
  unfold slSl at h
  split at h
  · rename_i c
    split at h
    · rename_i b es H' he hf
      have key : b = true → es.all (fun r => r.length == i.size) = true → ∃ a cap F', x = .slice a es.length cap ∧ es.length ≤ cap ∧ Evo φ H F w φ H' F' w ∧ SRel G φ H' F' w ∧ SlAt F' w es a ∧ ∀ r ∈ es, r.length = i.size := by
        intro hb hall
        obtain ⟨a, cap, F', h1, h2, h3, h4, h5⟩ := elems_frozen hS ha.cc.1 he hb hf
        exact ⟨a, cap, F', h1, h2, h3, h4, h5, all_len hall⟩
      split at h
      · rename_i p l q m h1 h2
        simp only [Option.some.injEq] at h
        subst h
        simp only [Bool.and_eq_true, decide_eq_true_eq] at hp
        obtain ⟨⟨⟨⟨hb, rfl⟩, rfl⟩, hlm, hms⟩, hall⟩ := hp
        obtain ⟨ad, cap, F', rfl, hcap, E, S, hs, hrows⟩ := key hb hall
        have e1 := bound_run (len := 0) hl h1 rfl
        have e2 := bound_run (len := 0) hh h2 rfl
        have hxm : xm = none := by
          rcases hm with ⟨_, h⟩ | ⟨_, _, h, _⟩
          · exact h
          · cases h
        subst hxm
        have hr := run_sliceBounds2 (P := P) (w := w) (isSlice := true) hcap e1 e2 hlm hms
        refine ⟨F', .slice (if cap = l then ad else ad.map (·.add (l * i.size))) (m - l) (cap - l), by simp [Instr.sliceAt, run_underlying ht, Instr.slice, hr, sizeOf, typeInfo, hi], E, S, .ofRp ?_⟩
        have hlen : m - l = ((es.take m).drop l).length := by simp; omega
        refine Rp.of_slAt ?_ hlen (by omega)
        by_cases hcl : cap = l
        · exact .inl (by rw [List.drop_of_length_le (by simp; omega)])
        · rw [if_neg hcl]; exact slAt_sub hs l m i.size hrows
      · rename_i p l q m km mv h1 h2
        simp only [Option.some.injEq] at h
        subst h
        simp only [Bool.and_eq_true, decide_eq_true_eq] at hp
        obtain ⟨⟨⟨⟨hb, rfl⟩, rfl⟩, hlm, hms, hme⟩, hall⟩ := hp
        obtain ⟨ad, cap, F', rfl, hcap, E, S, hs, hrows⟩ := key hb hall
        have e1 := bound_run (len := 0) hl h1 rfl
        have e2 := bound_run (len := 0) hh h2 rfl
        obtain ⟨av, xv, hav, rfl, hrel⟩ : ∃ av xv, (some (AV.c (.p (.int km mv)))) = some av ∧ xm = some xv ∧ AR φ H F w av xv := by
          rcases hm with ⟨h, _⟩ | h
          · cases h
          · exact h
        cases hav
        rw [hrel.int]
        have e2' : ∃ k i, xh = some (.int k i) ∧ 0 ≤ i ∧ i.toNat = m := by
          rcases e2 with ⟨e2, _⟩ | e2
          · rcases hh with ⟨h, _⟩ | ⟨_, _, _, h, _⟩
            · exact absurd h (hmh (by simp))
            · rw [e2] at h; cases h
          · exact e2
        have hr := run_sliceBounds3 (P := P) (w := w) (isSlice := true) (len := es.length) (cap := cap) (km := km) e1 e2' hlm (by omega) hme
        refine ⟨F', .slice (if m = l then ad else ad.map (·.add (l * i.size))) (m - l) (m - l), by simp [Instr.sliceAt, run_underlying ht, Instr.slice, hr, sizeOf, typeInfo, hi], E, S, .ofCR ?_ rfl⟩
        have hlen : m - l = ((es.take m).drop l).length := by simp; omega
        refine ⟨_, by rw [← hlen], ?_⟩
        by_cases hcl : m = l
        · exact .inl (by rw [List.drop_of_length_le (by simp; omega)])
        · rw [if_neg hcl]; exact slAt_sub hs l m i.size hrows
      · cases h
    · cases h
  · cases h
end
end Go.Ab
