/- Regions whose order is open, ended. No condition. -/
import Derived.Test.YteipepbijfdciaaAb6
import Derived.Orders
set_option linter.unusedSimpArgs false
set_option linter.unusedVariables false
namespace Go.Ab
open Go

section
variable {P : Program} {G : Gl} {N : Nat} {H : Hp} {T T' : Tm}

def ancF (acc : List Nat) (o : Oper) : Nat := (o.after.toList.filter (Region.binds .any)).foldl (fun s e => s ||| 2 ^ e.on ||| acc.getD e.on 0) 0

theorem ancs_spec : ∀ (l : List Oper) (acc : List Nat), (ancs acc l).length = acc.length + l.length ∧ (∀ j, j < acc.length → (ancs acc l)[j]? = acc[j]?) ∧
    ∀ m o, l[m]? = some o → (ancs acc l)[acc.length + m]? = some (ancF ((ancs acc l).take (acc.length + m)) o)
  | [], acc => ⟨by simp [ancs], fun _ _ => rfl, fun m o h => by simp at h⟩
  | o :: l, acc => by
    obtain ⟨h1, h2, h3⟩ := ancs_spec l (acc ++ [ancF acc o])
    have he : ancs acc (o :: l) = ancs (acc ++ [ancF acc o]) l := rfl
    rw [he]
    simp only [List.length_append, List.length_cons, List.length_nil] at h1 h2 h3
    refine ⟨by rw [h1]; simp; omega, fun j hj => ?_, fun m o' hm => ?_⟩
    · rw [h2 j (by omega), List.getElem?_append_left hj]
    · cases m with
      | zero =>
        simp at hm
        subst hm
        have ht : (ancs (acc ++ [ancF acc o]) l).take acc.length = acc := by
          apply List.ext_getElem?
          intro j
          rw [List.getElem?_take]
          split
          · rename_i hj; rw [h2 j (by omega), List.getElem?_append_left hj]
          · rename_i hj; rw [List.getElem?_eq_none (by omega)]
        rw [Nat.add_zero, ht, h2 _ (by omega)]
        simp
      | succ m =>
        have := h3 m o' (by simpa using hm)
        rwa [show acc.length + (0 + 1) + m = acc.length + (m + 1) by omega] at this

theorem fold_bit {acc : List Nat} {a : Nat} : ∀ (l : List Edge) (s : Nat), (l.foldl (fun s e => s ||| 2 ^ e.on ||| acc.getD e.on 0) s).testBit a = true → s.testBit a = true ∨ ∃ e ∈ l, a = e.on ∨ (acc.getD e.on 0).testBit a = true
  | [], s, h => .inl h
  | e :: l, s, h => by
    rw [List.foldl_cons] at h
    rcases fold_bit l _ h with h | ⟨e', he, h⟩
    · simp only [Nat.testBit_or, Bool.or_eq_true, Nat.testBit_two_pow, decide_eq_true_eq] at h
      rcases h with (h | h) | h
      · exact .inl h
      · exact .inr ⟨e, by simp, .inl h.symm⟩
      · exact .inr ⟨e, by simp, .inr h⟩
    · exact .inr ⟨e', by simp [he], h⟩

/-- What has been done holds, of each that it holds, all that stands before it. -/
def Closed (ops : List Oper) (L : Array Bool) : Prop := ∀ (s : Nat) (o : Oper), ops[s]? = some o → L.getD s false = true → ∀ e ∈ o.after.toList, Region.binds .any e = true → L.getD e.on false = true

theorem anc_listed {ops : List Oper} {L : Array Bool} (hc : Closed ops L) : ∀ (i : Nat) (o : Oper), ops[i]? = some o → (∀ e ∈ o.after.toList, Region.binds .any e = true → L.getD e.on false = true) → ∀ a x, (ancs [] ops)[i]? = some x → x.testBit a = true → L.getD a false = true := by
  intro i
  induction i using Nat.strongRecOn with
  | _ i ih =>
    intro o ho he a x hx hb
    have hsp := (ancs_spec ops []).2.2 i o ho
    simp only [List.length_nil, Nat.zero_add] at hsp
    rw [hx] at hsp
    cases hsp
    rcases fold_bit _ _ hb with h | ⟨e, hel, h⟩
    · simp at h
    · obtain ⟨he1, he2⟩ := List.mem_filter.1 hel
      have hl := he e he1 he2
      rcases h with rfl | h
      · exact hl
      · by_cases hlt : e.on < i
        · cases hy : (ancs [] ops)[e.on]? with
          | none =>
            have : ((ancs [] ops).take i).getD e.on 0 = 0 := by simp [List.getD, List.getElem?_take, hlt, hy]
            rw [this] at h
            simp at h
          | some y =>
            have hg : ((ancs [] ops).take i).getD e.on 0 = y := by simp [List.getD, List.getElem?_take, hlt, hy]
            rw [hg] at h
            have hlen := (List.getElem?_eq_some_iff.1 hy).1
            rw [(ancs_spec ops []).1] at hlen
            simp only [List.length_nil, Nat.zero_add] at hlen
            exact ih e.on hlt ops[e.on] (List.getElem?_eq_getElem hlen) (fun e' h1 h2 => hc e.on _ (List.getElem?_eq_getElem hlen) hl e' h1 h2) a y hy h
        · have : ((ancs [] ops).take i).getD e.on 0 = 0 := by simp [List.getD, List.getElem?_take, hlt]
          rw [this] at h
          simp at h

theorem wpO_mono {d : Bool} {o : SO} {k k' : Tm → Hp → Prop} (hk : ∀ T H, k T H → k' T H) (h : wpO P G d o T H k) : wpO P G d o T H k' := by
  unfold wpO at h ⊢
  cases hg : o.guard with
  | none => rw [hg] at h; exact stepO_mono (fun v H => hk _ _) h
  | some q =>
    obtain ⟨t, want⟩ := q
    rw [hg] at h
    simp only at h ⊢
    have hs := fun h => stepO_mono (P := P) (G := G) (d := d) (o := o.op) (T := T) (H := H) (k1 := fun v H => k (T.put o.dst v) H) (k2 := fun v H => k' (T.put o.dst v) H) (fun v H => hk _ _) h
    generalize T.get t = V at *
    cases V with
    | c c =>
      cases c with
      | p v =>
        cases v with
        | bool b => cases want <;> cases b <;> first | exact hs h | exact hk _ _ h
        | _ => exact h.elim
      | _ => exact h.elim
    | tup vs =>
      cases vs with
      | nil => exact hk _ _ h
      | cons => exact h.elim
    | _ => exact h.elim

def rest (n : Nat) (L : Array Bool) : List Nat := (List.range n).filter fun i => !L.getD i true

theorem rest_split {n i : Nat} {L : Array Bool} (hi : i < n) (hL : L.size = n) (hf : L.getD i true = false) : ∃ p q, rest n L = p ++ i :: q ∧ rest n (L.setIfInBounds i true) = p ++ q ∧ (∀ a ∈ p, a < i ∧ L.getD a true = false) := by
  have hr : List.range n = List.range' 0 i ++ i :: List.range' (i + 1) (n - i - 1) := by
    rw [List.range_eq_range']
    have : n = i + ((n - i - 1) + 1) := by omega
    conv => lhs; rw [this]
    rw [← List.range'_append_1, Nat.zero_add, List.range'_succ]
  refine ⟨(List.range' 0 i).filter (fun i => !L.getD i true), (List.range' (i + 1) (n - i - 1)).filter (fun i => !L.getD i true), ?_, ?_, fun a ha => ?_⟩
  · unfold rest
    rw [hr, List.filter_append, List.filter_cons]
    simp [hf]
  · unfold rest
    rw [hr, List.filter_append, List.filter_cons]
    have hs : (L.setIfInBounds i true).getD i true = true := by simp [Array.getD_eq_getD_getElem?, hL, hi]
    simp only [hs, Bool.not_true, Bool.false_eq_true, if_false]
    congr 1
    · apply List.filter_congr
      intro x hx
      simp only [List.mem_range'_1] at hx
      simp [Array.getD_eq_getD_getElem?, Array.getElem?_setIfInBounds_ne (show i ≠ x by omega)]
    · apply List.filter_congr
      intro x hx
      simp only [List.mem_range'_1] at hx
      simp [Array.getD_eq_getD_getElem?, Array.getElem?_setIfInBounds_ne (show i ≠ x by omega)]
  · obtain ⟨h1, h2⟩ := List.mem_filter.1 ha
    simp only [List.mem_range'_1] at h1
    exact ⟨by omega, by simpa using h2⟩

theorem getD_tf {L : Array Bool} {i n : Nat} (hL : L.size = n) (hi : i < n) (b : Bool) : L.getD i true = b ↔ L.getD i false = b := by
  simp [Array.getD_eq_getD_getElem?, hL, hi]

theorem linearise_lt {ops : Array Oper} : ∀ (fuel t : Nat) (L : Array Bool), ∀ j ∈ Region.linearise.go .any ops fuel t L [], j < ops.size
  | 0, t, L => fun j hj => by simp [Region.linearise.go] at hj
  | fuel + 1, t, L => fun j hj => by
    simp only [Region.linearise.go] at hj
    split at hj
    · rename_i i hi
      rw [linearise_go_acc] at hj
      rcases List.mem_append.1 hj with hj | hj
      · simp at hj
        subst hj
        have := List.mem_of_getElem? hi
        exact List.mem_range.1 (List.mem_filter.1 this).1
      · exact linearise_lt fuel _ _ j hj
    · simp at hj

theorem Evo.drew (φ : Pl) (H : Hp) (F : Cl) (w : World) (n : Nat) : Evo φ H F w φ H F { w with drawn := n } where
  os := rfl
  tape := rfl
  output := rfl
  size := Nat.le_refl _
  keep := fun _ _ _ => rfl
  kp := ⟨fun _ _ h => h, fun _ _ _ => rfl⟩
  newF := fun _ _ h => .inl h
  new := fun _ _ h => .inl h
  be := fun id b h => ⟨b, h, BE.refl φ id b⟩
  shp := fun _ _ => rfl
  npar := rfl

theorem draw_go {ops : Array Oper} {ss : List SO} (hlen : ops.size = ss.length) (hd : drawOK ops.toList ss = true) {k : Tm → Hp → Prop} (hk : KR k) : ∀ (fuel t : Nat) (L : Array Bool) (T : Tm) (H : Hp), L.size = ops.size → Closed ops.toList L → (rest ops.size L).length ≤ fuel →
    wpL P G true ((rest ops.size L).filterMap (ss[·]?)) T H k → wpL P G true ((Region.linearise.go .any ops fuel t L []).filterMap (ss[·]?)) T H k ∧ ∀ i ∈ Region.linearise.go .any ops fuel t L [], i < ops.size
  | 0, t, L, T, H, hL, hc, hf, h => by
    have : rest ops.size L = [] := List.eq_nil_of_length_eq_zero (by omega)
    rw [this] at h
    simpa [Region.linearise.go] using h
  | fuel + 1, t, L, T, H, hL, hc, hf, h => by
    simp only [Region.linearise.go]
    change wpL P G true ((match (Region.ready .any ops L)[t % (Region.ready .any ops L).length]? with
      | some i => Region.linearise.go .any ops fuel (t / (Region.ready .any ops L).length) (L.setIfInBounds i true) [i]
      | none => [].reverse).filterMap (ss[·]?)) T H k ∧ ∀ i ∈ (match (Region.ready .any ops L)[t % (Region.ready .any ops L).length]? with
      | some i => Region.linearise.go .any ops fuel (t / (Region.ready .any ops L).length) (L.setIfInBounds i true) [i]
      | none => [].reverse), i < ops.size
    have hdr : ∀ j, j < ops.size → ∃ oj sj bf, ops.toList[j]? = some oj ∧ ss[j]? = some sj ∧ (ancs [] ops.toList)[j]? = some bf ∧ (∀ e ∈ oj.after.toList, Region.binds .any e = true → e.on < j) ∧
        ∀ i, i < j → bf.testBit i = true ∨ ∃ si, ss[i]? = some si ∧ si.op.ro = true ∧ sj.op.ro = true ∧ apartS si sj = true := by
      intro j hj
      have := List.all_eq_true.1 hd j (by simpa using hj)
      split at this
      · rename_i oj sj bf h1 h2 h3
        simp only [Bool.and_eq_true, List.all_eq_true] at this
        refine ⟨oj, sj, bf, h1, h2, h3, fun e he hb => ?_, fun i hi => ?_⟩
        · have := this.1 e he
          simpa [hb] using this
        · have := this.2 i (by simpa using hi)
          simp only [Bool.or_eq_true] at this
          rcases this with h | h
          · exact .inl h
          · right
            split at h
            · rename_i si hsi
              simp only [Bool.and_eq_true] at h
              exact ⟨si, hsi, h.1.1, h.1.2, h.2⟩
            · cases h
      · cases this
    have hmem : ∀ i, i ∈ Region.ready .any ops L ↔ i < ops.size ∧ L.getD i true = false ∧ ∃ o, ops[i]? = some o ∧ ∀ e ∈ o.after.toList, Region.binds .any e = true → L.getD e.on false = true := by
      intro i
      unfold Region.ready
      rw [List.mem_filter, List.mem_range]
      constructor
      · rintro ⟨h1, h2⟩
        simp only [Bool.and_eq_true, Bool.not_eq_true'] at h2
        have ho : ops[i]? = some ops[i] := Array.getElem?_eq_getElem h1
        refine ⟨h1, h2.1, _, ho, fun e he hb => ?_⟩
        have h3 := h2.2
        rw [ho] at h3
        simp only [Option.map_some, Option.getD_some, Array.all_eq_true] at h3
        obtain ⟨q, hq, hqe⟩ := List.mem_iff_getElem.1 he
        have := h3 q (by simpa using hq)
        have hqe' : ops[i].after[q] = e := by rw [← hqe]; simp
        rw [hqe'] at this
        simpa [hb] using this
      · rintro ⟨h1, h2, o, ho, h3⟩
        refine ⟨h1, ?_⟩
        rw [ho]
        simp only [Bool.and_eq_true, Bool.not_eq_true', Option.map_some, Option.getD_some, Array.all_eq_true]
        refine ⟨h2, fun q hq => ?_⟩
        by_cases hb : Region.binds .any o.after[q] = true
        · simp [hb, h3 o.after[q] (by simp) hb]
        · simp [hb]
    cases hi : (Region.ready .any ops L)[t % (Region.ready .any ops L).length]? with
    | none =>
      have hnil : Region.ready .any ops L = [] := by
        cases hr : Region.ready .any ops L with
        | nil => rfl
        | cons x xs =>
          rw [hr] at hi
          have hlt : t % (x :: xs).length < (x :: xs).length := Nat.mod_lt _ (by simp)
          rw [List.getElem?_eq_getElem hlt] at hi
          cases hi
      have hrest : rest ops.size L = [] := by
        cases hr : rest ops.size L with
        | nil => rfl
        | cons m ms =>
          exfalso
          have hm : m ∈ rest ops.size L := by rw [hr]; simp
          obtain ⟨hm1, hm2⟩ := List.mem_filter.1 hm
          simp only [List.mem_range] at hm1
          have hsort : ∀ a, a < m → a < ops.size → L.getD a true = true := by
            intro a ha hlt
            cases hb : L.getD a true with
            | true => rfl
            | false =>
              exfalso
              have hmem' : a ∈ rest ops.size L := List.mem_filter.2 ⟨by simpa using hlt, by simp [hb]⟩
              have hs : (rest ops.size L).Pairwise (· < ·) := List.Pairwise.filter _ List.pairwise_lt_range
              rw [hr] at hs hmem'
              rcases List.mem_cons.1 hmem' with rfl | h'
              · omega
              · have := (List.pairwise_cons.1 hs).1 a h'; omega
          obtain ⟨om, sm, bf, h1, h2, h3, h4, h5⟩ := hdr m hm1
          have : m ∈ Region.ready .any ops L := (hmem m).2 ⟨hm1, by simpa using hm2, om, by simpa using h1, fun e he hb => by
            have hlt := h4 e he hb
            exact (getD_tf hL (by omega) true).1 (hsort e.on hlt (by omega))⟩
          rw [hnil] at this
          cases this
      rw [hrest] at h
      simpa using h
    | some i =>
      simp only []
      have him := List.mem_of_getElem? hi
      obtain ⟨h1, h2, o, ho, h3⟩ := (hmem i).1 him
      obtain ⟨p, q, e1, e2, e3⟩ := rest_split h1 hL h2
      obtain ⟨oi, si, bf, d1, d2, d3, d4, d5⟩ := hdr i h1
      obtain rfl : oi = o := by simp at d1; rw [ho] at d1; cases d1; rfl
      rw [linearise_go_acc, List.reverse_singleton, List.singleton_append, List.filterMap_cons, d2]
      rw [e1, List.filterMap_append, List.filterMap_cons, d2] at h
      have hb := bubble (x := si) hk (p.filterMap (ss[·]?)) (q.filterMap (ss[·]?)) (fun a ha => by
        obtain ⟨j, hj, hja⟩ := List.mem_filterMap.1 ha
        obtain ⟨hji, hjl⟩ := e3 j hj
        rcases d5 j hji with hbit | ⟨sj, g1, g2, g3, g4⟩
        · exfalso
          have := anc_listed hc i oi d1 h3 j bf d3 hbit
          have hjl' := (getD_tf hL (by omega) false).1 hjl
          rw [this] at hjl'
          cases hjl'
        · rw [hja] at g1; cases g1; exact ⟨g2, g3, g4⟩) h
      rw [← List.filterMap_append, ← e2] at hb
      have hc' : Closed ops.toList (L.setIfInBounds i true) := by
        intro s os hs hsl e he hbn
        have key : L.getD e.on false = true → (L.setIfInBounds i true).getD e.on false = true := by
          intro hh
          by_cases hei : i = e.on
          · subst hei; simp [Array.getD_eq_getD_getElem?, hL, h1]
          · simpa [Array.getD_eq_getD_getElem?, Array.getElem?_setIfInBounds_ne hei] using hh
        by_cases hsi : i = s
        · subst hsi
          rw [d1] at hs
          cases hs
          exact key (h3 e he hbn)
        · apply key
          refine hc s os hs ?_ e he hbn
          simpa [Array.getD_eq_getD_getElem?, Array.getElem?_setIfInBounds_ne hsi] using hsl
      have hlen' : (rest ops.size (L.setIfInBounds i true)).length ≤ fuel := by
        rw [e2]
        rw [e1] at hf
        simp only [List.length_append, List.length_cons] at hf ⊢
        omega
      have ih := fun T H h => draw_go hlen hd hk fuel (t / (Region.ready .any ops L).length) (L.setIfInBounds i true) T H (by simpa using hL) hc' hlen' h
      refine ⟨wpO_mono (fun T H h => (ih T H h).1) hb, ?_⟩
      intro j hj
      rcases List.mem_cons.1 hj with rfl | hj
      · exact h1
      · exact linearise_lt _ _ _ j hj

theorem SemI.kr {x : Item} {K : Ex → Tm → Hp → Prop} (h : SemI P G N x T H fun e T H => ∃ T0, K e T0 H ∧ Teq T0 T) : SemI P G N x T H K := by
  intro φ F w fr k cs base hp
  obtain ⟨e, T', H', φ', F', w', tmps', ds', ⟨T0, h1, h1'⟩, h2, h3, h4⟩ := h φ F w fr k cs base hp
  exact ⟨e, T0, H', φ', F', w', tmps', ds', h1, h2, h3.sub fun t => .inr (h1' t), h4⟩

theorem wpL_mono {d : Bool} {k k' : Tm → Hp → Prop} (hk : ∀ T H, k T H → k' T H) : ∀ (l : List SO) {T : Tm} {H : Hp}, wpL P G d l T H k → wpL P G d l T H k'
  | [], _, _, h => hk _ _ h
  | _ :: l, _, _, h => wpO_mono (fun _ _ => wpL_mono hk l) h

/-- A region whose order is open. -/
theorem sem_region_draw (hm : P.follows .mixedOrders = true) {id : Nat} {ops : Array Oper} {ss : List SO} (hcomp : compOps P N ops.toList ops.toList = some ss) (hd : drawOK ops.toList ss = true) {K : Ex → Tm → Hp → Prop} (h : wpL P G true ss T H (K .norm)) : SemC P G N (.region id ops true) T H K := by
  refine SemI.kr fun φ F w fr k cs base hp => ?_
  have hl := (compOps_get hcomp).1
  simp only [Array.length_toList] at hl
  let K' : Tm → Hp → Prop := fun T H => ∃ T0, K .norm T0 H ∧ Teq T0 T
  have hk : KR K' := fun T T' H e ⟨T0, h1, h2⟩ => ⟨T0, h1, fun t => (h2 t).trans (e t)⟩
  have hr : rest ops.size (Array.replicate ops.size false) = List.range ops.size := by
    unfold rest
    rw [List.filter_eq_self]
    intro a ha
    simp only [List.mem_range] at ha
    simp [Array.getD_eq_getD_getElem?, ha]
  have hss : (rest ops.size (Array.replicate ops.size false)).filterMap (ss[·]?) = ss := by
    rw [hr, List.range_eq_range', filterMap_range ops.size 0 (by omega)]
    rfl
  have h' : wpL P G true ((rest ops.size (Array.replicate ops.size false)).filterMap (ss[·]?)) T H K' := by
    rw [hss]
    exact wpL_mono (fun T H h => ⟨T, h, fun _ => rfl⟩) ss h
  have hclosed : Closed ops.toList (Array.replicate ops.size false) := by
    intro s o hs hsl
    exfalso
    by_cases hlt : s < ops.size
    · simp [Array.getD_eq_getD_getElem?, hlt] at hsl
    · simp [Array.getD_eq_getD_getElem?, hlt] at hsl
  -- the draw
  let t := w.tape w.drawn (.order fr.fn id)
  let w1 : World := { w with drawn := w.drawn + 1 }
  obtain ⟨g1, g2⟩ := draw_go (P := P) (G := G) hl hd hk ops.size t _ T H (by simp) hclosed (by rw [hr]; simp) h'
  have E1 : Evo φ H F w φ H F w1 := Evo.drew φ H F w _
  have hp1 : Pre G N base φ H F w1 T fr :=
    { run := hp.run, size := hp.size, defers := hp.defers.evo hp.srel E1, round := hp.round.evo hp.srel E1, base := hp.base
      srel := ⟨hp.srel.inj, hp.srel.dom, hp.srel.has, fun i b hb => BR.evo E1 rfl (fun _ _ => rfl) (fun _ _ _ => Iff.rfl) (hp.srel.blk i b hb), fun g cs hg => (hp.srel.glob g cs hg).keeps E1.kp, hp.srel.fin⟩
      trel := hp.trel.evo E1 }
  obtain ⟨T', H', φ', F', w', tmps', q1, q2, q3, q4⟩ := wpL_goes hcomp (Region.linearise .any ops t) k cs g2 g1 hp1
  refine ⟨.norm, T', H', φ', F', w', tmps', fr.defers, q1, E1.trans q2, q3, Steps.head ?_ q4⟩
  have hsch : Region.schedule (P.follows .mixedOrders) ops t = Region.linearise .any ops t := by simp [Region.schedule, hm]
  exact step_lone_go (by
    simp only [stepG, hp.run]
    simp [stepG.exec, choose, Sem.run, Question.forced, Question.cut, ← hsch, t, w1])
end
end Go.Ab
