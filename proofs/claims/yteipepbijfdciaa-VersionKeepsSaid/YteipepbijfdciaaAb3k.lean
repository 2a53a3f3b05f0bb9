/- Appends, makes, slicings, conversions: the operations whole. No condition. -/
import Derived.Test.YteipepbijfdciaaAb3j
set_option linter.unusedSimpArgs false
set_option linter.unusedVariables false
namespace Go.Ab
open Go

section
variable {P : Program} {G : Gl} {φ : Pl} {H : Hp} {F : Cl} {w : World}

theorem elemsA_rel (hS : SRel G φ H F w) {c : C} {x : Value} (hc : CR φ H F w c x) {p : Bool} {es : List (List PV)} (h : elemsA H c = some (p, es)) (hp : p = true) :
    ∃ a cap, x = .slice a es.length cap ∧ es.length ≤ cap ∧ ((∃ id n, c = .os id n) ∨ SlAt F w es a) := by
  subst hp
  cases c <;> simp only [elemsA, reduceCtorEq] at h
  case p v =>
    cases v <;> simp only [reduceCtorEq, Option.some.injEq, Prod.mk.injEq, true_and] at h
    subst h
    obtain ⟨a, cap, rfl, h1, h2⟩ := Rp.slAt (show Rp F w (.sl _) x from hc)
    exact ⟨a, cap, rfl, h1, .inr h2⟩
  case os id n =>
    obtain ⟨sz, fz, es', hg, hn, hv⟩ := hc
    simp only [hg, Option.some.injEq, Prod.mk.injEq, decide_eq_true_eq] at h
    obtain ⟨h1, rfl⟩ := h
    rcases hv h1 with ⟨h2, a, rfl⟩ | ⟨r, cap, e, k, _, rfl, h3, _⟩
    · exact ⟨a, 0, by rw [show es'.length = 0 by omega], by omega, .inl ⟨_, _, rfl⟩⟩
    · exact ⟨_, cap, by rw [h1], by omega, .inl ⟨_, _, rfl⟩⟩
  case nils =>
    simp only [Option.some.injEq, Prod.mk.injEq, true_and] at h
    subst h
    have hc : x = .slice none 0 0 := hc
    exact ⟨none, 0, hc, Nat.le_refl _, .inr (.inl rfl)⟩
  case ti es' =>
    simp only [Option.some.injEq, Prod.mk.injEq, true_and] at h
    subst h
    obtain ⟨a, rfl, h1⟩ := hc
    exact ⟨a, _, rfl, Nat.le_refl _, .inr h1⟩

/-- The cells of an owner's elements, as memory holds them now. -/
theorem os_cells (hS : SRel G φ H F w) {id : Id} {sz : Nat} {fz : Bool} {es : List (List PV)} (hg : H.get id = some (.arr sz fz es)) {x : Value} (hx : OsV φ w id sz es.length x) :
    ∃ a cap xs, x = .slice a es.length cap ∧ es.length ≤ cap ∧ F2 (Rp F w) es.flatten xs ∧ xs.length = es.length * sz ∧ (es = [] ∨ ∃ r, a = some ⟨r, 0, none⟩ ∧ ∀ (j : Nat) (v : Value), xs[j]? = some v → w.cell? ⟨r, j, none⟩ = some v) := by
  obtain ⟨h0, h1, h2⟩ := hS.blk id _ hg
  rcases hx with ⟨h3, a, rfl⟩ | ⟨r, cap, e, k, hφ, rfl, hc, _, _, _⟩
  · have : es = [] := List.eq_nil_of_length_eq_zero h3
    subst this
    exact ⟨a, 0, [], rfl, Nat.le_refl _, .nil, by simp, .inl rfl⟩
  · rcases h2 with ⟨h3, _⟩ | ⟨r', c, h3, ⟨e', h4⟩, _, h6, h7, h8, h9⟩
    · rw [hφ] at h3; cases h3
    obtain rfl : r' = r := by rw [hφ] at h3; exact (Option.some.inj h3).symm
    have hrow := rows_of h1
    have hfl := flat_len hrow
    have h6' : es.length * sz ≤ c.toList.length := by simpa using h6
    refine ⟨_, cap, c.toList.take (es.length * sz), rfl, hc, F2.of_get (by rw [hfl, List.length_take]; omega) fun i u v hu hv => ?_, by rw [List.length_take]; omega, .inr ⟨r', rfl, fun j v hj => ?_⟩⟩
    · have hi : i < es.flatten.length := (List.getElem?_eq_some_iff.1 hu).1
      have : ∃ k q j, es[k]? = some q ∧ q[j]? = some u ∧ i = k * sz + j := by
        clear h9 hv h7 h8 h6 h6' hc hfl hi h1 hS hg
        induction es generalizing i with
        | nil => simp at hu
        | cons q es ih =>
          have hq := hrow q (by simp)
          rw [List.flatten_cons, List.getElem?_append] at hu
          split at hu
          · exact ⟨0, q, i, rfl, hu, by omega⟩
          · obtain ⟨k, q', j, e1, e2, e3⟩ := ih (fun r hr => hrow r (by simp [hr])) _ hu
            exact ⟨k + 1, q', j, by simpa using e1, e2, by rw [Nat.succ_mul]; omega⟩
      obtain ⟨k, q, j, e1, e2, rfl⟩ := this
      obtain ⟨x, hx, hr⟩ := h9 k q j u e1 e2
      rw [List.getElem?_take] at hv
      split at hv
      · have : c.toList[k * sz + j]? = some x := by simpa using hx
        rw [this] at hv
        cases hv
        exact hr
      · cases hv
    · rw [List.getElem?_take] at hj
      split at hj
      · simpa [World.cell?, h4] using hj
      · cases hj

theorem src_os (hS : SRel G φ H F w) {u e : TypeId} (hu : P.underlying u = some (.slice e)) {id : Id} {sz : Nat} {fz : Bool} {es : List (List PV)} (hg : H.get id = some (.arr sz fz es)) {x : Value} (hx : OsV φ w id sz es.length x) :
    ∃ news, Src P w u sz x es.length news ∧ F2 (Rp F w) es.flatten news := by
  obtain ⟨a, cap, xs, rfl, _, h1, h2, h3⟩ := os_cells hS hg hx
  refine ⟨xs, ⟨by simp [Builtin.lenOf], ?_, ?_, .inl ⟨_, hu⟩⟩, h1⟩
  all_goals
    rcases h3 with rfl | ⟨r, rfl, h3⟩
    · obtain rfl : xs = [] := List.eq_nil_of_length_eq_zero (by simpa using h2)
      cases a <;> simp [Builtin.firstCells, loadCells, loadCellsFrom]
    · first
        | (have := run_loadCells_list (P := P) w ⟨r, 0, none⟩ xs (fun j v hv => by rw [Addr.add_lit, Nat.zero_add]; exact h3 j v hv)
           rw [h2] at this
           simp only [Builtin.firstCells]
           exact this)
        | (have := run_loadCells_list (P := P) w.drew ⟨r, 0, none⟩ xs (fun j v hv => by rw [Addr.add_lit, Nat.zero_add]; exact h3 j v hv)
           rw [h2] at this
           simp only [Builtin.firstCells]
           exact this)

theorem srcA_run (hS : SRel G φ H F w) {u : TypeId} {sz : Nat} {str : Bool} (hu : if str then P.underlying u = some .string ∧ sz = 1 else ∃ d, P.underlying u = some (.slice d)) {a : AV} {x : Value} (ha : AR φ H F w a x) {p : Bool} {new : List (List PV)} (h : srcA str H a = some (p, new)) (hp : p = true)
    (hsz : ∀ r ∈ new, r.length = sz) : ∃ news, Src P w u sz x new.length news ∧ F2 (Rp F w) new.flatten news := by
  unfold srcA at h
  split at h
  · rename_i s
    obtain ⟨hstr, rfl⟩ := hu
    simp only [Option.some.injEq, Prod.mk.injEq] at h
    obtain ⟨_, rfl⟩ := h
    obtain ⟨t, rfl, rfl⟩ := ha.str
    obtain ⟨news, n1, n2⟩ := src_str (w := w) (F := F) hstr t
    refine ⟨news, ?_, n2⟩
    have : (bytesOf t.data.toList).length = t.size := by unfold bytesOf; rw [List.length_map]; rfl
    rw [this]
    exact n1
  · rename_i c
    obtain ⟨d, hd⟩ := hu
    obtain ⟨b, cap, rfl, hc, hcase⟩ := elemsA_rel hS ha.cc.1 h hp
    rcases hcase with ⟨id, n, rfl⟩ | hcase
    · obtain ⟨⟨sz', fz, es, hg, hn, hv⟩, _⟩ := ha.cc
      simp only [elemsA, hg, Option.some.injEq, Prod.mk.injEq] at h
      obtain ⟨hd', rfl⟩ := h
      subst hp
      simp only [decide_eq_true_eq] at hd'
      subst hd'
      have hv' := hv rfl
      obtain ⟨news, n1, n2⟩ := src_os hS hd hg hv'
      by_cases hes : es = []
      · subst hes
        refine ⟨news, ?_, n2⟩
        have hnil : news = [] := List.eq_nil_of_length_eq_zero (by have := n2.len; simpa using this.symm)
        subst hnil
        refine ⟨n1.len, ?_, ?_, n1.slice⟩ <;> cases b <;> simp [Builtin.firstCells, loadCells, loadCellsFrom]
      · obtain rfl : sz' = sz := by
          obtain ⟨q, hq⟩ := List.exists_mem_of_ne_nil _ hes
          have := rows_of (hS.blk id _ hg).2.1 q hq
          have := hsz q hq
          omega
        exact ⟨news, n1, n2⟩
    · exact src_slice hd hcase hsz
  · cases h

theorem all_len {new : List (List PV)} {sz : Nat} (h : new.all (fun r => r.length == sz) = true) : ∀ r ∈ new, r.length = sz := fun r hr => by
  have := List.all_eq_true.1 h r hr
  simpa using this

theorem zeroCells_len (z : Array Value) (n : Nat) : (Builtin.zeroCells z n).toList.length = n * z.size := by simp [size_zeroCells]

theorem appS_run (hS : SRel G φ H F w) {t u ty e : TypeId} {i : TypeInfo} {zc : List C} (ht : P.underlying t = some (.slice e)) {str : Bool} (hu : if str then P.underlying u = some .string ∧ i.size = 1 else ∃ d, P.underlying u = some (.slice d)) (hi : P.info? e = some i) (hz : zeroCs P e = some zc) (h0 : 0 < i.size) (hzl : zc.length = i.size)
    {a b : AV} {x y : Value} (ha : AR φ H F w a x) (hb : AR φ H F w b y) {res : Res} (h : appS i.size i.bytes str a b H = some res) (hp : res.pre = true) :
    ∃ xv w' φ' F', (Builtin.append_ #[t, u] ty #[x, y]).run P w = .ok xv w' ∧ Evo φ H F w φ' res.h F' w' ∧ SRel G φ' res.h F' w' ∧ AR φ' res.h F' w' res.v xv := by
  obtain ⟨i', z, hi', hzv, hcs⟩ := zeroCs_spec hz
  rw [hi] at hi'
  cases hi'
  have hzs : z.cells.size = i.size := by have := (constCs_rel (φ := φ) (H := H) (F := F) (w := w) hcs).len; simp at this; omega
  -- what is made anew
  have made : ∀ {old new : List (List PV)} {base : Option Addr} {sCap : Nat} {olds news : List Value}, (∀ r ∈ old, r.length = i.size) → (∀ r ∈ new, r.length = i.size) → F2 (Rp F w) old.flatten olds → F2 (Rp F w) new.flatten news →
      (Builtin.firstCells i.size old.length (.slice base old.length sCap)).run P w.drew = .ok olds.toArray w.drew → Src P w u i.size y new.length news → sCap < old.length + new.length →
      (old.length + new.length) * i.bytes ≤ 2 ^ 47 → old.length + new.length < 2 ^ 62 →
      ∃ cap zs, old.length + new.length ≤ cap ∧ cap ≤ maxLen ∧ ((olds ++ news) ++ zs).length = cap * i.size ∧
        (Builtin.append_ #[t, u] ty #[.slice base old.length sCap, y]).run P w = .ok (.slice (some ⟨w.heap.size, 0, none⟩) (old.length + new.length) cap) (w.drew.alloc (.cells ((olds ++ news) ++ zs).toArray e)) := by
    intro old new base sCap olds news ho hn hol hnl hof hsrc hlt hby h62
    obtain ⟨cap, c1, c2, c3⟩ := run_app_grow (ty := ty) ht hi hzv hsrc hof hlt (by omega) (by omega)
    refine ⟨cap, _, c1, c2, ?_, c3⟩
    have e1 := hol.len
    have e2 := hnl.len
    rw [flat_len ho] at e1
    rw [flat_len hn] at e2
    rw [List.length_append, List.length_append, zeroCells_len, hzs, ← e1, ← e2, ← Nat.add_mul, ← Nat.add_mul]
    congr 1
    omega
  unfold appS at h
  split at h
  · -- nil
    rename_i pb new hsrc
    simp only [Option.some.injEq] at h
    subst h
    simp only [Bool.and_eq_true, decide_eq_true_eq] at hp
    obtain ⟨⟨hpb, hby, h62⟩, hall⟩ := hp
    have hsz := all_len hall
    obtain ⟨news, n1, n2⟩ := srcA_run hS hu hb hsrc hpb hsz
    have hx : x = .slice none 0 0 := ha.cc.1
    subst hx
    by_cases hn : new = []
    · subst hn
      have hnil : news = [] := List.eq_nil_of_length_eq_zero (by have := n2.len; simpa using this.symm)
      obtain ⟨E, S, A⟩ := new_virtual hS h0 none
      exact ⟨_, w, φ, F, run_app_zero ht hi n1 hnil none 0, E, S, A⟩
    · have hpos : 0 < new.length := List.length_pos_iff.2 hn
      obtain ⟨cap, zs, c1, c2, c3, c4⟩ := made (old := []) (olds := []) (base := none) (sCap := 0) (by simp) hsz .nil n2 (by simp [Builtin.firstCells]) n1 (by simpa using hpos) (by simpa using hby) (by simpa using h62)
      simp only [List.length_nil, Nat.zero_add, List.nil_append] at c1 c3 c4
      obtain ⟨E, S, A⟩ := new_owner hS (Grown.drewAlloc w _) h0 hsz n2 c1 c2 c3
      exact ⟨_, _, _, _, c4, E, S, A⟩
  · -- an empty slice without room
    rename_i pb new hsrc
    simp only [Option.some.injEq] at h
    subst h
    simp only [Bool.and_eq_true, decide_eq_true_eq] at hp
    obtain ⟨⟨hpb, hby, h62⟩, hall⟩ := hp
    have hsz := all_len hall
    obtain ⟨news, n1, n2⟩ := srcA_run hS hu hb hsrc hpb hsz
    obtain ⟨ad, rfl, _⟩ := ha.cc.1
    simp only [List.length_nil]
    by_cases hn : new = []
    · subst hn
      have hnil : news = [] := List.eq_nil_of_length_eq_zero (by have := n2.len; simpa using this.symm)
      obtain ⟨E, S, A⟩ := new_virtual hS h0 ad
      exact ⟨_, w, φ, F, run_app_zero ht hi n1 hnil ad 0, E, S, A⟩
    · have hpos : 0 < new.length := List.length_pos_iff.2 hn
      obtain ⟨cap, zs, c1, c2, c3, c4⟩ := made (old := []) (olds := []) (base := ad) (sCap := 0) (by simp) hsz .nil n2 (by cases ad <;> simp [Builtin.firstCells, loadCells, loadCellsFrom]) n1 (by simpa using hpos) (by simpa using hby) (by simpa using h62)
      simp only [List.length_nil, Nat.zero_add, List.nil_append] at c1 c3 c4
      obtain ⟨E, S, A⟩ := new_owner hS (Grown.drewAlloc w _) h0 hsz n2 c1 c2 c3
      exact ⟨_, _, _, _, c4, E, S, A⟩
  · -- a slice without room
    rename_i pb new es hne hsrc
    simp only [Option.some.injEq] at h
    subst h
    simp only [Bool.and_eq_true, decide_eq_true_eq] at hp
    obtain ⟨⟨⟨hpb, hby, h62, hpos⟩, hesz⟩, hall⟩ := hp
    have hsz := all_len hall
    have hesz' := all_len hesz
    obtain ⟨news, n1, n2⟩ := srcA_run hS hu hb hsrc hpb hsz
    obtain ⟨ad, rfl, hsl⟩ := ha.cc.1
    have hne' : es ≠ [] := by intro e; subst e; exact hne rfl
    obtain ⟨bb, oo, rfl, xs, x1, x2, x3⟩ := slAt_flat hsl hesz' hne'
    have hof : (Builtin.firstCells i.size es.length (.slice (some ⟨bb, oo, none⟩) es.length es.length)).run P w.drew = .ok xs.toArray w.drew := by
      have := run_loadCells_list (P := P) w.drew ⟨bb, oo, none⟩ xs (fun j v hv => by rw [Addr.add_lit]; exact x3 j v hv)
      rw [x2] at this
      simp only [Builtin.firstCells]
      exact this
    obtain ⟨cap, zs, c1, c2, c3, c4⟩ := made hesz' hsz x1 n2 hof n1 (by omega) hby h62
    have hall' : ∀ r ∈ es ++ new, r.length = i.size := fun r hr => by
      rcases List.mem_append.1 hr with hr | hr
      · exact hesz' r hr
      · exact hsz r hr
    obtain ⟨E, S, A⟩ := new_owner (es := es ++ new) hS (Grown.drewAlloc w _) h0 hall' (by rw [List.flatten_append]; exact x1.app n2) (by simpa using c1) c2 c3
    rw [List.length_append] at A
    exact ⟨_, _, _, _, c4, E, S, A⟩
  · -- an owner
    rename_i pb new id n hsrc
    split at h
    · rename_i sz fz es hg
      simp only [Option.some.injEq] at h
      subst h
      simp only [Bool.and_eq_true, decide_eq_true_eq] at hp
      obtain ⟨⟨hpb, hne, hsz', hby, h62⟩, hall⟩ := hp
      subst hsz'
      subst hne
      have hsz := all_len hall
      obtain ⟨news, n1, n2⟩ := srcA_run hS hu hb hsrc hpb hsz
      obtain ⟨⟨sz', fz', es', hg', hn, hv⟩, _⟩ := ha.cc
      rw [hg] at hg'
      obtain ⟨rfl, rfl, rfl⟩ : sz' = i.size ∧ fz' = fz ∧ es' = es := by cases hg'; exact ⟨rfl, rfl, rfl⟩
      have hv := hv rfl
      have hesz := rows_of (hS.blk id _ hg).2.1
      have hall' : ∀ r ∈ es' ++ new, r.length = i.size := fun r hr => by
        rcases List.mem_append.1 hr with hr | hr
        · exact hesz r hr
        · exact hsz r hr
      have there : ∀ {base : Option Addr} {sCap : Nat} {olds : List Value}, F2 (Rp F w) es'.flatten olds → (Builtin.firstCells i.size es'.length (.slice base es'.length sCap)).run P w.drew = .ok olds.toArray w.drew → sCap < es'.length + new.length → es'.length ≤ sCap →
          ∃ xv w' φ' F', (Builtin.append_ #[t, u] ty #[.slice base es'.length sCap, y]).run P w = .ok xv w' ∧ Evo φ H F w φ' (H.set id (.arr i.size fz' (es' ++ new))) F' w' ∧ SRel G φ' (H.set id (.arr i.size fz' (es' ++ new))) F' w' ∧ AR φ' (H.set id (.arr i.size fz' (es' ++ new))) F' w' (.c (.os id (es'.length + new.length))) xv := by
        intro base sCap olds ho1 ho2 hlt hle
        obtain ⟨cap, zs, c1, c2, c3, c4⟩ := made hesz hsz ho1 n2 ho2 n1 hlt hby h62
        obtain ⟨φ', F', E, S, A⟩ := grow_there (all := es' ++ new) hS hg (by rw [List.length_append]; omega) (Grown.drewAlloc w _) hall' (by rw [List.flatten_append]; exact ho1.app n2) (by simpa using c1) c2 c3
        rw [List.length_append] at A
        exact ⟨_, _, _, _, c4, E, S, A⟩
      rcases hv with ⟨h3, ad, rfl⟩ | ⟨r, cap, ee, k, hφ, rfl, hcap, hmax, hshape, hk⟩
      · have hes : es' = [] := List.eq_nil_of_length_eq_zero h3
        subst hes
        by_cases hn : new = []
        · subst hn
          have hnil : news = [] := List.eq_nil_of_length_eq_zero (by have := n2.len; simpa using this.symm)
          refine ⟨_, w, φ, F, run_app_zero ht hi n1 hnil ad 0, ?_⟩
          have hid : H.set id (.arr i.size fz' ([] ++ [])) = H := by
            cases id with
            | par k => simp only [Hp.set, Hp.get] at *; congr 1; obtain ⟨hk, he⟩ := List.getElem?_eq_some_iff.1 hg; rw [List.append_nil, ← he, List.set_getElem_self]
            | loc k => simp only [Hp.set, Hp.get] at *; congr 1; obtain ⟨hk, he⟩ := List.getElem?_eq_some_iff.1 hg; rw [List.append_nil, ← he, List.set_getElem_self]
          rw [hid]
          exact ⟨Evo.refl φ H F w, hS, ha⟩
        · have hpos : 0 < new.length := List.length_pos_iff.2 hn
          exact there (olds := []) .nil (by cases ad <;> simp [Builtin.firstCells, loadCells, loadCellsFrom]) (by simpa using hpos) (Nat.le_refl _)
      · obtain ⟨bb, cap', xs, hxx, hcap', x1, x2, x3⟩ := os_cells hS hg (.inr ⟨r, cap, ee, k, hφ, rfl, hcap, hmax, hshape, hk⟩)
        obtain ⟨rfl, rfl⟩ : bb = some ⟨r, 0, none⟩ ∧ cap' = cap := by cases hxx; exact ⟨rfl, rfl⟩
        by_cases hroom : es'.length + new.length ≤ cap'
        · obtain ⟨g0, g1, g2⟩ := hS.blk id _ hg
          rcases g2 with ⟨g3, _⟩ | ⟨r', c, g3, ⟨e', g4⟩, _, g6, _⟩
          · rw [hφ] at g3; cases g3
          obtain rfl : r' = r := by rw [hφ] at g3; exact (Option.some.inj g3).symm
          have hcs : c.size = cap' * i.size := by
            simp only [World.shape?, g4, Option.some.injEq, Prod.mk.injEq] at hshape
            omega
          have hnl := n2.len
          rw [flat_len hsz] at hnl
          have hmul : (es'.length + new.length) * i.size ≤ cap' * i.size := Nat.mul_le_mul_right _ hroom
          rw [Nat.add_mul] at hmul
          obtain ⟨F', E, S, A⟩ := grow_here hS hg hφ g4 hcs hmax hroom hsz n2
          exact ⟨_, _, _, _, run_app_room ht hi n1 g4 (f2_flat n2) hroom (by omega), E, S, A⟩
        · refine there x1 ?_ (by omega) hcap
          rcases x3 with rfl | ⟨r', hr', x3⟩
          · obtain rfl : xs = [] := List.eq_nil_of_length_eq_zero (by simpa using x2)
            simp [Builtin.firstCells, loadCells, loadCellsFrom]
          · obtain rfl : r' = r := by cases hr'; rfl
            have := run_loadCells_list (P := P) w.drew ⟨r', 0, none⟩ xs (fun j v hv => by rw [Addr.add_lit, Nat.zero_add]; exact x3 j v hv)
            rw [x2] at this
            simp only [Builtin.firstCells]
            exact this
    · cases h
  · cases h
end
end Go.Ab
