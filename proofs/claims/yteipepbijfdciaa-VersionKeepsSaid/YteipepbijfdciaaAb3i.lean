/- Appends, held against the model's. No condition. -/
import Derived.Test.YteipepbijfdciaaAb3h
set_option linter.unusedSimpArgs false
set_option linter.unusedVariables false
namespace Go.Ab
open Go

section
variable {P : Program} {G : Gl} {φ : Pl} {H : Hp} {F : Cl} {w : World}

theorem allPure_of_map (es : List PV) : allPure (es.map .p) = some es := by
  induction es with
  | nil => rfl
  | cons a es ih => simp [allPure, ih]

/-- The cells of a slice's elements, one after the other. -/
theorem slAt_flat {es : List (List PV)} {a : Option Addr} (h : SlAt F w es a) {sz : Nat} (hsz : ∀ r ∈ es, r.length = sz) (hne : es ≠ []) : ∃ b o, a = some ⟨b, o, none⟩ ∧
    ∃ xs : List Value, F2 (Rp F w) es.flatten xs ∧ xs.length = es.length * sz ∧ ∀ (j : Nat) (v : Value), xs[j]? = some v → w.cell? ⟨b, o + j, none⟩ = some v := by
  rcases h with h | ⟨b, o, s, rfl, hs, hr⟩
  · exact absurd h hne
  · have hss : s = sz := by
      cases es with
      | nil => exact absurd rfl hne
      | cons r es => have := (hr 0 r rfl).1; have := hsz r (by simp); omega
    subst hss
    refine ⟨b, o, rfl, ?_⟩
    clear hne
    induction es generalizing o with
    | nil => exact ⟨[], .nil, by simp, fun j v h => by simp at h⟩
    | cons r es ih =>
      obtain ⟨h1, h2⟩ := hr 0 r rfl
      obtain ⟨xs, x1, x2⟩ := h2.atC.list
      obtain ⟨ys, y1, y2, y3⟩ := ih (o + s) (fun i q hq => by
        have := hr (i + 1) q (by simpa using hq)
        rwa [show o + s + i * s = o + (i + 1) * s by rw [Nat.succ_mul]; omega]) (fun q hq => hsz q (by simp [hq]))
      have hxl : xs.length = s := by rw [← x1.len, h1]
      refine ⟨xs ++ ys, by simpa using x1.app y1, by simp [hxl, y2, Nat.succ_mul]; omega, fun j v hj => ?_⟩
      rw [List.getElem?_append] at hj
      split at hj
      · have := x2 j v hj
        simpa using this
      · have := y3 _ v hj
        rwa [hxl, show o + s + (j - s) = o + j by omega] at this

/-- What an append's source gives. -/
structure Src (P : Program) (w : World) (u : TypeId) (sz : Nat) (x : Value) (n : Nat) (news : List Value) : Prop where
  len : (Builtin.lenOf x).run P w = .ok n w
  cells : (Builtin.firstCells sz n x).run P w = .ok news.toArray w
  cells' : (Builtin.firstCells sz n x).run P w.drew = .ok news.toArray w.drew
  slice : (∃ d, P.underlying u = some (.slice d)) ∨ P.underlying u = some .string

theorem src_slice {u e : TypeId} (hu : P.underlying u = some (.slice e)) {sz : Nat} {es : List (List PV)} {a : Option Addr} {cap : Nat} (h : SlAt F w es a) (hsz : ∀ r ∈ es, r.length = sz) :
    ∃ news, Src P w u sz (.slice a es.length cap) es.length news ∧ F2 (Rp F w) es.flatten news := by
  by_cases hne : es = []
  · subst hne
    refine ⟨[], ⟨by simp [Builtin.lenOf], ?_, ?_, .inl ⟨_, hu⟩⟩, .nil⟩
    · cases a <;> simp [Builtin.firstCells, loadCells, loadCellsFrom]
    · cases a <;> simp [Builtin.firstCells, loadCells, loadCellsFrom]
  · obtain ⟨b, o, rfl, xs, x1, x2, x3⟩ := slAt_flat h hsz hne
    have hc : ∀ (w' : World), (∀ o, w'.cell? ⟨b, o, none⟩ = w.cell? ⟨b, o, none⟩) → (Builtin.firstCells sz es.length (.slice (some ⟨b, o, none⟩) es.length cap)).run P w' = .ok xs.toArray w' := by
      intro w' hw
      have := run_loadCells_list (P := P) w' ⟨b, o, none⟩ xs (fun j v hv => by rw [Addr.add_lit, hw]; exact x3 j v hv)
      rw [x2] at this
      simp only [Builtin.firstCells]
      exact this
    exact ⟨xs, ⟨by simp [Builtin.lenOf], hc w fun _ => rfl, hc w.drew fun _ => rfl, .inl ⟨_, hu⟩⟩, x1⟩

theorem src_str {u : TypeId} (hu : P.underlying u = some .string) (s : ByteArray) :
    ∃ news, Src P w u 1 (.string s) s.size news ∧ F2 (Rp F w) (bytesOf s.data.toList).flatten news := by
  refine ⟨s.data.toList.map fun b => .int .u8 b.toNat, ⟨by simp [Builtin.lenOf], ?_, ?_, .inr hu⟩, ?_⟩
  · simp only [Builtin.firstCells, Sem.run_pure]
    congr 1
    apply Array.ext'
    simp [ByteArray.data_extract]
  · simp only [Builtin.firstCells, Sem.run_pure]
    congr 1
    apply Array.ext'
    simp [ByteArray.data_extract]
  · unfold bytesOf
    induction s.data.toList with
    | nil => exact .nil
    | cons b l ih => simpa using F2.cons (Rp.int _ _) ih

theorem run_app_room {t u ty e : TypeId} {i : TypeInfo} (ht : P.underlying t = some (.slice e)) (hi : P.info? e = some i) {x : Value} {n : Nat} {news : List Value} (hx : Src P w u i.size x n news)
    {g sLen sCap : Nat} {cur : Array Value} {ee : TypeId} (hg : w.heap[g]? = some (.cells cur ee (0, 0))) (hf : ∀ v ∈ news, Flat v) (hroom : sLen + n ≤ sCap) (hfit : sLen * i.size + news.length ≤ cur.size) :
    (Builtin.append_ #[t, u] ty #[.slice (some ⟨g, 0, none⟩) sLen sCap, x]).run P w = .ok (.slice (some ⟨g, 0, none⟩) (sLen + n) sCap) (w.setRow g (putAt cur.toList (sLen * i.size) news).toArray) := by
  have hst := run_storeCells_at P g (sLen * i.size) ee news 0 cur w hg (by simpa using hfit) hf
  simp only [Nat.add_zero] at hst
  obtain ⟨h1, h2, _, ⟨d, hd⟩ | hd⟩ := hx <;> simp [Builtin.append_, run_underlying ht, run_underlying hd, sizeOf, typeInfo, hi, h1, hroom, h2, Addr.add_lit, hst, putAt]

theorem run_app_zero {t u ty e : TypeId} {i : TypeInfo} (ht : P.underlying t = some (.slice e)) (hi : P.info? e = some i) {x : Value} {news : List Value} (hx : Src P w u i.size x 0 news) (hn : news = []) (a : Option Addr) (sLen : Nat) :
    (Builtin.append_ #[t, u] ty #[.slice a sLen sLen, x]).run P w = .ok (.slice a sLen sLen) w := by
  subst hn
  obtain ⟨h1, h2, _, ⟨d, hd⟩ | hd⟩ := hx <;> cases a <;> simp [Builtin.append_, run_underlying ht, run_underlying hd, sizeOf, typeInfo, hi, h1, h2, storeCells]

theorem run_app_grow {t u ty e : TypeId} {i : TypeInfo} {z : Value} (ht : P.underlying t = some (.slice e)) (hi : P.info? e = some i) (hz : i.zero = some z) {x : Value} {n : Nat} {news : List Value} (hx : Src P w u i.size x n news)
    {a : Option Addr} {sLen sCap : Nat} {olds : List Value} (ho : (Builtin.firstCells i.size sLen (.slice a sLen sCap)).run P w.drew = .ok olds.toArray w.drew)
    (hg : sCap < sLen + n) (h63 : ((sLen + n : Nat) : Int) ≤ 9223372036854775807) (hfit : (sLen + n) * i.bytes ≤ 140737488355328) :
    ∃ cap, sLen + n ≤ cap ∧ cap ≤ maxLen ∧ (Builtin.append_ #[t, u] ty #[.slice a sLen sCap, x]).run P w =
      .ok (.slice (some ⟨w.heap.size, 0, none⟩) (sLen + n) cap) (w.drew.alloc (.cells (olds ++ news ++ (Builtin.zeroCells z.cells (cap - (sLen + n))).toList).toArray e)) := by
  have hn : ¬ (sLen + n ≤ sCap) := by omega
  have h63' : ¬ (9223372036854775807 < ((sLen : Int) + (n : Int))) := by omega
  have h48 := growslice_fits (need := sLen + n) (old := sCap) hg hfit
  have h48' : ¬ (281474976710656 < Builtin.nextslicecap (sLen + n) sCap * i.bytes) := by omega
  obtain ⟨h1, _, h2, hdd⟩ := hx
  refine ⟨grownCap w (sLen + n) sCap e, grownCap_ge w _ _ _, grownCap_le_maxLen w _ _ _ (by simp only [maxLen]; omega), ?_⟩
  have hR : (olds ++ news ++ (Builtin.zeroCells z.cells (grownCap w (sLen + n) sCap e - (sLen + n))).toList).toArray = olds.toArray ++ news.toArray ++ Builtin.zeroCells z.cells (grownCap w (sLen + n) sCap e - (sLen + n)) := by
    apply Array.ext'; simp
  rw [hR]
  rcases hdd with ⟨d, hd⟩ | hd <;> simp [Builtin.append_, run_underlying ht, run_underlying hd, sizeOf, typeInfo, zeroValue, hi, hz, h1, hn, h63', h48', Question.forced, h2, ho, newRow, grownCap]
  all_goals
    congr 2
    apply Array.ext'
    simp
end
end Go.Ab
