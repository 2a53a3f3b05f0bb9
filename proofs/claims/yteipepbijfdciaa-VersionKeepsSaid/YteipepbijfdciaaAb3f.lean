/- Equality, ended. No condition. -/
import Derived.Test.YteipepbijfdciaaAb3e
set_option linter.unusedSimpArgs false
set_option linter.unusedVariables false
namespace Go.Ab
open Go

section
variable {P : Program} {G : Gl} {φ : Pl} {H : Hp} {F : Cl} {w : World}

theorem eqAt_of_kinds : ∀ (d j : Nat) (t : TypeId) (ks : List LK), kindsT P d t = some ks → EqAt P w t (d + j) ks
  | 0, _, _, _, h => by simp [kindsT] at h
  | d + 1, j, t, ks, h => by
    have hd : d + 1 + j = (d + j) + 1 := by omega
    rw [hd]
    unfold kindsT at h
    split at h
    · rename_i agg hu hs
      simp only [Option.some.injEq] at h
      subst h
      obtain ⟨i, u, hi, hu', hn, hagg⟩ := shapeT_spec hs
      rw [hu] at hu'; cases hu'
      refine ⟨agg, 1, hs, rfl, fun _ => rfl, fun {F as bs x y xs ys r} hx hy h1 h2 he => ?_⟩
      subst hagg
      obtain ⟨rfl, hfx⟩ := hx
      obtain ⟨rfl, hfy⟩ := hy
      clear hfx hfy
      cases h1 with | cons ha hat => cases hat with | nil => cases h2 with | cons hb hbt => cases hbt with | nil =>
      cases ha <;> cases hb <;> simp only [eqCells, reduceCtorEq, Option.some.injEq, Bool.and_true] at he
      subst he
      rename_i a b
      simp [Op.equalIn, run_underlying hu]
      cases a <;> cases b <;> rfl
    · rename_i k agg hu hs
      simp only [Option.some.injEq] at h
      subst h
      obtain ⟨i, u, hi, hu', hn, hagg⟩ := shapeT_spec hs
      rw [hu] at hu'; cases hu'
      refine ⟨agg, 1, hs, rfl, fun _ => rfl, fun {F as bs x y xs ys r} hx hy h1 h2 he => ?_⟩
      subst hagg
      obtain ⟨rfl, hfx⟩ := hx
      obtain ⟨rfl, hfy⟩ := hy
      clear hfx hfy
      cases h1 with | cons ha hat => cases hat with | nil => cases h2 with | cons hb hbt => cases hbt with | nil =>
      cases ha <;> cases hb <;> simp only [eqCells, reduceCtorEq] at he
      rename_i k1 a k2 b
      cases hk : decide (k1 = k) && decide (k2 = k) with
      | false => simp [hk] at he
      | true =>
        simp only [hk, Option.some.injEq, Bool.and_true] at he
        simp only [Bool.and_eq_true, decide_eq_true_eq] at hk
        obtain ⟨rfl, rfl⟩ := hk
        rw [run_equalIn_int w (d + j) t k2 k2 a b hu, ← he]
        rfl
    · rename_i agg hu hs
      simp only [Option.some.injEq] at h
      subst h
      obtain ⟨i, u, hi, hu', hn, hagg⟩ := shapeT_spec hs
      rw [hu] at hu'; cases hu'
      refine ⟨agg, 1, hs, rfl, fun _ => rfl, fun {F as bs x y xs ys r} hx hy h1 h2 he => ?_⟩
      subst hagg
      obtain ⟨rfl, hfx⟩ := hx
      obtain ⟨rfl, hfy⟩ := hy
      clear hfx hfy
      cases h1 with | cons ha hat => cases hat with | nil => cases h2 with | cons hb hbt => cases hbt with | nil =>
      cases ha <;> cases hb <;> simp only [eqCells, reduceCtorEq, Option.some.injEq, Bool.and_true] at he
      subst he
      rename_i a b
      rw [run_equalIn_string w (d + j) t a b hu, ByteArray.toList_eq, ByteArray.toList_eq]
      congr 1
      by_cases h : a.data.toList = b.data.toList
      · simp [h]
      · have h' : ¬ a.data = b.data := fun e => h (by rw [e])
        simp [h']
    · rename_i fs agg n hu hs
      split at h
      · rename_i h1
        obtain ⟨i, u, hi, hu', hn, hagg⟩ := shapeT_spec hs
        rw [hu] at hu'; cases hu'
        subst hagg
        have hl := kindsF_len (P := P) (fun t ks h => by obtain ⟨a, n, h1, h2, _⟩ := eqAt_of_kinds d j t ks h; exact ⟨a, n, h1, h2⟩) fs.toList 0 n ks h
        refine ⟨true, n, hs, by omega, (fun h => by cases h), fun {F as bs x y xs ys r} hx hy p1 p2 he => ?_⟩
        simp only [ValOf] at hx hy
        subst hx; subst hy
        have hlen := eqCells_len he
        have hf : P.fieldsOf t = fs := by simp [Program.fieldsOf, hu]
        rw [run_equalIn_struct w (d + j) t _ _ (by rw [hf]; exact hu) h1, hf]
        exact run_eqFields (fun t ks ht => eqAt_of_kinds d j t ks ht) p1 p2 (n := n) (by omega) (by omega) fs.toList 0 r ks h (by simpa using he)
      · cases h
    · rename_i k e agg n hu hs
      split at h
      · rename_i ks' ae m hk hse
        split at h
        · rename_i h2
          simp only [Option.some.injEq] at h
          subst h
          simp only [beq_iff_eq] at h2
          subst h2
          obtain ⟨i, u, hi, hu', hn, hagg⟩ := shapeT_spec hs
          rw [hu] at hu'; cases hu'
          subst hagg
          have hE := eqAt_of_kinds d j e ks' hk
          have hE' := hE
          obtain ⟨ae', m', hse', hlen, _⟩ := hE'
          rw [hse] at hse'
          simp only [Option.some.injEq, Prod.mk.injEq] at hse'
          obtain ⟨rfl, rfl⟩ := hse'
          refine ⟨true, k * m, hs, by rw [repK_len, hlen], (fun h => by cases h), fun {F as bs x y xs ys r} hx hy p1 p2 he => ?_⟩
          simp only [ValOf] at hx hy
          subst hx; subst hy
          have hl := eqCells_len he
          rw [repK_len, hlen] at hl
          obtain ⟨ie, _, hie, _, hme, _⟩ := shapeT_spec hse
          have hc : P.cellsOf e = m := by simp [Program.cellsOf, hie, hme]
          rw [run_equalIn_array w (d + j) _ _ hu hie, hc, List.range_eq_range']
          exact run_eqItems hse hE p1 p2 k 0 r (by rw [Nat.zero_add]; exact hl.1) (by rw [Nat.zero_add]; exact hl.2) (by simpa using he)
        · cases h
      · cases h
    · cases h
end
end Go.Ab
