/- Cells of given kinds, and their '=='. No condition. -/
import Derived.Test.YteipepbijfdciaaAb18
set_option linter.unusedSimpArgs false
set_option linter.unusedVariables false
namespace Go.Ab
open Go

def typK : List LK → List PV → Bool
  | [], [] => true
  | .int k :: ks, .int k1 _ :: r => decide (k1 = k) && typK ks r
  | .bool :: ks, .bool _ :: r => typK ks r
  | .str :: ks, .str _ :: r => typK ks r
  | _, _ => false

theorem typK_len : ∀ {ks : List LK} {a : List PV}, typK ks a = true → a.length = ks.length
  | [], [], _ => rfl
  | .int k :: ks, .int k1 n :: r, h => by
    simp only [typK, Bool.and_eq_true] at h
    simp [typK_len h.2]
  | .bool :: ks, .bool _ :: r, h => by simp only [typK] at h; simp [typK_len h]
  | .str :: ks, .str _ :: r, h => by simp only [typK] at h; simp [typK_len h]
  | [], _ :: _, h => by simp [typK] at h
  | .int _ :: _, [], h => by simp [typK] at h
  | .bool :: _, [], h => by simp [typK] at h
  | .str :: _, [], h => by simp [typK] at h
  | .int _ :: _, .bool _ :: _, h | .int _ :: _, .str _ :: _, h | .int _ :: _, .sl _ :: _, h => by simp [typK] at h
  | .bool :: _, .int _ _ :: _, h | .bool :: _, .str _ :: _, h | .bool :: _, .sl _ :: _, h => by simp [typK] at h
  | .str :: _, .bool _ :: _, h | .str :: _, .int _ _ :: _, h | .str :: _, .sl _ :: _, h => by simp [typK] at h

theorem eqCells_typ : ∀ {ks : List LK} {a b : List PV}, typK ks a = true → typK ks b = true → ∃ q, eqCells ks a b = some q ∧ (q = true ↔ a = b)
  | [], [], [], _, _ => ⟨true, rfl, by simp⟩
  | [], [], _ :: _, _, h => by simp [typK] at h
  | [], _ :: _, _, h, _ => by simp [typK] at h
  | k :: ks, [], _, h, _ => by cases k <;> simp [typK] at h
  | k :: ks, _ :: _, [], _, h => by cases k <;> simp [typK] at h
  | .int k :: ks, x :: r, y :: s, h1, h2 => by
    cases x <;> simp only [typK, Bool.and_eq_true, decide_eq_true_eq, Bool.false_eq_true] at h1
    cases y <;> simp only [typK, Bool.and_eq_true, decide_eq_true_eq, Bool.false_eq_true] at h2
    obtain ⟨rfl, h1⟩ := h1
    obtain ⟨rfl, h2⟩ := h2
    obtain ⟨q, e, hq⟩ := eqCells_typ h1 h2
    rename_i m _ n
    refine ⟨decide (m = n) && q, by simp only [eqCells, decide_true, Bool.and_self, e], ?_⟩
    simp only [Bool.and_eq_true, decide_eq_true_eq, hq, List.cons.injEq, PV.int.injEq, true_and]
  | .bool :: ks, x :: r, y :: s, h1, h2 => by
    cases x <;> simp only [typK, Bool.false_eq_true] at h1
    cases y <;> simp only [typK, Bool.false_eq_true] at h2
    obtain ⟨q, e, hq⟩ := eqCells_typ h1 h2
    rename_i m n
    refine ⟨decide (m = n) && q, by simp only [eqCells, e], ?_⟩
    simp only [Bool.and_eq_true, decide_eq_true_eq, hq, List.cons.injEq, PV.bool.injEq]
  | .str :: ks, x :: r, y :: s, h1, h2 => by
    cases x <;> simp only [typK, Bool.false_eq_true] at h1
    cases y <;> simp only [typK, Bool.false_eq_true] at h2
    obtain ⟨q, e, hq⟩ := eqCells_typ h1 h2
    rename_i m n
    refine ⟨decide (m = n) && q, by simp only [eqCells, e], ?_⟩
    simp only [Bool.and_eq_true, decide_eq_true_eq, hq, List.cons.injEq, PV.str.injEq]

theorem eqCells_self {ks ks' : List LK} {a : List PV} (h : typK ks a = true) (e : ks' = ks) : eqCells ks' a a = some true := by
  subst e
  obtain ⟨q, e, hq⟩ := eqCells_typ h h
  rw [e, hq.2 rfl]
theorem eqCells_ne {ks ks' : List LK} {a b : List PV} (h : typK ks a = true) (h' : typK ks b = true) (e : ks' = ks) (hn : a ≠ b) : eqCells ks' a b = some false := by
  subst e
  obtain ⟨q, e, hq⟩ := eqCells_typ h h'
  rw [e]
  cases q with
  | false => rfl
  | true => exact absurd (hq.1 rfl) hn
open Classical in
theorem eqCells_dec {ks ks' : List LK} {a b : List PV} (h : typK ks a = true) (h' : typK ks b = true) (e : ks' = ks) : eqCells ks' a b = some (decide (a = b)) := by
  by_cases hn : a = b
  · subst hn; rw [eqCells_self h e]; simp
  · rw [eqCells_ne h h' e hn]; simp [hn]
end Go.Ab
