/- Equality of abstract values, decided; runs whose value is the one that one names. No condition. -/
import Derived.Test.YteipepbijfdciaaAb12
set_option linter.unusedSimpArgs false
set_option linter.unusedVariables false
namespace Go.Ab
open Go

def allEq {α : Type} (f : α → α → Bool) : List α → List α → Bool
  | [], [] => true
  | a :: r, b :: q => f a b && allEq f r q
  | _, _ => false
theorem allEq_eq {α : Type} {f : α → α → Bool} (hf : ∀ {a b}, f a b = true → a = b) : ∀ {l m : List α}, allEq f l m = true → l = m
  | [], [], _ => rfl
  | [], _ :: _, h => by simp [allEq] at h
  | _ :: _, [], h => by simp [allEq] at h
  | a :: r, b :: q, h => by
    simp only [allEq, Bool.and_eq_true] at h
    rw [hf h.1, allEq_eq hf h.2]
/-- Equality of values, down to a depth. -/
def pvEq : Nat → PV → PV → Bool
  | _, .int k n, .int k' n' => decide (k = k') && decide (n = n')
  | _, .bool a, .bool b => a == b
  | _, .str s, .str t => decide (s = t)
  | d + 1, .sl es, .sl fs => allEq (allEq (pvEq d)) es fs
  | _, _, _ => false
theorem pvEq_eq : ∀ {d : Nat} {a b : PV}, pvEq d a b = true → a = b := by
  intro d
  induction d with
  | zero =>
    intro a b h
    cases a <;> cases b <;> simp [pvEq] at h
    · rw [h.1, h.2]
    · rw [h]
    · rw [h]
  | succ d ih =>
    intro a b h
    cases a <;> cases b <;> simp [pvEq] at h
    · rw [h.1, h.2]
    · rw [h]
    · rw [h]
    · rw [allEq_eq (allEq_eq ih) h]
def avEq1 : AV → AV → Bool
  | .c (.p v), .c (.p w) => pvEq 20 v w
  | .agg a, .agg b => allEq (pvEq 20) a b
  | _, _ => false
theorem avEq1_eq {a b : AV} (h : avEq1 a b = true) : a = b := by
  unfold avEq1 at h
  split at h
  · rw [pvEq_eq h]
  · rw [allEq_eq pvEq_eq h]
  · cases h
def avEq : AV → AV → Bool
  | .tup a, .tup b => allEq avEq1 a b
  | a, b => avEq1 a b
theorem avEq_eq {a b : AV} (h : avEq a b = true) : a = b := by
  unfold avEq at h
  split at h
  · rw [allEq_eq avEq1_eq h]
  · exact avEq1_eq h
def rEq (r : Option (AV × Hp)) (v : AV) : Bool := match r with
  | some (a, _) => avEq a v
  | _ => false
theorem rEq_eq {r : Option (AV × Hp)} {v : AV} (h : rEq r v = true) : r.map Prod.fst = some v := by
  unfold rEq at h
  split at h
  · rw [avEq_eq h]; rfl
  · cases h
/-- A run whose value is the one that one names. -/
theorem EvP.of_rEq {P : Program} {R : Run} (hR : R.Ok P) (d : Nat) {g : FuncId} {args : List AV} {v : AV} (hp : (args.all pureV1 && pureV v) = true) (h : rEq (R.call d true g args ⟨[], []⟩) v = true) : EvP P R.G g args v :=
  EvP.of_run hR d hp (rEq_eq h)
theorem wts_cons {s : Sh} {r : List Sh} {l : List (List PV)} (h : wts (s :: r) l) : ∃ p q, l = p :: q ∧ wt s p ∧ wts r q := by
  cases l with
  | nil => exact h.elim
  | cons p q => exact ⟨p, q, rfl, h.1, h.2⟩
theorem wts_nil {l : List (List PV)} (h : wts [] l) : l = [] := by
  cases l with
  | nil => rfl
  | cons p q => exact h.elim
end Go.Ab
