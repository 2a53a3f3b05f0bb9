/- StampMay. No condition. -/
import Derived.Test.YtidmpmdhgiopgaaDoorLS3
set_option linter.unusedSimpArgs false
set_option linter.unusedVariables false
namespace Go.Ab.S
open Go Go.Ab Go.Proofs
attribute [local irreducible] SemS
set_option maxRecDepth 100000
/-! ### The plain law -/
theorem restore_perm {b c : Bx} (hg : b.Good) (hn : c.next = b.next) (p : c.all.Perm b.all) : c.restore = b.restore := by
  show Bx.mk c.next (isort c.all) [] [] = Bx.mk b.next (isort b.all) [] []
  rw [hn, isort_congr (hg.dif.perm p.symm) p]
theorem kind_bx {o : Ob} {b : Bx} (h : o.kindB = true) (h2 : o.k = 2 → b.fine = true) (h1 : ¬ o.k = 2 → b = Bx.emp) : Ob.kindB { o with bx := b } = true := by
  unfold Ob.kindB at h ⊢
  dsimp only
  by_cases k1 : o.k = 1
  · rw [if_pos k1] at h ⊢
    simp only [Bool.and_eq_true, decide_eq_true_eq] at h ⊢
    exact ⟨h.1, h.2.1, h.2.2.1, h.2.2.2.1, h1 (by omega)⟩
  · rw [if_neg k1] at h ⊢
    by_cases k2 : o.k = 2
    · rw [if_pos k2] at h ⊢
      simp only [Bool.and_eq_true, decide_eq_true_eq] at h ⊢
      exact ⟨h.1, h.2.1, h.2.2.1, h2 k2⟩
    · rw [if_neg k2] at h ⊢
      simp only [Bool.and_eq_true, decide_eq_true_eq] at h ⊢
      exact ⟨h.1, h.2.1, h.2.2.1, h1 k2⟩
theorem fine_kind {o : Ob} (h : o.fine = true) : o.kindB = true := by
  unfold Ob.fine at h
  simp only [Bool.and_eq_true] at h
  exact h.2.2.2.2
/-- Another mailbox that may be: the object may be. -/
theorem fine_bx {o : Ob} {b : Bx} (h : o.fine = true) (h2 : o.k = 2 → b.fine = true) (h1 : ¬ o.k = 2 → b = Bx.emp) : Ob.fine { o with bx := b } = true := by
  have hk := kind_bx (fine_kind h) h2 h1
  unfold Ob.fine at h ⊢
  simp only [Bool.and_eq_true] at h ⊢
  exact ⟨h.1, h.2.1, h.2.2.1, h.2.2.2.1, hk⟩
def evenB (m : Msg) : Bool := decide (m.role.tmod 2 = 0)
end Go.Ab.S
