/- What the program does with mailboxes. No condition. -/
import Derived.Test.YtmohadlgjokgmaaBxK3
set_option linter.unusedSimpArgs false
set_option linter.unusedVariables false
namespace Go.Ab.S
open Go Go.Ab Go.Proofs
attribute [local irreducible] SemS
set_option maxRecDepth 100000
theorem box_Len_ok (b : Bx) (hl : b.len < 2 ^ 62) : EvP PR G f_box_Len [.agg b.row] (iv b.len) := by
  obtain ⟨n, q, a, h⟩ := b
  have h1 := msgs_len (l := q)
  have h2 := msgs_len (l := a)
  have h3 := msgs_len (l := h)
  unfold Bx.len at hl ⊢
  dsimp only at hl ⊢
  have w1 : IntKind.i64.wrap ((q.length : Int) + (a.length : Int)) = ((q.length + a.length : Nat) : Int) := by rw [wrap64 (by omega)]; rfl
  have w2 : IntKind.i64.wrap (((q.length + a.length : Nat) : Int) + (h.length : Int)) = ((q.length + a.length + h.length : Nat) : Int) := by rw [wrap64 (by omega)]; rfl
  refine EvP.of_wpf false hm c_box_Len rfl ?_
  conv => whnf
  rw [h1, h2, h3, w1, w2]
  rfl
theorem merge2_ok (a b : List Msg) (hl : a.length + b.length ≤ 19) : EvP PR G f_box_merge [slv [[.sl (msgs a)], [.sl (msgs b)]]] (slv (msgs (isort (a ++ b)))) := by
  have e : [a, b].flatten = a ++ b := by simp
  have := merge_ok [a, b] (by simp) (by rw [e, List.length_append]; exact hl)
  rw [e] at this
  exact this
theorem merge3_ok (a b c : List Msg) (hl : a.length + b.length + c.length ≤ 19) : EvP PR G f_box_merge [slv [[.sl (msgs a)], [.sl (msgs b)], [.sl (msgs c)]]] (slv (msgs (isort (a ++ b ++ c)))) := by
  have e : [a, b, c].flatten = a ++ b ++ c := by simp
  have := merge_ok [a, b, c] (by simp) (by rw [e, List.length_append, List.length_append]; exact hl)
  rw [e] at this
  exact this
theorem box_Restore_ok (b : Bx) (hl : b.len ≤ 19) : EvP PR G f_box_Restore [.agg b.row] (.agg b.restore.row) := by
  obtain ⟨n, q, a, h⟩ := b
  have h1 := merge3_ok q a h hl
  refine EvP.of_wpf true hm c_box_Restore rfl ?_
  conv => whnf
  repeat' ((first | refine brP_t (by assumption) ?_ | refine brP_f (by assumption) ?_ | refine brP_t (decide_eq_true (by omega)) ?_ | refine brP_f (decide_eq_false (by omega)) ?_ | refine brP_t (nd_t (by omega)) ?_ | refine brP_f (nd_f (by omega)) ?_ | refine callK_p h1 ?_ | refine callM_p h1 rfl ?_ | refine callK_pf rfl h1 ?_ | refine wpfS_seq1 ?_ | refine wpfS_go ?_ | fail) <;> conv => whnf)
  rfl
theorem box_SetAside_ok (b : Bx) (hl : b.len ≤ 19) : EvP PR G f_box_SetAside [.agg b.row] (.agg b.aside.row) := by
  obtain ⟨n, q, a, h⟩ := b
  have h1 := merge2_ok a q (by simp only [Bx.len] at hl; omega)
  refine EvP.of_wpf true hm c_box_SetAside rfl ?_
  conv => whnf
  repeat' ((first | refine brP_t (by assumption) ?_ | refine brP_f (by assumption) ?_ | refine brP_t (decide_eq_true (by omega)) ?_ | refine brP_f (decide_eq_false (by omega)) ?_ | refine brP_t (nd_t (by omega)) ?_ | refine brP_f (nd_f (by omega)) ?_ | refine callK_p h1 ?_ | refine callM_p h1 rfl ?_ | refine callK_pf rfl h1 ?_ | refine wpfS_seq1 ?_ | refine wpfS_go ?_ | fail) <;> conv => whnf)
  rfl
theorem box_Forget_ok (b : Bx) : EvP PR G f_box_Forget [.agg b.row] (.agg b.forget.row) := by
  obtain ⟨n, q, a, h⟩ := b
  refine EvP.of_wpf true hm c_box_Forget rfl ?_
  conv => whnf
  repeat' ((first | refine brP_t (by assumption) ?_ | refine brP_f (by assumption) ?_ | refine brP_t (decide_eq_true (by omega)) ?_ | refine brP_f (decide_eq_false (by omega)) ?_ | refine brP_t (nd_t (by omega)) ?_ | refine brP_f (nd_f (by omega)) ?_ | refine wpfS_seq1 ?_ | refine wpfS_go ?_ | fail) <;> conv => whnf)
  rfl
theorem box_Same_ok (x y : Bx) (h1 : x.q.length < 2 ^ 63) (h2 : x.a.length < 2 ^ 63) (h3 : x.h.length < 2 ^ 63) : EvP PR G f_box_Same [.agg x.row, .agg y.row] (bv (decide (x = y))) := by
  obtain ⟨n, q, a, h⟩ := x
  obtain ⟨n', q', a', h'⟩ := y
  have c1 := message_Same_ok q q' h1
  have c2 := message_Same_ok a a' h2
  have c3 := message_Same_ok h h' h3
  refine EvP.of_wpf true hm c_box_Same rfl ?_
  conv => whnf
  by_cases e1 : n = n'
  · by_cases e2 : q = q'
    · by_cases e3 : a = a'
      · rw [decide_eq_true e2] at c1
        rw [decide_eq_true e3] at c2
        repeat' ((first | refine brP_t (by assumption) ?_ | refine brP_f (by assumption) ?_ | refine brP_t (decide_eq_true (by omega)) ?_ | refine brP_f (decide_eq_false (by omega)) ?_ | refine brP_t (nd_t (by omega)) ?_ | refine brP_f (nd_f (by omega)) ?_ | refine callK_p c1 ?_ | refine callM_p c1 rfl ?_ | refine callK_pf rfl c1 ?_ | refine callK_p c2 ?_ | refine callM_p c2 rfl ?_ | refine callK_pf rfl c2 ?_ | refine callK_p c3 ?_ | refine callM_p c3 rfl ?_ | refine callK_pf rfl c3 ?_ | refine wpfS_seq1 ?_ | refine wpfS_go ?_ | fail) <;> conv => whnf)
        show bv (decide (h = h')) = _
        subst e1 e2 e3
        simp
      · rw [decide_eq_true e2] at c1
        rw [decide_eq_false e3] at c2
        repeat' ((first | refine brP_t (by assumption) ?_ | refine brP_f (by assumption) ?_ | refine brP_t (decide_eq_true (by omega)) ?_ | refine brP_f (decide_eq_false (by omega)) ?_ | refine brP_t (nd_t (by omega)) ?_ | refine brP_f (nd_f (by omega)) ?_ | refine callK_p c1 ?_ | refine callM_p c1 rfl ?_ | refine callK_pf rfl c1 ?_ | refine callK_p c2 ?_ | refine callM_p c2 rfl ?_ | refine callK_pf rfl c2 ?_ | refine callK_p c3 ?_ | refine callM_p c3 rfl ?_ | refine callK_pf rfl c3 ?_ | refine wpfS_seq1 ?_ | refine wpfS_go ?_ | fail) <;> conv => whnf)
        exact congrArg bv (decide_eq_false (by simp [e3])).symm
    · rw [decide_eq_false e2] at c1
      repeat' ((first | refine brP_t (by assumption) ?_ | refine brP_f (by assumption) ?_ | refine brP_t (decide_eq_true (by omega)) ?_ | refine brP_f (decide_eq_false (by omega)) ?_ | refine brP_t (nd_t (by omega)) ?_ | refine brP_f (nd_f (by omega)) ?_ | refine callK_p c1 ?_ | refine callM_p c1 rfl ?_ | refine callK_pf rfl c1 ?_ | refine callK_p c2 ?_ | refine callM_p c2 rfl ?_ | refine callK_pf rfl c2 ?_ | refine callK_p c3 ?_ | refine callM_p c3 rfl ?_ | refine callK_pf rfl c3 ?_ | refine wpfS_seq1 ?_ | refine wpfS_go ?_ | fail) <;> conv => whnf)
      exact congrArg bv (decide_eq_false (by simp [e2])).symm
  · repeat' ((first | refine brP_t (by assumption) ?_ | refine brP_f (by assumption) ?_ | refine brP_t (decide_eq_true (by omega)) ?_ | refine brP_f (decide_eq_false (by omega)) ?_ | refine brP_t (nd_t (by omega)) ?_ | refine brP_f (nd_f (by omega)) ?_ | refine callK_p c1 ?_ | refine callM_p c1 rfl ?_ | refine callK_pf rfl c1 ?_ | refine callK_p c2 ?_ | refine callM_p c2 rfl ?_ | refine callK_pf rfl c2 ?_ | refine callK_p c3 ?_ | refine callM_p c3 rfl ?_ | refine callK_pf rfl c3 ?_ | refine wpfS_seq1 ?_ | refine wpfS_go ?_ | fail) <;> conv => whnf)
    exact congrArg bv (decide_eq_false (by simp [e1])).symm
theorem R23_Same_ok (x y : Bx) (h1 : x.q.length < 2 ^ 63) (h2 : x.a.length < 2 ^ 63) (h3 : x.h.length < 2 ^ 63) : EvP PR G f_R23_Same [.agg x.row, .agg y.row] (bv (decide (x = y))) := by
  obtain ⟨n, q, a, h⟩ := x
  obtain ⟨n', q', a', h'⟩ := y
  have c1 := R22_Same_ok q q' h1
  have c2 := R22_Same_ok a a' h2
  have c3 := R22_Same_ok h h' h3
  refine EvP.of_wpf true hm c_R23_Same rfl ?_
  conv => whnf
  by_cases e1 : n = n'
  · by_cases e2 : q = q'
    · by_cases e3 : a = a'
      · rw [decide_eq_true e2] at c1
        rw [decide_eq_true e3] at c2
        repeat' ((first | refine brP_t (by assumption) ?_ | refine brP_f (by assumption) ?_ | refine brP_t (decide_eq_true (by omega)) ?_ | refine brP_f (decide_eq_false (by omega)) ?_ | refine brP_t (nd_t (by omega)) ?_ | refine brP_f (nd_f (by omega)) ?_ | refine callK_p c1 ?_ | refine callM_p c1 rfl ?_ | refine callK_pf rfl c1 ?_ | refine callK_p c2 ?_ | refine callM_p c2 rfl ?_ | refine callK_pf rfl c2 ?_ | refine callK_p c3 ?_ | refine callM_p c3 rfl ?_ | refine callK_pf rfl c3 ?_ | refine wpfS_seq1 ?_ | refine wpfS_go ?_ | fail) <;> conv => whnf)
        show bv (decide (h = h')) = _
        subst e1 e2 e3
        simp
      · rw [decide_eq_true e2] at c1
        rw [decide_eq_false e3] at c2
        repeat' ((first | refine brP_t (by assumption) ?_ | refine brP_f (by assumption) ?_ | refine brP_t (decide_eq_true (by omega)) ?_ | refine brP_f (decide_eq_false (by omega)) ?_ | refine brP_t (nd_t (by omega)) ?_ | refine brP_f (nd_f (by omega)) ?_ | refine callK_p c1 ?_ | refine callM_p c1 rfl ?_ | refine callK_pf rfl c1 ?_ | refine callK_p c2 ?_ | refine callM_p c2 rfl ?_ | refine callK_pf rfl c2 ?_ | refine callK_p c3 ?_ | refine callM_p c3 rfl ?_ | refine callK_pf rfl c3 ?_ | refine wpfS_seq1 ?_ | refine wpfS_go ?_ | fail) <;> conv => whnf)
        exact congrArg bv (decide_eq_false (by simp [e3])).symm
    · rw [decide_eq_false e2] at c1
      repeat' ((first | refine brP_t (by assumption) ?_ | refine brP_f (by assumption) ?_ | refine brP_t (decide_eq_true (by omega)) ?_ | refine brP_f (decide_eq_false (by omega)) ?_ | refine brP_t (nd_t (by omega)) ?_ | refine brP_f (nd_f (by omega)) ?_ | refine callK_p c1 ?_ | refine callM_p c1 rfl ?_ | refine callK_pf rfl c1 ?_ | refine callK_p c2 ?_ | refine callM_p c2 rfl ?_ | refine callK_pf rfl c2 ?_ | refine callK_p c3 ?_ | refine callM_p c3 rfl ?_ | refine callK_pf rfl c3 ?_ | refine wpfS_seq1 ?_ | refine wpfS_go ?_ | fail) <;> conv => whnf)
      exact congrArg bv (decide_eq_false (by simp [e2])).symm
  · repeat' ((first | refine brP_t (by assumption) ?_ | refine brP_f (by assumption) ?_ | refine brP_t (decide_eq_true (by omega)) ?_ | refine brP_f (decide_eq_false (by omega)) ?_ | refine brP_t (nd_t (by omega)) ?_ | refine brP_f (nd_f (by omega)) ?_ | refine callK_p c1 ?_ | refine callM_p c1 rfl ?_ | refine callK_pf rfl c1 ?_ | refine callK_p c2 ?_ | refine callM_p c2 rfl ?_ | refine callK_pf rfl c2 ?_ | refine callK_p c3 ?_ | refine callM_p c3 rfl ?_ | refine callK_pf rfl c3 ?_ | refine wpfS_seq1 ?_ | refine wpfS_go ?_ | fail) <;> conv => whnf)
    exact congrArg bv (decide_eq_false (by simp [e1])).symm
def msg0 : Msg := ⟨0, 0, 0, 0, 0, 0, []⟩
theorem box_First_ok (b : Bx) : EvP PR G f_box_First [.agg b.row] (.tup [.agg (b.q.headD msg0).row, iv (if b.q = [] then 13 else 0)]) := by
  obtain ⟨n, q, a, h⟩ := b
  refine EvP.of_wpf true hm c_box_First rfl ?_
  cases q with
  | nil =>
    conv => whnf
    rfl
  | cons m q =>
    have hml := msgs_len (l := m :: q)
    have hne : ((List.length (m :: q) : Int) = 0) = False := by simp; omega
    conv => whnf
    repeat' ((first | refine brP_t (by assumption) ?_ | refine brP_f (by assumption) ?_ | refine brP_t (decide_eq_true (by omega)) ?_ | refine brP_f (decide_eq_false (by omega)) ?_ | refine brP_t (nd_t (by omega)) ?_ | refine brP_f (nd_f (by omega)) ?_ | refine brP_f (decide_eq_false (by show ¬ ((msgs (m :: q)).length : Int) = 0; rw [hml]; simp; omega)) ?_ | refine wpfS_seq1 ?_ | refine wpfS_go ?_ | fail) <;> conv => whnf)
    rfl
end Go.Ab.S
