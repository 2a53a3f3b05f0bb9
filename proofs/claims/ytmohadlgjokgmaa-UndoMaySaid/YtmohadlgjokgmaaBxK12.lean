/- The document's mailboxes. No condition. -/
import Derived.Test.YtmohadlgjokgmaaBxK11
set_option linter.unusedSimpArgs false
set_option linter.unusedVariables false
namespace Go.Ab.S
open Go Go.Ab Go.Proofs
attribute [local irreducible] SemS
set_option maxRecDepth 100000
theorem R23_SetAside_ok (b : Bx) (hg : b.Good) : EvP PR G f_R23_SetAside [.agg b.row] (.agg b.aside.row) := by
  have h0 := hg.aside_both
  have hl := hg.len
  have h1 := R23_Both_ok b.a b.q (by simp only [Bx.len] at hl; omega)
  rw [h0] at h1
  obtain ⟨n, q, a, h⟩ := b
  dsimp only at h1
  refine EvP.of_wpf true hm c_R23_SetAside rfl ?_
  conv => whnf
  repeat' ((first | refine brP_t (by assumption) ?_ | refine brP_f (by assumption) ?_ | refine brP_t (decide_eq_true (by omega)) ?_ | refine brP_f (decide_eq_false (by omega)) ?_ | refine brP_t (nd_t (by omega)) ?_ | refine brP_f (nd_f (by omega)) ?_ | refine callK_p h1 ?_ | refine callM_p h1 rfl ?_ | refine callK_pf rfl h1 ?_ | refine wpfS_seq1 ?_ | refine wpfS_go ?_ | fail) <;> conv => whnf)
  rfl
theorem R23_Restore_ok (b : Bx) (hg : b.Good) : EvP PR G f_R23_Restore [.agg b.row] (.agg b.restore.row) := by
  have h0 := hg.restore_both
  have hl := hg.len
  have h1 := R23_Both_ok b.q b.a (by simp only [Bx.len] at hl; omega)
  have h2 := R23_Both_ok (both b.q b.a) b.h (by rw [both_len]; simp only [Bx.len] at hl; omega)
  rw [h0] at h2
  obtain ⟨n, q, a, h⟩ := b
  dsimp only at h1 h2
  refine EvP.of_wpf true hm c_R23_Restore rfl ?_
  refine wpf_seq1 ?_
  conv => whnf
  repeat' ((first | refine brP_t (by assumption) ?_ | refine brP_f (by assumption) ?_ | refine brP_t (decide_eq_true (by omega)) ?_ | refine brP_f (decide_eq_false (by omega)) ?_ | refine brP_t (nd_t (by omega)) ?_ | refine brP_f (nd_f (by omega)) ?_ | refine callK_p h1 ?_ | refine callM_p h1 rfl ?_ | refine callK_pf rfl h1 ?_ | refine callK_p h2 ?_ | refine callM_p h2 rfl ?_ | refine callK_pf rfl h2 ?_ | refine wpfS_seq1 ?_ | refine wpfS_go ?_ | fail) <;> conv => whnf)
  rfl
set_option maxHeartbeats 1000000 in
theorem R23_Put_ok (b : Bx) (m : Msg) (hg : b.Good) : EvP PR G f_R23_Put [.agg b.row, .agg m.row] (.tup [.agg (putR b m).1.row, iv (putR b m).2]) := by
  have hins := hg.put_ins m
  have hl := hg.len
  have hlo := hg.lo
  have hhi := hg.hi
  have hlen : b.len = b.q.length + b.a.length + b.h.length := rfl
  have hput : putR b m = if 8 ≤ b.len ∨ 2147483647 ≤ b.next then (Bx.emp, 12) else (b.put m, 0) := rfl
  have c1 := R23_in_ok b.q { m with no := b.next } (by omega)
  rw [hins] at c1
  obtain ⟨n, q, a, h⟩ := b
  obtain ⟨no, ep, s, i', role, used, data⟩ := m
  dsimp only at *
  have hql := msgs_len (l := q)
  have hal := msgs_len (l := a)
  have hhl := msgs_len (l := h)
  have w1 : IntKind.i64.wrap ((q.length : Int) + (a.length : Int)) = ((q.length + a.length : Nat) : Int) := by rw [wrap64 (by omega)]; rfl
  have w2 : IntKind.i64.wrap (((q.length + a.length : Nat) : Int) + (h.length : Int)) = ((q.length + a.length + h.length : Nat) : Int) := by rw [wrap64 (by omega)]; rfl
  rw [hput]
  refine EvP.of_wpf false hm c_R23_Put rfl ?_
  show wpf _ _ _ _ _ (argsT 0 [.agg [.int .i64 n, .sl (msgs q), .sl (msgs a), .sl (msgs h)], .agg [.int .i64 no, .int .i64 ep, .int .u16 s, .int .u16 i', .int .i64 role, .int .u16 used, .str data]]) _ _
  conv => whnf
  by_cases h1 : 8 ≤ (Bx.mk n q a h).len
  · rw [if_pos (.inl h1)]
    rw [hlen] at h1
    repeat' ((first | refine brP_t (by assumption) ?_ | refine brP_f (by assumption) ?_ | refine brP_t (decide_eq_true (by omega)) ?_ | refine brP_f (decide_eq_false (by omega)) ?_ | refine brP_t (nd_t (by omega)) ?_ | refine brP_f (nd_f (by omega)) ?_ | ((rw [hql])) | ((rw [hal])) | ((rw [hhl])) | ((rw [w1])) | ((rw [w2])) | refine wpfS_seq1 ?_ | refine wpfS_go ?_ | fail) <;> conv => whnf)
    rfl
  · rw [hlen] at h1
    by_cases h2 : 2147483647 ≤ n
    · rw [if_pos (.inr h2)]
      have : n = 2147483647 := by omega
      repeat' ((first | refine brP_t (by assumption) ?_ | refine brP_f (by assumption) ?_ | refine brP_t (decide_eq_true (by omega)) ?_ | refine brP_f (decide_eq_false (by omega)) ?_ | refine brP_t (nd_t (by omega)) ?_ | refine brP_f (nd_f (by omega)) ?_ | ((rw [hql])) | ((rw [hal])) | ((rw [hhl])) | ((rw [w1])) | ((rw [w2])) | refine wpfS_seq1 ?_ | refine wpfS_go ?_ | fail) <;> conv => whnf)
      rfl
    · rw [if_neg (by rw [hlen]; omega)]
      have hw : IntKind.i64.wrap (n + 1) = n + 1 := wrap64 (by omega)
      repeat' ((first | refine brP_t (by assumption) ?_ | refine brP_f (by assumption) ?_ | refine brP_t (decide_eq_true (by omega)) ?_ | refine brP_f (decide_eq_false (by omega)) ?_ | refine brP_t (nd_t (by omega)) ?_ | refine brP_f (nd_f (by omega)) ?_ | ((rw [hql])) | ((rw [hal])) | ((rw [hhl])) | ((rw [w1])) | ((rw [w2])) | refine callK_p c1 ?_ | refine callM_p c1 rfl ?_ | refine callK_pf rfl c1 ?_ | ((rw [hw])) | refine wpfS_seq1 ?_ | refine wpfS_go ?_ | fail) <;> conv => whnf)
      rfl
end Go.Ab.S
