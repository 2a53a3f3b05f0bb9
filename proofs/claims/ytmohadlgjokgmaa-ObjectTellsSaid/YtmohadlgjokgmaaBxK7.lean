/- What the program does with mailboxes: letting go. No condition. -/
import Derived.Test.YtmohadlgjokgmaaBxK6
set_option linter.unusedSimpArgs false
set_option linter.unusedVariables false
namespace Go.Ab.S
open Go Go.Ab Go.Proofs
attribute [local irreducible] SemS
set_option maxRecDepth 100000
/-- A function value that tells which messages are kept; its own blocks may turn with each. -/
def FnK (g : FuncId) (caps : List Id) (bs : Nat → List Blk) (a : List Msg) (k : Msg → Bool) : Prop := ∀ i (h : i < a.length), ∀ ls, EvR PR G g ([.agg a[i].row] ++ caps.map fun i => .c (.ptr i 0)) ⟨bs i, ls⟩ (bv (k a[i])) ⟨bs (i + 1), ls⟩
theorem keep_app (l : List Msg) {n : Nat} (hl : l.length = n) (hb : n ≤ 1000) {r : List PV} (hr : r.length = 7) : (true && decide (n = (msgs l).length ∧ 7 = 7 ∧ (n + [r].length) * 56 ≤ 2 ^ 47 ∧ n + [r].length < 2 ^ 62) && [r].all fun r => r.length == 7) = true := by
  rw [Bool.and_eq_true, Bool.and_eq_true]
  refine ⟨⟨rfl, decide_eq_true ⟨by rw [msgs_len, hl], rfl, ?_, ?_⟩⟩, by simp [hr]⟩
  · show (n + 1) * 56 ≤ _; omega
  · show n + 1 < _; omega
theorem letK_take {a : List Msg} {i : Nat} (h : i < a.length) (k : Msg → Bool) : (a.take (i + 1)).filter k = (if k a[i] then (a.take i).filter k ++ [a[i]] else (a.take i).filter k) := by
  rw [List.take_succ_eq_append_getElem h, List.filter_append]
  cases hk : k a[i] <;> simp [hk]
theorem letK_take' {a : List Msg} {i : Nat} (h : i < a.length) (k : Msg → Bool) : ((a.take (i + 1)).filter fun m => !k m) = (if k a[i] then (a.take i).filter fun m => !k m else ((a.take i).filter fun m => !k m) ++ [a[i]]) := by
  rw [List.take_succ_eq_append_getElem h, List.filter_append]
  cases hk : k a[i] <;> simp [hk]
def letH (g : FuncId) (caps : List Id) (bs : List Blk) (n : Int) (q a h l1 l2 : List Msg) : Hp :=
  ⟨bs, [.row [.int .i64 n, .sl (msgs q), .sl (msgs a), .sl (msgs h)], .mrow [.fn g caps], .mrow [.p (.int .i64 0), .nils, .nils, .nils], .mrow [.os (.loc 5) l1.length], .mrow [.os (.loc 6) l2.length], .arr 7 false (msgs l1), .arr 7 false (msgs l2)]⟩
theorem weak_let {g : FuncId} {caps : List Id} (bs : List Blk) {n : Int} {q a h : List Msg} : Weak ⟨bs, [.row [.int .i64 n, .sl (msgs q), .sl (msgs a), .sl (msgs h)], .mrow [.fn g caps], .mrow [.p (.int .i64 0), .nils, .nils, .nils], .mrow [.nils], .mrow [.nils]]⟩ (letH g caps bs n q a h [] []) := by
  have w1 := @Weak.nils ⟨bs, [.row [.int .i64 n, .sl (msgs q), .sl (msgs a), .sl (msgs h)], .mrow [.fn g caps], .mrow [.p (.int .i64 0), .nils, .nils, .nils], .mrow [.nils], .mrow [.nils]]⟩ (.loc 3) [.nils] 0 7 (by decide) rfl rfl
  have w2 := @Weak.nils ⟨bs, [.row [.int .i64 n, .sl (msgs q), .sl (msgs a), .sl (msgs h)], .mrow [.fn g caps], .mrow [.p (.int .i64 0), .nils, .nils, .nils], .mrow [.os (.loc 5) 0], .mrow [.nils], .arr 7 false []]⟩ (.loc 4) [.nils] 0 7 (by decide) rfl rfl
  intro G φ F w S
  exact (Weak.trans @w1 @w2) S
theorem weak_let2 {g : FuncId} {caps : List Id} (bs : List Blk) {n : Int} {q a h l1 l2 : List Msg} : Weak (letH g caps bs n q a h l1 l2)
    ⟨bs, [.row [.int .i64 n, .sl (msgs q), .sl (msgs a), .sl (msgs h)], .mrow [.fn g caps], .mrow [.p (.int .i64 0), .nils, .nils, .nils], .row [.sl (msgs l1)], .row [.sl (msgs l2)], .arr 7 true (msgs l1), .arr 7 true (msgs l2)]⟩ := by
  have f1 : freezeCs (letH g caps bs n q a h l1 l2) [.os (.loc 5) l1.length] = some (true, [.p (.sl (msgs l1))], ⟨bs, [.row [.int .i64 n, .sl (msgs q), .sl (msgs a), .sl (msgs h)], .mrow [.fn g caps], .mrow [.p (.int .i64 0), .nils, .nils, .nils], .mrow [.os (.loc 5) l1.length], .mrow [.os (.loc 6) l2.length], .arr 7 true (msgs l1), .arr 7 false (msgs l2)]⟩) := by
    show some (decide (l1.length = (msgs l1).length) && true, _, _) = _
    rw [decide_eq_true msgs_len.symm]; rfl
  have w1 := @Weak.row _ _ (.loc 3) _ _ [.sl (msgs l1)] (rfl : (letH g caps bs n q a h l1 l2).get (.loc 3) = some (.mrow [.os (.loc 5) l1.length])) f1 rfl rfl
  have f2 : freezeCs ⟨bs, [.row [.int .i64 n, .sl (msgs q), .sl (msgs a), .sl (msgs h)], .mrow [.fn g caps], .mrow [.p (.int .i64 0), .nils, .nils, .nils], .row [.sl (msgs l1)], .mrow [.os (.loc 6) l2.length], .arr 7 true (msgs l1), .arr 7 false (msgs l2)]⟩ [.os (.loc 6) l2.length] = some (true, [.p (.sl (msgs l2))], ⟨bs, [.row [.int .i64 n, .sl (msgs q), .sl (msgs a), .sl (msgs h)], .mrow [.fn g caps], .mrow [.p (.int .i64 0), .nils, .nils, .nils], .row [.sl (msgs l1)], .mrow [.os (.loc 6) l2.length], .arr 7 true (msgs l1), .arr 7 true (msgs l2)]⟩) := by
    show some (decide (l2.length = (msgs l2).length) && true, _, _) = _
    rw [decide_eq_true msgs_len.symm]; rfl
  have w2 := @Weak.row _ _ (.loc 4) _ _ [.sl (msgs l2)] rfl f2 rfl rfl
  intro G φ F w S
  exact (Weak.trans @w1 @w2) S
end Go.Ab.S
