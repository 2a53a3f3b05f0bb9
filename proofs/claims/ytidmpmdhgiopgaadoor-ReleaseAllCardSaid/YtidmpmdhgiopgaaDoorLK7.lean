/- What the program does with mailboxes: putting, taking, each. No condition. What the program does with mailboxes: letting go. No condition. -/
import Derived.Test.YtidmpmdhgiopgaaDoorLK5
import Derived.Test.YtidmpmdhgiopgaaDoorFwH
set_option linter.unusedSimpArgs false
set_option linter.unusedVariables false
namespace Go.Ab.S
open Go Go.Ab Go.Proofs
attribute [local irreducible] SemS
set_option maxRecDepth 100000
def putR (b : Bx) (m : Msg) : Bx × Int := if 8 ≤ b.len ∨ 2147483647 ≤ b.next then (Bx.emp, 12) else (b.put m, 0)
def takeR (b : Bx) : Bx := if b.q = [] then Bx.emp else b.take
/-- Some messages done, the others as they were. -/
def part (f : Msg → Msg) (q : List Msg) (i : Nat) : List Msg := (q.take i).map f ++ q.drop i
/-- A function value that is handed over: what it does to a message, its own blocks left as they are. -/
def FnM (g : FuncId) (caps : List Id) (bs : List Blk) (m : Msg) (v : AV) : Prop := ∀ ls, EvR PR G g ([.agg m.row] ++ caps.map fun i => .c (.ptr i 0)) ⟨bs, ls⟩ v ⟨bs, ls⟩
end Go.Ab.S

namespace Go.Ab.S
open Go Go.Ab Go.Proofs
attribute [local irreducible] SemS
set_option maxRecDepth 100000
/-- A function value that tells which messages are kept; its own blocks may turn with each. -/
def FnK (g : FuncId) (caps : List Id) (bs : Nat → List Blk) (a : List Msg) (k : Msg → Bool) : Prop := ∀ i (h : i < a.length), ∀ ls, EvR PR G g ([.agg a[i].row] ++ caps.map fun i => .c (.ptr i 0)) ⟨bs i, ls⟩ (bv (k a[i])) ⟨bs (i + 1), ls⟩
theorem keep_app (l : List Msg) {n : Nat} (hl : l.length = n) (hb : n ≤ 1000) {r : List PV} (hr : r.length = 7) : (true && decide (n = (msgs l).length ∧ 7 = 7 ∧ (n + [r].length) * 56 ≤ 2 ^ 47 ∧ n + [r].length < 2 ^ 62) && [r].all fun r => r.length == 7) = true := by
  rw [Bool.and_eq_true, Bool.and_eq_true]
  refine ⟨⟨rfl, decide_eq_true ⟨by rw [msgs_len, hl], rfl, ?_, ?_⟩⟩, by simp [hr]⟩
  · show (n + 1) * 56 ≤ _; omega
  · show n + 1 < _; omega
set_option maxHeartbeats 1000000 in
theorem box_Let_1_ok (g : FuncId) (caps : List Id) (bs bs' : List Blk) (hcp : ∀ n, caps.all (underI n) = true) (hbs : ∀ n, bs'.all (underB n) = true) (k : Bool) (m : Msg) (hf : ∀ ls, EvR PR G g ([.agg m.row] ++ caps.map fun i => .c (.ptr i 0)) ⟨bs, ls⟩ (bv k) ⟨bs', ls⟩)
    (B0 B2 : List PV) (C2 : List C) (hC2 : C2 = [.p (.int .i64 0), .nils, .nils, .nils]) (R : List PV) (l1 l2 : List Msg) (h1 : l1.length ≤ 1000) (h2 : l2.length ≤ 1000) :
    EvR PR G f_box_Let_1 [.agg m.row, .c (.ptr (.loc 1) 0), .c (.ptr (.loc 3) 0), .c (.ptr (.loc 4) 0)] ⟨bs, [.row B0, .mrow [.fn g caps], .mrow C2, .mrow [.os (.loc 5) l1.length], .mrow [.os (.loc 6) l2.length], .arr 7 false (msgs l1), .arr 7 false (msgs l2), .row R]⟩ (.tup [])
      ⟨bs', [.row B0, .mrow [.fn g caps], .mrow C2, .mrow [.os (.loc 5) (if k then l1 ++ [m] else l1).length], .mrow [.os (.loc 6) (if k then l2 else l2 ++ [m]).length], .arr 7 false (msgs (if k then l1 ++ [m] else l1)), .arr 7 false (msgs (if k then l2 else l2 ++ [m])), .row R]⟩ := by
  subst hC2
  have hu : (underA 8 (.tup []) && underH 8 ⟨bs', [.row B0, .mrow [.fn g caps], .mrow [.p (.int .i64 0), .nils, .nils, .nils], .mrow [.os (.loc 5) (if k then l1 ++ [m] else l1).length], .mrow [.os (.loc 6) (if k then l2 else l2 ++ [m]).length], .arr 7 false (msgs (if k then l1 ++ [m] else l1)), .arr 7 false (msgs (if k then l2 else l2 ++ [m])), .row R]⟩) = true := by
    rw [Bool.and_eq_true]
    refine ⟨rfl, ?_⟩
    unfold underH
    rw [Bool.and_eq_true]
    refine ⟨hbs 8, ?_⟩
    simp only [List.all_cons, List.all_nil, underB, idsC, hcp, underI]
    rfl
  refine EvR.of_wpfC false false hm c_box_Let_1 rfl hu ?_
  refine wpf_seq1 ?_
  conv => whnf
  have a1 := keep_app l1 rfl h1 (r := m.row) rfl
  have a2 := keep_app l2 rfl h2 (r := m.row) rfl
  cases k with
  | true =>
    repeat' ((first | refine brP_t (by assumption) ?_ | refine brP_f (by assumption) ?_ | refine brP_t (decide_eq_true (by omega)) ?_ | refine brP_f (decide_eq_false (by omega)) ?_ | refine brP_t (nd_t (by omega)) ?_ | refine brP_f (nd_f (by omega)) ?_ | refine fBs_mk ?_ | refine callK_r (hf _) ?_ | (refine gd_mk ?_ ?_; focus (exact a1; done)) | refine wpfS_seq1 ?_ | refine wpfS_go ?_ | fail) <;> conv => whnf)
    refine ⟨rfl, ?_⟩
    show (⟨bs', [_, _, _, .mrow [.os (.loc 5) (l1.length + 1)], .mrow [.os (.loc 6) l2.length], .arr 7 false (msgs l1 ++ [m.row]), .arr 7 false (msgs l2), _]⟩ : Hp) = ⟨bs', [_, _, _, .mrow [.os (.loc 5) (l1 ++ [m]).length], .mrow [.os (.loc 6) l2.length], .arr 7 false (msgs (l1 ++ [m])), .arr 7 false (msgs l2), _]⟩
    rw [List.length_append, msgs_app]
    rfl
  | false =>
    repeat' ((first | refine brP_t (by assumption) ?_ | refine brP_f (by assumption) ?_ | refine brP_t (decide_eq_true (by omega)) ?_ | refine brP_f (decide_eq_false (by omega)) ?_ | refine brP_t (nd_t (by omega)) ?_ | refine brP_f (nd_f (by omega)) ?_ | refine fBs_mk ?_ | refine callK_r (hf _) ?_ | (refine gd_mk ?_ ?_; focus (exact a2; done)) | refine wpfS_seq1 ?_ | refine wpfS_go ?_ | fail) <;> conv => whnf)
    refine ⟨rfl, ?_⟩
    show (⟨bs', [_, _, _, .mrow [.os (.loc 5) l1.length], .mrow [.os (.loc 6) (l2.length + 1)], .arr 7 false (msgs l1), .arr 7 false (msgs l2 ++ [m.row]), _]⟩ : Hp) = ⟨bs', [_, _, _, .mrow [.os (.loc 5) l1.length], .mrow [.os (.loc 6) (l2 ++ [m]).length], .arr 7 false (msgs l1), .arr 7 false (msgs (l2 ++ [m])), _]⟩
    rw [List.length_append, msgs_app]
    rfl
theorem letK_take {a : List Msg} {i : Nat} (h : i < a.length) (k : Msg → Bool) : (a.take (i + 1)).filter k = (if k a[i] then (a.take i).filter k ++ [a[i]] else (a.take i).filter k) := by
  rw [List.take_succ_eq_append_getElem h, List.filter_append]
  cases hk : k a[i] <;> simp [hk]
theorem letK_take' {a : List Msg} {i : Nat} (h : i < a.length) (k : Msg → Bool) : ((a.take (i + 1)).filter fun m => !k m) = (if k a[i] then (a.take i).filter fun m => !k m else ((a.take i).filter fun m => !k m) ++ [a[i]]) := by
  rw [List.take_succ_eq_append_getElem h, List.filter_append]
  cases hk : k a[i] <;> simp [hk]
def letH (g : FuncId) (caps : List Id) (bs : List Blk) (n : Int) (q a h l1 l2 : List Msg) : Hp :=
  ⟨bs, [.row [.int .i64 n, .sl (msgs q), .sl (msgs a), .sl (msgs h)], .mrow [.fn g caps], .mrow [.p (.int .i64 0), .nils, .nils, .nils], .mrow [.os (.loc 5) l1.length], .mrow [.os (.loc 6) l2.length], .arr 7 false (msgs l1), .arr 7 false (msgs l2)]⟩
theorem weak_let {g : FuncId} {caps : List Id} (bs : List Blk) {n : Int} {q a h : List Msg} : Weak ⟨bs, [.row [.int .i64 n, .sl (msgs q), .sl (msgs a), .sl (msgs h)], .mrow [.fn g caps], .mrow [.p (.int .i64 0), .nils, .nils, .nils], .mrow [.nils], .mrow [.nils]]⟩ (letH g caps bs n q a h [] []) := by
  have w1 := @Weak.nils ⟨bs, [.row [.int .i64 n, .sl (msgs q), .sl (msgs a), .sl (msgs h)], .mrow [.fn g caps], .mrow [.p (.int .i64 0), .nils, .nils, .nils], .mrow [.nils], .mrow [.nils]]⟩ (.loc 3) [.nils] 0 7 (by decide) rfl rfl
  have w2 := @Weak.nils ⟨bs, [.row [.int .i64 n, .sl (msgs q), .sl (msgs a), .sl (msgs h)], .mrow [.fn g caps], .mrow [.p (.int .i64 0), .nils, .nils, .nils], .mrow [.os (.loc 5) 0], .mrow [.nils], .arr 7 false []]⟩ (.loc 4) [.nils] 0 7 (by decide) rfl rfl
  intro G φ F w S
  exact (Weak.trans @w1 @w2) S
theorem weak_let2 {g : FuncId} {caps : List Id} (bs : List Blk) {n : Int} {q a h l1 l2 : List Msg} : Weak (letH g caps bs n q a h l1 l2)
    ⟨bs, [.row [.int .i64 n, .sl (msgs q), .sl (msgs a), .sl (msgs h)], .mrow [.fn g caps], .mrow [.p (.int .i64 0), .nils, .nils, .nils], .row [.sl (msgs l1)], .row [.sl (msgs l2)], .arr 7 true (msgs l1), .arr 7 true (msgs l2)]⟩ := by
  have f1 : freezeCs (letH g caps bs n q a h l1 l2) [.os (.loc 5) l1.length] = some (true, [.p (.sl (msgs l1))], ⟨bs, [.row [.int .i64 n, .sl (msgs q), .sl (msgs a), .sl (msgs h)], .mrow [.fn g caps], .mrow [.p (.int .i64 0), .nils, .nils, .nils], .mrow [.os (.loc 5) l1.length], .mrow [.os (.loc 6) l2.length], .arr 7 true (msgs l1), .arr 7 false (msgs l2)]⟩) := by
    show some (decide (l1.length = (msgs l1).length) && true, _, _) = _
    rw [decide_eq_true msgs_len.symm]; rfl
  have w1 := @Weak.row _ _ (.loc 3) _ _ [.sl (msgs l1)] (rfl : (letH g caps bs n q a h l1 l2).get (.loc 3) = some (.mrow [.os (.loc 5) l1.length])) f1 rfl rfl
  have f2 : freezeCs ⟨bs, [.row [.int .i64 n, .sl (msgs q), .sl (msgs a), .sl (msgs h)], .mrow [.fn g caps], .mrow [.p (.int .i64 0), .nils, .nils, .nils], .row [.sl (msgs l1)], .mrow [.os (.loc 6) l2.length], .arr 7 true (msgs l1), .arr 7 false (msgs l2)]⟩ [.os (.loc 6) l2.length] = some (true, [.p (.sl (msgs l2))], ⟨bs, [.row [.int .i64 n, .sl (msgs q), .sl (msgs a), .sl (msgs h)], .mrow [.fn g caps], .mrow [.p (.int .i64 0), .nils, .nils, .nils], .row [.sl (msgs l1)], .mrow [.os (.loc 6) l2.length], .arr 7 true (msgs l1), .arr 7 true (msgs l2)]⟩) := by
    show some (decide (l2.length = (msgs l2).length) && true, _, _) = _
    rw [decide_eq_true msgs_len.symm]; rfl
  have w2 := @Weak.row _ _ (.loc 4) _ _ [.sl (msgs l2)] rfl f2 rfl rfl
  intro G φ F w S
  exact (Weak.trans @w1 @w2) S
set_option maxHeartbeats 2000000 in
theorem box_Let_ok (g : FuncId) (caps : List Id) (bs : Nat → List Blk) (hcp : ∀ n, caps.all (underI n) = true) (hbs : ∀ i n, (bs i).all (underB n) = true) (k : Msg → Bool) (b : Bx) (hl : b.len ≤ 19) (hf : FnK g caps bs b.a k) :
    EvR PR G f_box_Let [.agg b.row, .c (.fn g caps)] ⟨bs 0, []⟩ (.agg (b.letK k).row) ⟨bs b.a.length, []⟩ := by
  have hlen : b.len = b.q.length + b.a.length + b.h.length := rfl
  obtain ⟨n, q, a, h⟩ := b
  dsimp only at *
  rw [hlen] at hl
  have hml := msgs_len (l := a)
  show EvR _ _ _ [.agg [.int .i64 n, .sl (msgs q), .sl (msgs a), .sl (msgs h)], _] _ _ _
  refine EvR.of_cut (EvG.of_sem false true c_box_Let rfl ?_) (by show (true && ((bs a.length).all (underB 0) && true)) = true; rw [hbs]; rfl)
  refine SemS.seqS (SemS.of_wpf false hm ?_)
  conv => whnf
  repeat' ((first | refine brP_t (by assumption) ?_ | refine brP_f (by assumption) ?_ | refine brP_t (decide_eq_true (by omega)) ?_ | refine brP_f (decide_eq_false (by omega)) ?_ | refine brP_t (nd_t (by omega)) ?_ | refine brP_f (nd_f (by omega)) ?_ | refine fBs_mk ?_ | refine wpfS_seq1 ?_ | refine wpfS_go ?_ | fail) <;> conv => whnf)
  refine SemS.seqS (SemS.of_wpf false hm ?_)
  conv => whnf
  repeat' ((first | refine brP_t (by assumption) ?_ | refine brP_f (by assumption) ?_ | refine brP_t (decide_eq_true (by omega)) ?_ | refine brP_f (decide_eq_false (by omega)) ?_ | refine brP_t (nd_t (by omega)) ?_ | refine brP_f (nd_f (by omega)) ?_ | refine fBs_mk ?_ | refine wpfS_seq1 ?_ | refine wpfS_go ?_ | fail) <;> conv => whnf)
  refine SemS.weak (H2 := letH g caps (bs 0) n q a h [] []) ?_ ?_
  · exact weak_let (bs 0)
  refine SemS.seqS (SemS.of_wpf false hm ?_)
  conv => whnf
  repeat' ((first | refine brP_t (by assumption) ?_ | refine brP_f (by assumption) ?_ | refine brP_t (decide_eq_true (by omega)) ?_ | refine brP_f (decide_eq_false (by omega)) ?_ | refine brP_t (nd_t (by omega)) ?_ | refine brP_f (nd_f (by omega)) ?_ | refine fBs_mk ?_ | refine wpfS_seq1 ?_ | refine wpfS_go ?_ | fail) <;> conv => whnf)
  refine SemS.seqS (SemS.of_wpf false hm ?_)
  refine wpf_seq1 ?_
  conv => whnf
  repeat' ((first | refine brP_t (by assumption) ?_ | refine brP_f (by assumption) ?_ | refine brP_t (decide_eq_true (by omega)) ?_ | refine brP_f (decide_eq_false (by omega)) ?_ | refine brP_t (nd_t (by omega)) ?_ | refine brP_f (nd_f (by omega)) ?_ | refine fBs_mk ?_ | ((rw [hml])) | refine wpfS_seq1 ?_ | refine wpfS_go ?_ | fail) <;> conv => whnf)
  refine SemS.loopC false hm (σ := Nat) (fun i => [(14, iv i), (13, iv a.length), (12, slv (msgs a)), (7, .c (.fn f_box_Let_1 [.loc 1, .loc 3, .loc 4])), (2, .c (.ptr (.loc 0) 0)), (4, .c (.ptr (.loc 2) 0)), (5, .c (.ptr (.loc 3) 0)), (6, .c (.ptr (.loc 4) 0))])
    (fun i => letH g caps (bs i) n q a h ((a.take i).filter k) ((a.take i).filter fun m => !k m)) (fun i => a.length - i) (fun i => i ≤ a.length) 0 (Nat.zero_le _) ⟨rfl, rfl, rfl, rfl, rfl, rfl, rfl, rfl, trivial⟩ rfl ?_
  intro i hi
  unfold letH
  refine wpf_seq1 ?_
  conv => whnf
  try (refine wpfS_seq1 ?_; conv => whnf)
  refine brP_mk (fun h => ?_) (fun h => ?_)
  · have hi' : i < a.length := by have := of_decide_eq_true h; omega
    clear h
    have hget := msgs_get hi'
    have hw2 : IntKind.i64.wrap ((i : Int) + 1) = ((i + 1 : Nat) : Int) := by rw [wrap64 (by omega)]; rfl
    have hfi := hf i hi'
    have e1 := letK_take hi' k
    have e2 := letK_take' hi' k
    have n1 : ((a.take i).filter k).length ≤ a.length := Nat.le_trans (List.length_filter_le _ _) (by rw [List.length_take]; omega)
    have n2 : ((a.take i).filter fun m => !k m).length ≤ a.length := Nat.le_trans (List.length_filter_le _ _) (by rw [List.length_take]; omega)
    have hb1 := hbs (i + 1)
    generalize hk1 : (a.take (i + 1)).filter k = x1' at *
    generalize hk2 : ((a.take (i + 1)).filter fun m => !k m) = x2' at *
    generalize (a.take i).filter k = x1 at *
    generalize ((a.take i).filter fun m => !k m) = x2 at *
    have hc := box_Let_1_ok g caps (bs i) (bs (i + 1)) hcp hb1 (k a[i]) a[i] hfi [.int .i64 n, .sl (msgs q), .sl (msgs a), .sl (msgs h)] [] _ rfl a[i].row x1 x2 (by omega) (by omega)
    rw [← e1, ← e2] at hc
    generalize a[i] = m at *
    repeat' ((first | refine brP_t (by assumption) ?_ | refine brP_f (by assumption) ?_ | refine brP_t (decide_eq_true (by omega)) ?_ | refine brP_f (decide_eq_false (by omega)) ?_ | refine brP_t (nd_t (by omega)) ?_ | refine brP_f (nd_f (by omega)) ?_ | refine fBs_mk ?_ | ((conv in (opS _ _ _ _) => whnf); rw [Int.toNat_natCast, hget]) | ((conv in (opM _ _ _ _ _) => whnf); (conv in (opS _ _ _ _) => whnf); rw [Int.toNat_natCast, hget]) | refine callK_r hc ?_ | refine wpfS_seq1 ?_ | refine wpfS_go ?_ | fail) <;> conv => whnf)
    rw [hw2]
    refine ⟨i + 1, 7, hi', (show a.length - (i + 1) < a.length - i by omega), ⟨rfl, rfl, rfl, rfl, rfl, rfl, rfl, rfl, trivial⟩, Nat.le_refl _, ?_, rfl, ?_⟩
    · show _ = (⟨bs (i + 1), [_, _, _, .mrow [.os (.loc 5) ((a.take (i + 1)).filter k).length], .mrow [.os (.loc 6) ((a.take (i + 1)).filter fun m => !k m).length], .arr 7 false (msgs ((a.take (i + 1)).filter k)), .arr 7 false (msgs ((a.take (i + 1)).filter fun m => !k m))]⟩ : Hp)
      rw [hk1, hk2]
      rfl
    · dsimp only
      unfold underH
      rw [Bool.and_eq_true]
      refine ⟨hb1 7, ?_⟩
      simp only [List.all_cons, List.all_nil, underB, idsC, hcp, underI]
      rfl
  · have hi' : i = a.length := by have := of_decide_eq_false h; omega
    subst hi'
    clear h
    rw [List.take_length]
    show SemS PR G _ _ _ (letH g caps (bs a.length) n q a h (a.filter k) (a.filter fun m => !k m)) _
    have n1 : (a.filter k).length + (a.filter fun m => !k m).length = a.length := by
      have := (List.filter_append_perm k a).length_eq
      rwa [List.length_append] at this
    have c1 := merge2_ok q (a.filter k) (by omega)
    have c2 := merge2_ok h (a.filter fun m => !k m) (by omega)
    refine SemS.weak (weak_let2 (bs a.length)) (SemS.of_wpf false hm ?_)
    refine wpf_seq1 ?_
    conv => whnf
    have e : ((Bx.mk n q a h).letK k) = ⟨n, isort (q ++ a.filter k), [], isort (h ++ a.filter fun m => !k m)⟩ := rfl
    rw [e]
    generalize a.filter k = l1 at *
    generalize (a.filter fun m => !k m) = l2 at *
    repeat' ((first | refine brP_t (by assumption) ?_ | refine brP_f (by assumption) ?_ | refine brP_t (decide_eq_true (by omega)) ?_ | refine brP_f (decide_eq_false (by omega)) ?_ | refine brP_t (nd_t (by omega)) ?_ | refine brP_f (nd_f (by omega)) ?_ | refine fBs_mk ?_ | refine callK_p c1 ?_ | refine callM_p c1 rfl ?_ | refine callK_pf rfl c1 ?_ | refine callK_p c2 ?_ | refine callM_p c2 rfl ?_ | refine callK_pf rfl c2 ?_ | refine wpfS_seq1 ?_ | refine wpfS_go ?_ | fail) <;> conv => whnf)
    exact ⟨rfl, rfl⟩
end Go.Ab.S
