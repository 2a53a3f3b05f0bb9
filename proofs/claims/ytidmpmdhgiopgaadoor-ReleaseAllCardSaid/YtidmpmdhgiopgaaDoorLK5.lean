/- How rows of messages are merged. No condition. What the program does with mailboxes. No condition. What the program does with mailboxes: rising rows, which may be, putting, taking, each. No condition. -/
import Derived.Test.YtidmpmdhgiopgaaDoorLK2
import Derived.Test.YtidmpmdhgiopgaaDoorLGR
set_option linter.unusedSimpArgs false
set_option linter.unusedVariables false
namespace Go.Ab.S
open Go Go.Ab Go.Proofs
attribute [local irreducible] SemS
set_option maxRecDepth 100000
theorem stable_ok (l : List Msg) (hl : l.length ≤ 19) : EvR PR G f_slices_stableCmpFunc_api_Message [.c (.os (.par 0) l.length), iv l.length, .c (.fn f_box_merge_1 [])] ⟨[.arr 7 false (msgs l)], []⟩ (.tup []) ⟨[.arr 7 false (msgs (isort l))], []⟩ := by
  have h := insertion_ok l (by omega)
  refine EvR.of_wpf false false hm c_slices_stableCmpFunc_api_Message rfl ?_
  refine wpf_seq1 ?_
  conv => whnf
  repeat' ((first | refine brP_t (by assumption) ?_ | refine brP_f (by assumption) ?_ | refine brP_t (decide_eq_true (by omega)) ?_ | refine brP_f (decide_eq_false (by omega)) ?_ | refine brP_t (nd_t (by omega)) ?_ | refine brP_f (nd_f (by omega)) ?_ | refine SemS.loop1 false hm ?_ | refine callK_r (EvR.fr [_] h rfl rfl ⟨rfl, trivial⟩ rfl) ?_ | refine callM_l (LEv.fr [_] h rfl rfl ⟨rfl, trivial⟩ rfl rfl) ?_ | refine callK_rt (EvR.fr [_] h rfl rfl ⟨rfl, trivial⟩ rfl) ?_ | refine callK_rf rfl (EvR.fr [_] h rfl rfl ⟨rfl, trivial⟩ rfl) ?_ | refine callK_rft rfl (EvR.fr [_] h rfl rfl ⟨rfl, trivial⟩ rfl) ?_ | refine wpfS_seq1 ?_ | refine wpfS_go ?_ | fail) <;> conv => whnf)
  exact ⟨rfl, rfl⟩
theorem SortStable_ok (l : List Msg) (hl : l.length ≤ 19) : EvR PR G f_slices_SortStableFunc_api_Message [.c (.os (.par 0) l.length), .c (.fn f_box_merge_1 [])] ⟨[.arr 7 false (msgs l)], []⟩ (.tup []) ⟨[.arr 7 false (msgs (isort l))], []⟩ := by
  have h := stable_ok l hl
  have hml := msgs_len (l := l)
  refine EvR.of_wpf false false hm c_slices_SortStableFunc_api_Message rfl ?_
  conv => whnf
  repeat' ((first | refine brP_t (by assumption) ?_ | refine brP_f (by assumption) ?_ | refine brP_t (decide_eq_true (by omega)) ?_ | refine brP_f (decide_eq_false (by omega)) ?_ | refine brP_t (nd_t (by omega)) ?_ | refine brP_f (nd_f (by omega)) ?_ | refine callK_r (EvR.fr [_] h rfl rfl ⟨rfl, trivial⟩ rfl) ?_ | refine callM_l (LEv.fr [_] h rfl rfl ⟨rfl, trivial⟩ rfl rfl) ?_ | refine callK_rt (EvR.fr [_] h rfl rfl ⟨rfl, trivial⟩ rfl) ?_ | refine callK_rf rfl (EvR.fr [_] h rfl rfl ⟨rfl, trivial⟩ rfl) ?_ | refine callK_rft rfl (EvR.fr [_] h rfl rfl ⟨rfl, trivial⟩ rfl) ?_ | (refine gd_mk ?_ ?_; focus (exact decide_eq_true hml.symm; done)) | ((rw [hml])) | refine wpfS_seq1 ?_ | refine wpfS_go ?_ | fail) <;> conv => whnf)
  exact ⟨rfl, rfl⟩
def rowsM (ls : List (List Msg)) : List (List PV) := ls.map fun l => [.sl (msgs l)]
theorem rowsM_len {ls : List (List Msg)} : (rowsM ls).length = ls.length := by simp [rowsM]
theorem rowsM_get {ls : List (List Msg)} {i : Nat} (h : i < ls.length) : (rowsM ls)[i]? = some [.sl (msgs ls[i])] := by rw [rowsM, List.getElem?_map, List.getElem?_eq_getElem h]; rfl
theorem flat_take1 {ls : List (List Msg)} {i : Nat} (h : i < ls.length) : (ls.take (i + 1)).flatten = (ls.take i).flatten ++ ls[i] := by
  rw [List.take_succ_eq_append_getElem h, List.flatten_append]; simp
theorem flat_le {ls : List (List Msg)} (i : Nat) : (ls.take i).flatten.length ≤ ls.flatten.length := by
  have := congrArg List.length (congrArg List.flatten (List.take_append_drop i ls))
  rw [List.flatten_append, List.length_append] at this
  omega
set_option maxHeartbeats 1000000 in
theorem Concat_ok (ls : List (List Msg)) (hn : ls.length ≤ 100) (hl : ls.flatten.length ≤ 1000) : EvR PR G f_slices_Concat_api_Message [slv (rowsM ls)] ⟨[], []⟩ (.c (.os (.loc 0) ls.flatten.length)) ⟨[], [.arr 7 false (msgs ls.flatten)]⟩ := by
  have hrl := rowsM_len (ls := ls)
  refine EvR.of_wpf false false hm c_slices_Concat_api_Message rfl ?_
  refine wpf_seq1 ?_
  conv => whnf
  repeat' ((first | refine brP_t (by assumption) ?_ | refine brP_f (by assumption) ?_ | refine brP_t (decide_eq_true (by omega)) ?_ | refine brP_f (decide_eq_false (by omega)) ?_ | refine brP_t (nd_t (by omega)) ?_ | refine brP_f (nd_f (by omega)) ?_ | refine wpfS_seq1 ?_ | refine wpfS_go ?_ | fail) <;> conv => whnf)
  refine SemS.loopF false hm (σ := Nat) (fun i => [(11, iv i), (3, iv (ls.take i).flatten.length), (10, iv ls.length), (9, slv (rowsM ls)), (0, slv (rowsM ls))]) (fun _ => ⟨[], []⟩) (fun i => ls.length - i) (fun i => i ≤ ls.length) 0 (Nat.zero_le _) ⟨rfl, rfl, by show iv _ = iv _; rw [hrl], rfl, rfl, trivial⟩ rfl ?_
  intro i hi
  refine wpf_seq1 ?_
  conv => whnf
  try (refine wpfS_seq1 ?_; conv => whnf)
  refine brP_mk (fun h => ?_) (fun h => ?_)
  · have hi' : i < ls.length := by have := of_decide_eq_true h; omega
    clear h
    have hget := rowsM_get hi'
    have hft := flat_take1 hi'
    have hml := msgs_len (l := ls[i])
    have hw2 : IntKind.i64.wrap ((i : Int) + 1) = ((i + 1 : Nat) : Int) := by rw [wrap64 (by omega)]; rfl
    have hle := flat_le (ls := ls) (i + 1)
    have hfl : (ls.take (i + 1)).flatten.length = (ls.take i).flatten.length + ls[i].length := by rw [hft, List.length_append]
    have hw3 : IntKind.i64.wrap (((ls.take i).flatten.length : Int) + (ls[i].length : Int)) = ((ls.take (i + 1)).flatten.length : Int) := by rw [wrap64 (by omega), hfl]; rfl
    clear hft
    generalize ls[i] = x at *
    repeat' ((first | refine brP_t (by assumption) ?_ | refine brP_f (by assumption) ?_ | refine brP_t (decide_eq_true (by omega)) ?_ | refine brP_f (decide_eq_false (by omega)) ?_ | refine brP_t (nd_t (by omega)) ?_ | refine brP_f (nd_f (by omega)) ?_ | ((conv in (opS _ _ _ _) => whnf); rw [Int.toNat_natCast, hget]) | ((conv in (opM _ _ _ _ _) => whnf); (conv in (opS _ _ _ _) => whnf); rw [Int.toNat_natCast, hget]) | ((rw [hml])) | ((rw [hw3])) | ((rw [hw2])) | refine wpfS_seq1 ?_ | refine wpfS_go ?_ | fail) <;> conv => whnf)
    exact ⟨i + 1, hi', (show ls.length - (i + 1) < ls.length - i by omega), ⟨rfl, rfl, rfl, rfl, rfl, trivial⟩, rfl⟩
  · have hi' : i = ls.length := by have := of_decide_eq_false h; omega
    subst hi'
    clear h
    rw [List.take_length]
    have hg := Grow_ok ls.flatten.length hl
    repeat' ((first | refine brP_t (by assumption) ?_ | refine brP_f (by assumption) ?_ | refine brP_t (decide_eq_true (by omega)) ?_ | refine brP_f (decide_eq_false (by omega)) ?_ | refine brP_t (nd_t (by omega)) ?_ | refine brP_f (nd_f (by omega)) ?_ | refine callK_r (EvR.fr [] hg rfl rfl trivial rfl) ?_ | refine callM_l (LEv.fr [] hg rfl rfl trivial rfl rfl) ?_ | refine callK_rt (EvR.fr [] hg rfl rfl trivial rfl) ?_ | refine callK_rf rfl (EvR.fr [] hg rfl rfl trivial rfl) ?_ | refine callK_rft rfl (EvR.fr [] hg rfl rfl trivial rfl) ?_ | refine wpfS_seq1 ?_ | refine wpfS_go ?_ | fail) <;> conv => whnf)
    refine SemS.loopF false hm (σ := Nat) (fun i => [(27, iv i), (6, .c (.os (.loc 0) (ls.take i).flatten.length)), (26, iv ls.length), (25, slv (rowsM ls)), (0, slv (rowsM ls))]) (fun i => ⟨[], [.arr 7 false (msgs (ls.take i).flatten)]⟩) (fun i => ls.length - i) (fun i => i ≤ ls.length) 0 (Nat.zero_le _) ⟨rfl, rfl, by show iv _ = iv _; rw [hrl], rfl, rfl, trivial⟩ rfl ?_
    intro i hi
    refine wpf_seq1 ?_
    conv => whnf
    try (refine wpfS_seq1 ?_; conv => whnf)
    refine brP_mk (fun h => ?_) (fun h => ?_)
    · have hi' : i < ls.length := by have := of_decide_eq_true h; omega
      clear h
      have hget := rowsM_get hi'
      have hft := flat_take1 hi'
      have hml := msgs_len (l := ls[i])
      have hml2 := msgs_len (l := (ls.take i).flatten)
      have hw2 : IntKind.i64.wrap ((i : Int) + 1) = ((i + 1 : Nat) : Int) := by rw [wrap64 (by omega)]; rfl
      have hle := flat_le (ls := ls) (i + 1)
      have hfl : (ls.take (i + 1)).flatten.length = (ls.take i).flatten.length + ls[i].length := by rw [hft, List.length_append]
      have hma : msgs (ls.take (i + 1)).flatten = msgs (ls.take i).flatten ++ msgs ls[i] := by rw [hft, msgs_app]
      have hal := msgs_all ls[i]
      clear hft
      generalize ls[i] = x at *
      repeat' ((first | refine brP_t (by assumption) ?_ | refine brP_f (by assumption) ?_ | refine brP_t (decide_eq_true (by omega)) ?_ | refine brP_f (decide_eq_false (by omega)) ?_ | refine brP_t (nd_t (by omega)) ?_ | refine brP_f (nd_f (by omega)) ?_ | ((conv in (opS _ _ _ _) => whnf); rw [Int.toNat_natCast, hget]) | ((conv in (opM _ _ _ _ _) => whnf); (conv in (opS _ _ _ _) => whnf); rw [Int.toNat_natCast, hget]) | (refine gd_mk ?_ ?_; focus (rw [Bool.and_eq_true, Bool.and_eq_true]; exact ⟨⟨rfl, decide_eq_true ⟨hml2.symm, rfl, by rw [hml]; omega, by rw [hml]; omega⟩⟩, hal⟩; done)) | ((rw [hw2])) | refine wpfS_seq1 ?_ | refine wpfS_go ?_ | fail) <;> conv => whnf)
      refine ⟨i + 1, hi', (show ls.length - (i + 1) < ls.length - i by omega), ⟨rfl, ?_, rfl, rfl, rfl, trivial⟩, ?_⟩
      · show AV.c (.os (.loc 0) _) = AV.c (.os (.loc 0) _)
        rw [hfl, hml]
      · show (⟨[], [.arr 7 false (msgs (ls.take i).flatten ++ msgs x)]⟩ : Hp) = ⟨[], [.arr 7 false (msgs (ls.take (i + 1)).flatten)]⟩
        rw [hma]
    · have hi' : i = ls.length := by have := of_decide_eq_false h; omega
      subst hi'
      clear h
      repeat' ((first | refine brP_t (by assumption) ?_ | refine brP_f (by assumption) ?_ | refine brP_t (decide_eq_true (by omega)) ?_ | refine brP_f (decide_eq_false (by omega)) ?_ | refine brP_t (nd_t (by omega)) ?_ | refine brP_f (nd_f (by omega)) ?_ | refine wpfS_seq1 ?_ | refine wpfS_go ?_ | fail) <;> conv => whnf)
      refine ⟨?_, ?_⟩
      · show AV.c (.os (.loc 0) (ls.take ls.length).flatten.length) = _
        rw [List.take_length]
      · show (⟨[], [.arr 7 false (msgs (ls.take ls.length).flatten)]⟩ : Hp) = _
        rw [List.take_length]
/-- Rows as one, by rising numbers. -/
theorem merge_ok (ls : List (List Msg)) (hn : ls.length ≤ 100) (hl : ls.flatten.length ≤ 19) : EvP PR G f_box_merge [slv (rowsM ls)] (slv (msgs (isort ls.flatten))) := by
  have h1 := Concat_ok ls hn (by omega)
  have h2 := SortStable_ok ls.flatten hl
  have hi : (isort ls.flatten).length = ls.flatten.length := (isort_perm _).length_eq
  have hml := msgs_len (l := isort ls.flatten)
  refine EvP.of_wpf false hm c_box_merge rfl ?_
  conv => whnf
  repeat' ((first | refine brP_t (by assumption) ?_ | refine brP_f (by assumption) ?_ | refine brP_t (decide_eq_true (by omega)) ?_ | refine brP_f (decide_eq_false (by omega)) ?_ | refine brP_t (nd_t (by omega)) ?_ | refine brP_f (nd_f (by omega)) ?_ | refine callK_r (EvR.fr [] h1 rfl rfl trivial rfl) ?_ | refine callM_l (LEv.fr [] h1 rfl rfl trivial rfl rfl) ?_ | refine callK_rt (EvR.fr [] h1 rfl rfl trivial rfl) ?_ | refine callK_rf rfl (EvR.fr [] h1 rfl rfl trivial rfl) ?_ | refine callK_rft rfl (EvR.fr [] h1 rfl rfl trivial rfl) ?_ | refine callK_r (EvR.fr [_] h2 rfl rfl ⟨rfl, trivial⟩ rfl) ?_ | refine callM_l (LEv.fr [_] h2 rfl rfl ⟨rfl, trivial⟩ rfl rfl) ?_ | refine callK_rt (EvR.fr [_] h2 rfl rfl ⟨rfl, trivial⟩ rfl) ?_ | refine callK_rf rfl (EvR.fr [_] h2 rfl rfl ⟨rfl, trivial⟩ rfl) ?_ | refine callK_rft rfl (EvR.fr [_] h2 rfl rfl ⟨rfl, trivial⟩ rfl) ?_ | (refine gd_mk ?_ ?_; focus (rw [Bool.and_true]; exact decide_eq_true (by rw [hml, hi]); done)) | refine wpfS_seq1 ?_ | refine wpfS_go ?_ | fail) <;> conv => whnf)
  rfl
end Go.Ab.S

namespace Go.Ab.S
open Go Go.Ab Go.Proofs
attribute [local irreducible] SemS
set_option maxRecDepth 100000
theorem box_Len_ok (b : Bx) (hl : b.len < 2 ^ 62) : EvP PR G f_box_Len [.agg b.row] (iv b.len) := by
  obtain ⟨n, q, a, h⟩ := b
  have h1 := msgs_len (l := q)
  have h2 := msgs_len (l := a)
  have h3 := msgs_len (l := h)
  unfold Bx.len at hl ⊢
  dsimp only at hl ⊢
  have w1 : IntKind.i64.wrap ((q.length : Int) + (a.length : Int)) = ((q.length + a.length : Nat) : Int) := by rw [wrap64 (by omega)]; rfl
  have w2 : IntKind.i64.wrap (((q.length + a.length : Nat) : Int) + (h.length : Int)) = ((q.length + a.length + h.length : Nat) : Int) := by rw [wrap64 (by omega)]; rfl
  refine EvP.of_wpf false hm c_box_Len rfl ?_
  conv => whnf
  rw [h1, h2, h3, w1, w2]
  rfl
theorem merge2_ok (a b : List Msg) (hl : a.length + b.length ≤ 19) : EvP PR G f_box_merge [slv [[.sl (msgs a)], [.sl (msgs b)]]] (slv (msgs (isort (a ++ b)))) := by
  have e : [a, b].flatten = a ++ b := by simp
  have := merge_ok [a, b] (by simp) (by rw [e, List.length_append]; exact hl)
  rw [e] at this
  exact this
theorem merge3_ok (a b c : List Msg) (hl : a.length + b.length + c.length ≤ 19) : EvP PR G f_box_merge [slv [[.sl (msgs a)], [.sl (msgs b)], [.sl (msgs c)]]] (slv (msgs (isort (a ++ b ++ c)))) := by
  have e : [a, b, c].flatten = a ++ b ++ c := by simp
  have := merge_ok [a, b, c] (by simp) (by rw [e, List.length_append, List.length_append]; exact hl)
  rw [e] at this
  exact this
theorem box_Restore_ok (b : Bx) (hl : b.len ≤ 19) : EvP PR G f_box_Restore [.agg b.row] (.agg b.restore.row) := by
  obtain ⟨n, q, a, h⟩ := b
  have h1 := merge3_ok q a h hl
  refine EvP.of_wpf true hm c_box_Restore rfl ?_
  conv => whnf
  repeat' ((first | refine brP_t (by assumption) ?_ | refine brP_f (by assumption) ?_ | refine brP_t (decide_eq_true (by omega)) ?_ | refine brP_f (decide_eq_false (by omega)) ?_ | refine brP_t (nd_t (by omega)) ?_ | refine brP_f (nd_f (by omega)) ?_ | refine callK_p h1 ?_ | refine callM_p h1 rfl ?_ | refine callK_pf rfl h1 ?_ | refine wpfS_seq1 ?_ | refine wpfS_go ?_ | fail) <;> conv => whnf)
  rfl
theorem box_Same_ok (x y : Bx) (h1 : x.q.length < 2 ^ 63) (h2 : x.a.length < 2 ^ 63) (h3 : x.h.length < 2 ^ 63) : EvP PR G f_box_Same [.agg x.row, .agg y.row] (bv (decide (x = y))) := by
  obtain ⟨n, q, a, h⟩ := x
  obtain ⟨n', q', a', h'⟩ := y
  have c1 := message_Same_ok q q' h1
  have c2 := message_Same_ok a a' h2
  have c3 := message_Same_ok h h' h3
  refine EvP.of_wpf true hm c_box_Same rfl ?_
  conv => whnf
  by_cases e1 : n = n'
  · by_cases e2 : q = q'
    · by_cases e3 : a = a'
      · rw [decide_eq_true e2] at c1
        rw [decide_eq_true e3] at c2
        repeat' ((first | refine brP_t (by assumption) ?_ | refine brP_f (by assumption) ?_ | refine brP_t (decide_eq_true (by omega)) ?_ | refine brP_f (decide_eq_false (by omega)) ?_ | refine brP_t (nd_t (by omega)) ?_ | refine brP_f (nd_f (by omega)) ?_ | refine callK_p c1 ?_ | refine callM_p c1 rfl ?_ | refine callK_pf rfl c1 ?_ | refine callK_p c2 ?_ | refine callM_p c2 rfl ?_ | refine callK_pf rfl c2 ?_ | refine callK_p c3 ?_ | refine callM_p c3 rfl ?_ | refine callK_pf rfl c3 ?_ | refine wpfS_seq1 ?_ | refine wpfS_go ?_ | fail) <;> conv => whnf)
        show bv (decide (h = h')) = _
        subst e1 e2 e3
        simp
      · rw [decide_eq_true e2] at c1
        rw [decide_eq_false e3] at c2
        repeat' ((first | refine brP_t (by assumption) ?_ | refine brP_f (by assumption) ?_ | refine brP_t (decide_eq_true (by omega)) ?_ | refine brP_f (decide_eq_false (by omega)) ?_ | refine brP_t (nd_t (by omega)) ?_ | refine brP_f (nd_f (by omega)) ?_ | refine callK_p c1 ?_ | refine callM_p c1 rfl ?_ | refine callK_pf rfl c1 ?_ | refine callK_p c2 ?_ | refine callM_p c2 rfl ?_ | refine callK_pf rfl c2 ?_ | refine callK_p c3 ?_ | refine callM_p c3 rfl ?_ | refine callK_pf rfl c3 ?_ | refine wpfS_seq1 ?_ | refine wpfS_go ?_ | fail) <;> conv => whnf)
        exact congrArg bv (decide_eq_false (by simp [e3])).symm
    · rw [decide_eq_false e2] at c1
      repeat' ((first | refine brP_t (by assumption) ?_ | refine brP_f (by assumption) ?_ | refine brP_t (decide_eq_true (by omega)) ?_ | refine brP_f (decide_eq_false (by omega)) ?_ | refine brP_t (nd_t (by omega)) ?_ | refine brP_f (nd_f (by omega)) ?_ | refine callK_p c1 ?_ | refine callM_p c1 rfl ?_ | refine callK_pf rfl c1 ?_ | refine callK_p c2 ?_ | refine callM_p c2 rfl ?_ | refine callK_pf rfl c2 ?_ | refine callK_p c3 ?_ | refine callM_p c3 rfl ?_ | refine callK_pf rfl c3 ?_ | refine wpfS_seq1 ?_ | refine wpfS_go ?_ | fail) <;> conv => whnf)
      exact congrArg bv (decide_eq_false (by simp [e2])).symm
  · repeat' ((first | refine brP_t (by assumption) ?_ | refine brP_f (by assumption) ?_ | refine brP_t (decide_eq_true (by omega)) ?_ | refine brP_f (decide_eq_false (by omega)) ?_ | refine brP_t (nd_t (by omega)) ?_ | refine brP_f (nd_f (by omega)) ?_ | refine callK_p c1 ?_ | refine callM_p c1 rfl ?_ | refine callK_pf rfl c1 ?_ | refine callK_p c2 ?_ | refine callM_p c2 rfl ?_ | refine callK_pf rfl c2 ?_ | refine callK_p c3 ?_ | refine callM_p c3 rfl ?_ | refine callK_pf rfl c3 ?_ | refine wpfS_seq1 ?_ | refine wpfS_go ?_ | fail) <;> conv => whnf)
    exact congrArg bv (decide_eq_false (by simp [e1])).symm
theorem R23_Same_ok (x y : Bx) (h1 : x.q.length < 2 ^ 63) (h2 : x.a.length < 2 ^ 63) (h3 : x.h.length < 2 ^ 63) : EvP PR G f_R23_Same [.agg x.row, .agg y.row] (bv (decide (x = y))) := by
  obtain ⟨n, q, a, h⟩ := x
  obtain ⟨n', q', a', h'⟩ := y
  have c1 := R22_Same_ok q q' h1
  have c2 := R22_Same_ok a a' h2
  have c3 := R22_Same_ok h h' h3
  refine EvP.of_wpf true hm c_R23_Same rfl ?_
  conv => whnf
  by_cases e1 : n = n'
  · by_cases e2 : q = q'
    · by_cases e3 : a = a'
      · rw [decide_eq_true e2] at c1
        rw [decide_eq_true e3] at c2
        repeat' ((first | refine brP_t (by assumption) ?_ | refine brP_f (by assumption) ?_ | refine brP_t (decide_eq_true (by omega)) ?_ | refine brP_f (decide_eq_false (by omega)) ?_ | refine brP_t (nd_t (by omega)) ?_ | refine brP_f (nd_f (by omega)) ?_ | refine callK_p c1 ?_ | refine callM_p c1 rfl ?_ | refine callK_pf rfl c1 ?_ | refine callK_p c2 ?_ | refine callM_p c2 rfl ?_ | refine callK_pf rfl c2 ?_ | refine callK_p c3 ?_ | refine callM_p c3 rfl ?_ | refine callK_pf rfl c3 ?_ | refine wpfS_seq1 ?_ | refine wpfS_go ?_ | fail) <;> conv => whnf)
        show bv (decide (h = h')) = _
        subst e1 e2 e3
        simp
      · rw [decide_eq_true e2] at c1
        rw [decide_eq_false e3] at c2
        repeat' ((first | refine brP_t (by assumption) ?_ | refine brP_f (by assumption) ?_ | refine brP_t (decide_eq_true (by omega)) ?_ | refine brP_f (decide_eq_false (by omega)) ?_ | refine brP_t (nd_t (by omega)) ?_ | refine brP_f (nd_f (by omega)) ?_ | refine callK_p c1 ?_ | refine callM_p c1 rfl ?_ | refine callK_pf rfl c1 ?_ | refine callK_p c2 ?_ | refine callM_p c2 rfl ?_ | refine callK_pf rfl c2 ?_ | refine callK_p c3 ?_ | refine callM_p c3 rfl ?_ | refine callK_pf rfl c3 ?_ | refine wpfS_seq1 ?_ | refine wpfS_go ?_ | fail) <;> conv => whnf)
        exact congrArg bv (decide_eq_false (by simp [e3])).symm
    · rw [decide_eq_false e2] at c1
      repeat' ((first | refine brP_t (by assumption) ?_ | refine brP_f (by assumption) ?_ | refine brP_t (decide_eq_true (by omega)) ?_ | refine brP_f (decide_eq_false (by omega)) ?_ | refine brP_t (nd_t (by omega)) ?_ | refine brP_f (nd_f (by omega)) ?_ | refine callK_p c1 ?_ | refine callM_p c1 rfl ?_ | refine callK_pf rfl c1 ?_ | refine callK_p c2 ?_ | refine callM_p c2 rfl ?_ | refine callK_pf rfl c2 ?_ | refine callK_p c3 ?_ | refine callM_p c3 rfl ?_ | refine callK_pf rfl c3 ?_ | refine wpfS_seq1 ?_ | refine wpfS_go ?_ | fail) <;> conv => whnf)
      exact congrArg bv (decide_eq_false (by simp [e2])).symm
  · repeat' ((first | refine brP_t (by assumption) ?_ | refine brP_f (by assumption) ?_ | refine brP_t (decide_eq_true (by omega)) ?_ | refine brP_f (decide_eq_false (by omega)) ?_ | refine brP_t (nd_t (by omega)) ?_ | refine brP_f (nd_f (by omega)) ?_ | refine callK_p c1 ?_ | refine callM_p c1 rfl ?_ | refine callK_pf rfl c1 ?_ | refine callK_p c2 ?_ | refine callM_p c2 rfl ?_ | refine callK_pf rfl c2 ?_ | refine callK_p c3 ?_ | refine callM_p c3 rfl ?_ | refine callK_pf rfl c3 ?_ | refine wpfS_seq1 ?_ | refine wpfS_go ?_ | fail) <;> conv => whnf)
    exact congrArg bv (decide_eq_false (by simp [e1])).symm
def msg0 : Msg := ⟨0, 0, 0, 0, 0, 0, []⟩
end Go.Ab.S

namespace Go.Ab.S
open Go Go.Ab Go.Proofs
attribute [local irreducible] SemS
set_option maxRecDepth 100000
theorem rising_app (next : Int) : ∀ (l r : List Msg) (last : Int), risingB next last (l ++ r) = (risingB next last l && risingB next (l.getLastD ⟨last, 0, 0, 0, 0, 0, []⟩).no r)
  | [], r, last => rfl
  | m :: l, r, last => by
    simp only [List.cons_append, risingB, rising_app next l r m.no, Bool.and_assoc]
    cases l <;> rfl
def lastNo (l : List Msg) : Int := (l.getLastD ⟨-1, 0, 0, 0, 0, 0, []⟩).no
theorem lastNo_snoc {l : List Msg} {m : Msg} : lastNo (l ++ [m]) = m.no := by simp [lastNo]
theorem rising_take {next : Int} {l : List Msg} {i : Nat} (h : i < l.length) : risingB next (-1) (l.take (i + 1)) = (risingB next (-1) (l.take i) && (l[i].fine && (decide (lastNo (l.take i) < l[i].no) && decide (l[i].no < next)))) := by
  rw [List.take_succ_eq_append_getElem h, rising_app]
  simp only [risingB, Bool.and_true]
  rfl
theorem rising_false {next : Int} {l : List Msg} (i : Nat) (h : risingB next (-1) (l.take i) = false) : risingB next (-1) l = false := by
  rw [← List.take_append_drop i l, rising_app, h, Bool.false_and]
set_option maxHeartbeats 1000000 in
theorem box_rising_ok (next : Int) (l : List Msg) (hl : l.length < 2 ^ 62) : EvP PR G f_box_rising [iv next, slv (msgs l)] (bv (risingB next (-1) l)) := by
  have hml := msgs_len (l := l)
  refine EvP.of_wpf false hm c_box_rising rfl ?_
  refine wpf_seq1 ?_
  conv => whnf
  repeat' ((first | refine brP_t (by assumption) ?_ | refine brP_f (by assumption) ?_ | refine brP_t (decide_eq_true (by omega)) ?_ | refine brP_f (decide_eq_false (by omega)) ?_ | refine brP_t (nd_t (by omega)) ?_ | refine brP_f (nd_f (by omega)) ?_ | ((rw [hml])) | refine wpfS_seq1 ?_ | refine wpfS_go ?_ | fail) <;> conv => whnf)
  refine SemS.loopC false hm (σ := Nat) (fun i => [(10, iv i), (5, iv (lastNo (l.take i))), (9, iv l.length), (8, slv (msgs l)), (0, iv next)]) (fun _ => ⟨[], []⟩) (fun i => l.length - i) (fun i => i ≤ l.length ∧ risingB next (-1) (l.take i) = true) 0 ⟨Nat.zero_le _, rfl⟩ ⟨rfl, rfl, rfl, rfl, rfl, trivial⟩ rfl ?_
  rintro i ⟨hi, hr⟩
  refine wpf_seq1 ?_
  conv => whnf
  try (refine wpfS_seq1 ?_; conv => whnf)
  refine brP_mk (fun h => ?_) (fun h => ?_)
  · have hi' : i < l.length := by have := of_decide_eq_true h; omega
    clear h
    have hget := msgs_get hi'
    have hw2 : IntKind.i64.wrap ((i : Int) + 1) = ((i + 1 : Nat) : Int) := by rw [wrap64 (by omega)]; rfl
    have hf := message_Fine_ok l[i]
    have hst := rising_take (next := next) hi'
    have hlast : lastNo (l.take (i + 1)) = l[i].no := by rw [List.take_succ_eq_append_getElem hi', lastNo_snoc]
    rw [hr, Bool.true_and] at hst
    have hff := rising_false (next := next) (l := l) (i + 1)
    generalize l[i] = m at *
    generalize lastNo (l.take i) = last at *
    obtain ⟨no, ep, s, i', role, used, data⟩ := m
    generalize hfm : (Msg.mk no ep s i' role used data).fine = fm at *
    dsimp only at hst hlast
    have hget : (msgs l)[i]? = some [.int .i64 no, .int .i64 ep, .int .u16 s, .int .u16 i', .int .i64 role, .int .u16 used, .str data] := hget
    cases fm with
    | false =>
      repeat' ((first | refine brP_t (by assumption) ?_ | refine brP_f (by assumption) ?_ | refine brP_t (decide_eq_true (by omega)) ?_ | refine brP_f (decide_eq_false (by omega)) ?_ | refine brP_t (nd_t (by omega)) ?_ | refine brP_f (nd_f (by omega)) ?_ | ((conv in (opS _ _ _ _) => whnf); rw [Int.toNat_natCast, hget]) | ((conv in (opM _ _ _ _ _) => whnf); (conv in (opS _ _ _ _) => whnf); rw [Int.toNat_natCast, hget]) | refine callK_p hf ?_ | refine callM_p hf rfl ?_ | refine callK_pf rfl hf ?_ | refine wpfS_seq1 ?_ | refine wpfS_go ?_ | fail) <;> conv => whnf)
      rw [hff (by rw [hst]; rfl)]
      rfl
    | true =>
      by_cases h1 : last < no
      · by_cases h2 : no < next
        · repeat' ((first | refine brP_t (by assumption) ?_ | refine brP_f (by assumption) ?_ | refine brP_t (decide_eq_true (by omega)) ?_ | refine brP_f (decide_eq_false (by omega)) ?_ | refine brP_t (nd_t (by omega)) ?_ | refine brP_f (nd_f (by omega)) ?_ | ((conv in (opS _ _ _ _) => whnf); rw [Int.toNat_natCast, hget]) | ((conv in (opM _ _ _ _ _) => whnf); (conv in (opS _ _ _ _) => whnf); rw [Int.toNat_natCast, hget]) | refine callK_p hf ?_ | refine callM_p hf rfl ?_ | refine callK_pf rfl hf ?_ | refine wpfS_seq1 ?_ | refine wpfS_go ?_ | fail) <;> conv => whnf)
          rw [hw2]
          exact ⟨i + 1, 0, ⟨hi', by rw [hst, decide_eq_true h1, decide_eq_true h2]; rfl⟩, (show l.length - (i + 1) < l.length - i by omega), ⟨rfl, by show iv _ = iv _; rw [hlast], rfl, rfl, rfl, trivial⟩, Nat.le_refl _, rfl, rfl, rfl⟩
        · repeat' ((first | refine brP_t (by assumption) ?_ | refine brP_f (by assumption) ?_ | refine brP_t (decide_eq_true (by omega)) ?_ | refine brP_f (decide_eq_false (by omega)) ?_ | refine brP_t (nd_t (by omega)) ?_ | refine brP_f (nd_f (by omega)) ?_ | ((conv in (opS _ _ _ _) => whnf); rw [Int.toNat_natCast, hget]) | ((conv in (opM _ _ _ _ _) => whnf); (conv in (opS _ _ _ _) => whnf); rw [Int.toNat_natCast, hget]) | refine callK_p hf ?_ | refine callM_p hf rfl ?_ | refine callK_pf rfl hf ?_ | refine wpfS_seq1 ?_ | refine wpfS_go ?_ | fail) <;> conv => whnf)
          rw [hff (by rw [hst, decide_eq_false h2]; simp)]
          rfl
      · repeat' ((first | refine brP_t (by assumption) ?_ | refine brP_f (by assumption) ?_ | refine brP_t (decide_eq_true (by omega)) ?_ | refine brP_f (decide_eq_false (by omega)) ?_ | refine brP_t (nd_t (by omega)) ?_ | refine brP_f (nd_f (by omega)) ?_ | ((conv in (opS _ _ _ _) => whnf); rw [Int.toNat_natCast, hget]) | ((conv in (opM _ _ _ _ _) => whnf); (conv in (opS _ _ _ _) => whnf); rw [Int.toNat_natCast, hget]) | refine callK_p hf ?_ | refine callM_p hf rfl ?_ | refine callK_pf rfl hf ?_ | refine wpfS_seq1 ?_ | refine wpfS_go ?_ | fail) <;> conv => whnf)
        rw [hff (by rw [hst, decide_eq_false h1]; rfl)]
        rfl
  · have hi' : i = l.length := by have := of_decide_eq_false h; omega
    subst hi'
    clear h
    rw [List.take_length] at hr
    repeat' ((first | refine brP_t (by assumption) ?_ | refine brP_f (by assumption) ?_ | refine brP_t (decide_eq_true (by omega)) ?_ | refine brP_f (decide_eq_false (by omega)) ?_ | refine brP_t (nd_t (by omega)) ?_ | refine brP_f (nd_f (by omega)) ?_ | refine wpfS_seq1 ?_ | refine wpfS_go ?_ | fail) <;> conv => whnf)
    rw [hr]
    rfl
set_option maxHeartbeats 1000000 in
theorem box_Fine_ok (b : Bx) (hb : b.len < 2 ^ 61) : EvP PR G f_box_Fine [.agg b.row] (bv b.fine) := by
  have c0 := box_Len_ok b (by omega)
  have hlen : b.len = b.q.length + b.a.length + b.h.length := rfl
  have c1 := box_rising_ok b.next b.q (by omega)
  have c2 := box_rising_ok b.next b.a (by omega)
  have c3 := box_rising_ok b.next b.h (by omega)
  have hfin : b.fine = (decide (b.len ≤ 8) && (decide (0 ≤ b.next) && (decide (b.next ≤ 2147483647) && (risingB b.next (-1) b.q && (risingB b.next (-1) b.a && (risingB b.next (-1) b.h && risingB b.next (-1) (isort b.all))))))) := rfl
  rw [hfin]
  have c4 : b.len ≤ 8 → EvP PR G f_box_merge [slv [[.sl (msgs b.q)], [.sl (msgs b.a)], [.sl (msgs b.h)]]] (slv (msgs (isort b.all))) := fun h => merge3_ok b.q b.a b.h (by omega)
  have hil : b.len ≤ 8 → (isort b.all).length < 2 ^ 62 := fun h => by rw [(isort_perm _).length_eq, b.all_len]; omega
  have c5 : b.len ≤ 8 → EvP PR G f_box_rising [iv b.next, slv (msgs (isort b.all))] (bv (risingB b.next (-1) (isort b.all))) := fun h => box_rising_ok _ _ (hil h)
  generalize isort b.all = X at *
  obtain ⟨n, q, a, h⟩ := b
  dsimp only at *
  generalize (Bx.mk n q a h).len = L at *
  generalize risingB n (-1) q = r1 at *
  generalize risingB n (-1) a = r2 at *
  generalize risingB n (-1) h = r3 at *
  generalize risingB n (-1) X = r4 at *
  show EvP PR G f_box_Fine [.agg [.int .i64 n, .sl (msgs q), .sl (msgs a), .sl (msgs h)]] _
  refine EvP.of_wpf false hm c_box_Fine rfl ?_
  refine wpf_seq1 ?_
  conv => whnf
  by_cases h1 : L ≤ 8
  · have c4 := c4 h1
    have c5 := c5 h1
    rw [decide_eq_true h1]
    by_cases h2 : 0 ≤ n
    · rw [decide_eq_true h2]
      by_cases h3 : n ≤ 2147483647
      · rw [decide_eq_true h3]
        cases r1 with
        | false =>
          repeat' ((first | refine brP_t (by assumption) ?_ | refine brP_f (by assumption) ?_ | refine brP_t (decide_eq_true (by omega)) ?_ | refine brP_f (decide_eq_false (by omega)) ?_ | refine brP_t (nd_t (by omega)) ?_ | refine brP_f (nd_f (by omega)) ?_ | refine callK_p c0 ?_ | refine callM_p c0 rfl ?_ | refine callK_pf rfl c0 ?_ | refine callK_p c1 ?_ | refine callM_p c1 rfl ?_ | refine callK_pf rfl c1 ?_ | refine wpfS_seq1 ?_ | refine wpfS_go ?_ | fail) <;> conv => whnf)
          rfl
        | true =>
          cases r2 with
          | false =>
            repeat' ((first | refine brP_t (by assumption) ?_ | refine brP_f (by assumption) ?_ | refine brP_t (decide_eq_true (by omega)) ?_ | refine brP_f (decide_eq_false (by omega)) ?_ | refine brP_t (nd_t (by omega)) ?_ | refine brP_f (nd_f (by omega)) ?_ | refine callK_p c0 ?_ | refine callM_p c0 rfl ?_ | refine callK_pf rfl c0 ?_ | refine callK_p c1 ?_ | refine callM_p c1 rfl ?_ | refine callK_pf rfl c1 ?_ | refine callK_p c2 ?_ | refine callM_p c2 rfl ?_ | refine callK_pf rfl c2 ?_ | refine wpfS_seq1 ?_ | refine wpfS_go ?_ | fail) <;> conv => whnf)
            rfl
          | true =>
            cases r3 with
            | false =>
              repeat' ((first | refine brP_t (by assumption) ?_ | refine brP_f (by assumption) ?_ | refine brP_t (decide_eq_true (by omega)) ?_ | refine brP_f (decide_eq_false (by omega)) ?_ | refine brP_t (nd_t (by omega)) ?_ | refine brP_f (nd_f (by omega)) ?_ | refine callK_p c0 ?_ | refine callM_p c0 rfl ?_ | refine callK_pf rfl c0 ?_ | refine callK_p c1 ?_ | refine callM_p c1 rfl ?_ | refine callK_pf rfl c1 ?_ | refine callK_p c2 ?_ | refine callM_p c2 rfl ?_ | refine callK_pf rfl c2 ?_ | refine callK_p c3 ?_ | refine callM_p c3 rfl ?_ | refine callK_pf rfl c3 ?_ | refine wpfS_seq1 ?_ | refine wpfS_go ?_ | fail) <;> conv => whnf)
              rfl
            | true =>
              repeat' ((first | refine brP_t (by assumption) ?_ | refine brP_f (by assumption) ?_ | refine brP_t (decide_eq_true (by omega)) ?_ | refine brP_f (decide_eq_false (by omega)) ?_ | refine brP_t (nd_t (by omega)) ?_ | refine brP_f (nd_f (by omega)) ?_ | refine callK_p c0 ?_ | refine callM_p c0 rfl ?_ | refine callK_pf rfl c0 ?_ | refine callK_p c1 ?_ | refine callM_p c1 rfl ?_ | refine callK_pf rfl c1 ?_ | refine callK_p c2 ?_ | refine callM_p c2 rfl ?_ | refine callK_pf rfl c2 ?_ | refine callK_p c3 ?_ | refine callM_p c3 rfl ?_ | refine callK_pf rfl c3 ?_ | refine callK_p c4 ?_ | refine callM_p c4 rfl ?_ | refine callK_pf rfl c4 ?_ | refine callK_p c5 ?_ | refine callM_p c5 rfl ?_ | refine callK_pf rfl c5 ?_ | refine wpfS_seq1 ?_ | refine wpfS_go ?_ | fail) <;> conv => whnf)
              rfl
      · rw [decide_eq_false h3]
        repeat' ((first | refine brP_t (by assumption) ?_ | refine brP_f (by assumption) ?_ | refine brP_t (decide_eq_true (by omega)) ?_ | refine brP_f (decide_eq_false (by omega)) ?_ | refine brP_t (nd_t (by omega)) ?_ | refine brP_f (nd_f (by omega)) ?_ | refine callK_p c0 ?_ | refine callM_p c0 rfl ?_ | refine callK_pf rfl c0 ?_ | refine wpfS_seq1 ?_ | refine wpfS_go ?_ | fail) <;> conv => whnf)
        rfl
    · rw [decide_eq_false h2]
      repeat' ((first | refine brP_t (by assumption) ?_ | refine brP_f (by assumption) ?_ | refine brP_t (decide_eq_true (by omega)) ?_ | refine brP_f (decide_eq_false (by omega)) ?_ | refine brP_t (nd_t (by omega)) ?_ | refine brP_f (nd_f (by omega)) ?_ | refine callK_p c0 ?_ | refine callM_p c0 rfl ?_ | refine callK_pf rfl c0 ?_ | refine wpfS_seq1 ?_ | refine wpfS_go ?_ | fail) <;> conv => whnf)
      rfl
  · rw [decide_eq_false h1]
    repeat' ((first | refine brP_t (by assumption) ?_ | refine brP_f (by assumption) ?_ | refine brP_t (decide_eq_true (by omega)) ?_ | refine brP_f (decide_eq_false (by omega)) ?_ | refine brP_t (nd_t (by omega)) ?_ | refine brP_f (nd_f (by omega)) ?_ | refine callK_p c0 ?_ | refine callM_p c0 rfl ?_ | refine callK_pf rfl c0 ?_ | refine wpfS_seq1 ?_ | refine wpfS_go ?_ | fail) <;> conv => whnf)
    rfl
end Go.Ab.S
