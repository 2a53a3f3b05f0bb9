/- How rows of messages are merged. No condition. What the program does with mailboxes. No condition. What the program does with mailboxes: rising rows, which may be, putting, taking, each. No condition. -/
import Derived.Test.YtidmpmdhgiopgaaDoorLK2
import Derived.Test.YtidmpmdhgiopgaaDoorLGR
set_option linter.unusedSimpArgs false
set_option linter.unusedVariables false
namespace Go.Ab.S
open Go Go.Ab Go.Proofs
attribute [local irreducible] SemS
set_option maxRecDepth 100000
theorem stable_ok (l : List Msg) (hl : l.length ≤ 19) : EvR PR G f_slices_stableCmpFunc_api_Message [.c (.os (.par 0) l.length), iv l.length, .c (.fn f_box_merge_1 [])] ⟨[.arr 7 false (msgs l)], []⟩ (.tup []) ⟨[.arr 7 false (msgs (isort l))], []⟩ := by
  have h := insertion_ok l (by omega)
  refine EvR.of_wpf false false hm c_slices_stableCmpFunc_api_Message rfl ?_
  refine wpf_seq1 ?_
  conv => whnf
  repeat' ((first | refine brP_t (by assumption) ?_ | refine brP_f (by assumption) ?_ | refine brP_t (decide_eq_true (by omega)) ?_ | refine brP_f (decide_eq_false (by omega)) ?_ | refine brP_t (nd_t (by omega)) ?_ | refine brP_f (nd_f (by omega)) ?_ | refine SemS.loop1 false hm ?_ | refine callK_r (EvR.fr [_] h rfl rfl ⟨rfl, trivial⟩ rfl) ?_ | refine callM_l (LEv.fr [_] h rfl rfl ⟨rfl, trivial⟩ rfl rfl) ?_ | refine callK_rt (EvR.fr [_] h rfl rfl ⟨rfl, trivial⟩ rfl) ?_ | refine callK_rf rfl (EvR.fr [_] h rfl rfl ⟨rfl, trivial⟩ rfl) ?_ | refine callK_rft rfl (EvR.fr [_] h rfl rfl ⟨rfl, trivial⟩ rfl) ?_ | refine wpfS_seq1 ?_ | refine wpfS_go ?_ | fail) <;> conv => whnf)
  exact ⟨rfl, rfl⟩
theorem SortStable_ok (l : List Msg) (hl : l.length ≤ 19) : EvR PR G f_slices_SortStableFunc_api_Message [.c (.os (.par 0) l.length), .c (.fn f_box_merge_1 [])] ⟨[.arr 7 false (msgs l)], []⟩ (.tup []) ⟨[.arr 7 false (msgs (isort l))], []⟩ := by
  have h := stable_ok l hl
  have hml := msgs_len (l := l)
  refine EvR.of_wpf false false hm c_slices_SortStableFunc_api_Message rfl ?_
  conv => whnf
  repeat' ((first | refine brP_t (by assumption) ?_ | refine brP_f (by assumption) ?_ | refine brP_t (decide_eq_true (by omega)) ?_ | refine brP_f (decide_eq_false (by omega)) ?_ | refine brP_t (nd_t (by omega)) ?_ | refine brP_f (nd_f (by omega)) ?_ | refine callK_r (EvR.fr [_] h rfl rfl ⟨rfl, trivial⟩ rfl) ?_ | refine callM_l (LEv.fr [_] h rfl rfl ⟨rfl, trivial⟩ rfl rfl) ?_ | refine callK_rt (EvR.fr [_] h rfl rfl ⟨rfl, trivial⟩ rfl) ?_ | refine callK_rf rfl (EvR.fr [_] h rfl rfl ⟨rfl, trivial⟩ rfl) ?_ | refine callK_rft rfl (EvR.fr [_] h rfl rfl ⟨rfl, trivial⟩ rfl) ?_ | (refine gd_mk ?_ ?_; focus (exact decide_eq_true hml.symm; done)) | ((rw [hml])) | refine wpfS_seq1 ?_ | refine wpfS_go ?_ | fail) <;> conv => whnf)
  exact ⟨rfl, rfl⟩
def rowsM (ls : List (List Msg)) : List (List PV) := ls.map fun l => [.sl (msgs l)]
theorem rowsM_len {ls : List (List Msg)} : (rowsM ls).length = ls.length := by simp [rowsM]
theorem rowsM_get {ls : List (List Msg)} {i : Nat} (h : i < ls.length) : (rowsM ls)[i]? = some [.sl (msgs ls[i])] := by rw [rowsM, List.getElem?_map, List.getElem?_eq_getElem h]; rfl
theorem flat_take1 {ls : List (List Msg)} {i : Nat} (h : i < ls.length) : (ls.take (i + 1)).flatten = (ls.take i).flatten ++ ls[i] := by
  rw [List.take_succ_eq_append_getElem h, List.flatten_append]; simp
theorem flat_le {ls : List (List Msg)} (i : Nat) : (ls.take i).flatten.length ≤ ls.flatten.length := by
  have := congrArg List.length (congrArg List.flatten (List.take_append_drop i ls))
  rw [List.flatten_append, List.length_append] at this
  omega
set_option maxHeartbeats 1000000 in
theorem Concat_ok (ls : List (List Msg)) (hn : ls.length ≤ 100) (hl : ls.flatten.length ≤ 1000) : EvR PR G f_slices_Concat_api_Message [slv (rowsM ls)] ⟨[], []⟩ (.c (.os (.loc 0) ls.flatten.length)) ⟨[], [.arr 7 false (msgs ls.flatten)]⟩ := by
  have hrl := rowsM_len (ls := ls)
  refine EvR.of_wpf false false hm c_slices_Concat_api_Message rfl ?_
  refine wpf_seq1 ?_
  conv => whnf
  repeat' ((first | refine brP_t (by assumption) ?_ | refine brP_f (by assumption) ?_ | refine brP_t (decide_eq_true (by omega)) ?_ | refine brP_f (decide_eq_false (by omega)) ?_ | refine brP_t (nd_t (by omega)) ?_ | refine brP_f (nd_f (by omega)) ?_ | refine wpfS_seq1 ?_ | refine wpfS_go ?_ | fail) <;> conv => whnf)
  refine SemS.loopF false hm (σ := Nat) (fun i => [(11, iv i), (3, iv (ls.take i).flatten.length), (10, iv ls.length), (9, slv (rowsM ls)), (0, slv (rowsM ls))]) (fun _ => ⟨[], []⟩) (fun i => ls.length - i) (fun i => i ≤ ls.length) 0 (Nat.zero_le _) ⟨rfl, rfl, by show iv _ = iv _; rw [hrl], rfl, rfl, trivial⟩ rfl ?_
  intro i hi
  refine wpf_seq1 ?_
  conv => whnf
  try (refine wpfS_seq1 ?_; conv => whnf)
  refine brP_mk (fun h => ?_) (fun h => ?_)
  · have hi' : i < ls.length := by have := of_decide_eq_true h; omega
    clear h
    have hget := rowsM_get hi'
    have hft := flat_take1 hi'
    have hml := msgs_len (l := ls[i])
    have hw2 : IntKind.i64.wrap ((i : Int) + 1) = ((i + 1 : Nat) : Int) := by rw [wrap64 (by omega)]; rfl
    have hle := flat_le (ls := ls) (i + 1)
    have hfl : (ls.take (i + 1)).flatten.length = (ls.take i).flatten.length + ls[i].length := by rw [hft, List.length_append]
    have hw3 : IntKind.i64.wrap (((ls.take i).flatten.length : Int) + (ls[i].length : Int)) = ((ls.take (i + 1)).flatten.length : Int) := by rw [wrap64 (by omega), hfl]; rfl
    clear hft
    generalize ls[i] = x at *
    repeat' ((first | refine brP_t (by assumption) ?_ | refine brP_f (by assumption) ?_ | refine brP_t (decide_eq_true (by omega)) ?_ | refine brP_f (decide_eq_false (by omega)) ?_ | refine brP_t (nd_t (by omega)) ?_ | refine brP_f (nd_f (by omega)) ?_ | ((conv in (opS _ _ _ _) => whnf); rw [Int.toNat_natCast, hget]) | ((conv in (opM _ _ _ _ _) => whnf); (conv in (opS _ _ _ _) => whnf); rw [Int.toNat_natCast, hget]) | ((rw [hml])) | ((rw [hw3])) | ((rw [hw2])) | refine wpfS_seq1 ?_ | refine wpfS_go ?_ | fail) <;> conv => whnf)
    exact ⟨i + 1, hi', (show ls.length - (i + 1) < ls.length - i by omega), ⟨rfl, rfl, rfl, rfl, rfl, trivial⟩, rfl⟩
  · have hi' : i = ls.length := by have := of_decide_eq_false h; omega
    subst hi'
    clear h
    rw [List.take_length]
    have hg := Grow_ok ls.flatten.length hl
    repeat' ((first | refine brP_t (by assumption) ?_ | refine brP_f (by assumption) ?_ | refine brP_t (decide_eq_true (by omega)) ?_ | refine brP_f (decide_eq_false (by omega)) ?_ | refine brP_t (nd_t (by omega)) ?_ | refine brP_f (nd_f (by omega)) ?_ | refine callK_r (EvR.fr [] hg rfl rfl trivial rfl) ?_ | refine callM_l (LEv.fr [] hg rfl rfl trivial rfl rfl) ?_ | refine callK_rt (EvR.fr [] hg rfl rfl trivial rfl) ?_ | refine callK_rf rfl (EvR.fr [] hg rfl rfl trivial rfl) ?_ | refine callK_rft rfl (EvR.fr [] hg rfl rfl trivial rfl) ?_ | refine wpfS_seq1 ?_ | refine wpfS_go ?_ | fail) <;> conv => whnf)
    refine SemS.loopF false hm (σ := Nat) (fun i => [(27, iv i), (6, .c (.os (.loc 0) (ls.take i).flatten.length)), (26, iv ls.length), (25, slv (rowsM ls)), (0, slv (rowsM ls))]) (fun i => ⟨[], [.arr 7 false (msgs (ls.take i).flatten)]⟩) (fun i => ls.length - i) (fun i => i ≤ ls.length) 0 (Nat.zero_le _) ⟨rfl, rfl, by show iv _ = iv _; rw [hrl], rfl, rfl, trivial⟩ rfl ?_
    intro i hi
    refine wpf_seq1 ?_
    conv => whnf
    try (refine wpfS_seq1 ?_; conv => whnf)
    refine brP_mk (fun h => ?_) (fun h => ?_)
    · have hi' : i < ls.length := by have := of_decide_eq_true h; omega
      clear h
      have hget := rowsM_get hi'
      have hft := flat_take1 hi'
      have hml := msgs_len (l := ls[i])
      have hml2 := msgs_len (l := (ls.take i).flatten)
      have hw2 : IntKind.i64.wrap ((i : Int) + 1) = ((i + 1 : Nat) : Int) := by rw [wrap64 (by omega)]; rfl
      have hle := flat_le (ls := ls) (i + 1)
      have hfl : (ls.take (i + 1)).flatten.length = (ls.take i).flatten.length + ls[i].length := by rw [hft, List.length_append]
      have hma : msgs (ls.take (i + 1)).flatten = msgs (ls.take i).flatten ++ msgs ls[i] := by rw [hft, msgs_app]
      have hal := msgs_all ls[i]
      clear hft
      generalize ls[i] = x at *
      repeat' ((first | refine brP_t (by assumption) ?_ | refine brP_f (by assumption) ?_ | refine brP_t (decide_eq_true (by omega)) ?_ | refine brP_f (decide_eq_false (by omega)) ?_ | refine brP_t (nd_t (by omega)) ?_ | refine brP_f (nd_f (by omega)) ?_ | ((conv in (opS _ _ _ _) => whnf); rw [Int.toNat_natCast, hget]) | ((conv in (opM _ _ _ _ _) => whnf); (conv in (opS _ _ _ _) => whnf); rw [Int.toNat_natCast, hget]) | (refine gd_mk ?_ ?_; focus (rw [Bool.and_eq_true, Bool.and_eq_true]; exact ⟨⟨rfl, decide_eq_true ⟨hml2.symm, rfl, by rw [hml]; omega, by rw [hml]; omega⟩⟩, hal⟩; done)) | ((rw [hw2])) | refine wpfS_seq1 ?_ | refine wpfS_go ?_ | fail) <;> conv => whnf)
      refine ⟨i + 1, hi', (show ls.length - (i + 1) < ls.length - i by omega), ⟨rfl, ?_, rfl, rfl, rfl, trivial⟩, ?_⟩
      · show AV.c (.os (.loc 0) _) = AV.c (.os (.loc 0) _)
        rw [hfl, hml]
      · show (⟨[], [.arr 7 false (msgs (ls.take i).flatten ++ msgs x)]⟩ : Hp) = ⟨[], [.arr 7 false (msgs (ls.take (i + 1)).flatten)]⟩
        rw [hma]
    · have hi' : i = ls.length := by have := of_decide_eq_false h; omega
      subst hi'
      clear h
      repeat' ((first | refine brP_t (by assumption) ?_ | refine brP_f (by assumption) ?_ | refine brP_t (decide_eq_true (by omega)) ?_ | refine brP_f (decide_eq_false (by omega)) ?_ | refine brP_t (nd_t (by omega)) ?_ | refine brP_f (nd_f (by omega)) ?_ | refine wpfS_seq1 ?_ | refine wpfS_go ?_ | fail) <;> conv => whnf)
      refine ⟨?_, ?_⟩
      · show AV.c (.os (.loc 0) (ls.take ls.length).flatten.length) = _
        rw [List.take_length]
      · show (⟨[], [.arr 7 false (msgs (ls.take ls.length).flatten)]⟩ : Hp) = _
        rw [List.take_length]
/-- Rows as one, by rising numbers. -/
theorem merge_ok (ls : List (List Msg)) (hn : ls.length ≤ 100) (hl : ls.flatten.length ≤ 19) : EvP PR G f_box_merge [slv (rowsM ls)] (slv (msgs (isort ls.flatten))) := by
  have h1 := Concat_ok ls hn (by omega)
  have h2 := SortStable_ok ls.flatten hl
  have hi : (isort ls.flatten).length = ls.flatten.length := (isort_perm _).length_eq
  have hml := msgs_len (l := isort ls.flatten)
  refine EvP.of_wpf false hm c_box_merge rfl ?_
  conv => whnf
  repeat' ((first | refine brP_t (by assumption) ?_ | refine brP_f (by assumption) ?_ | refine brP_t (decide_eq_true (by omega)) ?_ | refine brP_f (decide_eq_false (by omega)) ?_ | refine brP_t (nd_t (by omega)) ?_ | refine brP_f (nd_f (by omega)) ?_ | refine callK_r (EvR.fr [] h1 rfl rfl trivial rfl) ?_ | refine callM_l (LEv.fr [] h1 rfl rfl trivial rfl rfl) ?_ | refine callK_rt (EvR.fr [] h1 rfl rfl trivial rfl) ?_ | refine callK_rf rfl (EvR.fr [] h1 rfl rfl trivial rfl) ?_ | refine callK_rft rfl (EvR.fr [] h1 rfl rfl trivial rfl) ?_ | refine callK_r (EvR.fr [_] h2 rfl rfl ⟨rfl, trivial⟩ rfl) ?_ | refine callM_l (LEv.fr [_] h2 rfl rfl ⟨rfl, trivial⟩ rfl rfl) ?_ | refine callK_rt (EvR.fr [_] h2 rfl rfl ⟨rfl, trivial⟩ rfl) ?_ | refine callK_rf rfl (EvR.fr [_] h2 rfl rfl ⟨rfl, trivial⟩ rfl) ?_ | refine callK_rft rfl (EvR.fr [_] h2 rfl rfl ⟨rfl, trivial⟩ rfl) ?_ | (refine gd_mk ?_ ?_; focus (rw [Bool.and_true]; exact decide_eq_true (by rw [hml, hi]); done)) | refine wpfS_seq1 ?_ | refine wpfS_go ?_ | fail) <;> conv => whnf)
  rfl
end Go.Ab.S

namespace Go.Ab.S
open Go Go.Ab Go.Proofs
attribute [local irreducible] SemS
set_option maxRecDepth 100000
theorem merge2_ok (a b : List Msg) (hl : a.length + b.length ≤ 19) : EvP PR G f_box_merge [slv [[.sl (msgs a)], [.sl (msgs b)]]] (slv (msgs (isort (a ++ b)))) := by
  have e : [a, b].flatten = a ++ b := by simp
  have := merge_ok [a, b] (by simp) (by rw [e, List.length_append]; exact hl)
  rw [e] at this
  exact this
def msg0 : Msg := ⟨0, 0, 0, 0, 0, 0, []⟩
end Go.Ab.S

namespace Go.Ab.S
open Go Go.Ab Go.Proofs
attribute [local irreducible] SemS
set_option maxRecDepth 100000
def lastNo (l : List Msg) : Int := (l.getLastD ⟨-1, 0, 0, 0, 0, 0, []⟩).no
end Go.Ab.S
