/- How messages are sorted. No condition. -/
import Derived.Test.YtmohadlgjokgmaaBxK1
set_option linter.unusedSimpArgs false
set_option linter.unusedVariables false
namespace Go.Ab.S
open Go Go.Ab Go.Proofs
attribute [local irreducible] SemS
set_option maxRecDepth 100000
def cmpI (a b : Int) : Int := if a < b then -1 else if b < a then 1 else 0
theorem cmp_isNaN_ok (a : Int) : EvP PR G f_cmp_isNaN_int [iv a] (bv false) := by
  refine EvP.of_wpf true hm c_cmp_isNaN_int rfl ?_
  conv => whnf
  show bv (!decide (a = a)) = bv false
  simp
theorem cmp_Compare_ok (a b : Int) : EvP PR G f_cmp_Compare_int [iv a, iv b] (iv (cmpI a b)) := by
  refine EvP.of_wpf true hm c_cmp_Compare_int rfl ?_
  conv => whnf
  unfold cmpI
  by_cases h1 : a < b
  · rw [if_pos h1]
    repeat' ((first | refine brP_t (by assumption) ?_ | refine brP_f (by assumption) ?_ | refine brP_t (decide_eq_true (by omega)) ?_ | refine brP_f (decide_eq_false (by omega)) ?_ | refine brP_t (nd_t (by omega)) ?_ | refine brP_f (nd_f (by omega)) ?_ | refine callK_p (cmp_isNaN_ok _) ?_ | refine callM_p (cmp_isNaN_ok _) rfl ?_ | refine callK_pf rfl (cmp_isNaN_ok _) ?_ | refine wpfS_seq1 ?_ | refine wpfS_go ?_ | fail) <;> conv => whnf)
    rfl
  · rw [if_neg h1]
    by_cases h2 : b < a
    · rw [if_pos h2]
      repeat' ((first | refine brP_t (by assumption) ?_ | refine brP_f (by assumption) ?_ | refine brP_t (decide_eq_true (by omega)) ?_ | refine brP_f (decide_eq_false (by omega)) ?_ | refine brP_t (nd_t (by omega)) ?_ | refine brP_f (nd_f (by omega)) ?_ | refine callK_p (cmp_isNaN_ok _) ?_ | refine callM_p (cmp_isNaN_ok _) rfl ?_ | refine callK_pf rfl (cmp_isNaN_ok _) ?_ | refine wpfS_seq1 ?_ | refine wpfS_go ?_ | fail) <;> conv => whnf)
      rfl
    · rw [if_neg h2]
      repeat' ((first | refine brP_t (by assumption) ?_ | refine brP_f (by assumption) ?_ | refine brP_t (decide_eq_true (by omega)) ?_ | refine brP_f (decide_eq_false (by omega)) ?_ | refine brP_t (nd_t (by omega)) ?_ | refine brP_f (nd_f (by omega)) ?_ | refine callK_p (cmp_isNaN_ok _) ?_ | refine callM_p (cmp_isNaN_ok _) rfl ?_ | refine callK_pf rfl (cmp_isNaN_ok _) ?_ | refine wpfS_seq1 ?_ | refine wpfS_go ?_ | fail) <;> conv => whnf)
      rfl
theorem box_merge_1_ok (a b : Msg) : EvP PR G f_box_merge_1 [.agg a.row, .agg b.row] (iv (cmpI a.no b.no)) := by
  have h := cmp_Compare_ok a.no b.no
  refine EvP.of_wpf true hm c_box_merge_1 rfl ?_
  conv => whnf
  repeat' ((first | refine brP_t (by assumption) ?_ | refine brP_f (by assumption) ?_ | refine brP_t (decide_eq_true (by omega)) ?_ | refine brP_f (decide_eq_false (by omega)) ?_ | refine brP_t (nd_t (by omega)) ?_ | refine brP_f (nd_f (by omega)) ?_ | refine callK_p h ?_ | refine callM_p h rfl ?_ | refine callK_pf rfl h ?_ | refine wpfS_seq1 ?_ | refine wpfS_go ?_ | fail) <;> conv => whnf)
  rfl
theorem get_mid {A B : List Msg} {m : Msg} : (msgs (A ++ m :: B))[A.length]? = some m.row := by
  rw [msgs, List.getElem?_map, List.getElem?_append_right (Nat.le_refl _), Nat.sub_self]; rfl
theorem set_mid {A B : List Msg} {m x : Msg} : (msgs (A ++ m :: B)).set A.length x.row = msgs (A ++ x :: B) := by
  rw [msgs, msgs, ← List.map_set, List.set_append_right _ _ (Nat.le_refl _), Nat.sub_self]; rfl
theorem sortR_take {l : List Msg} {k : Nat} (h : k < l.length) : sortR [] (l.take (k + 1)) = insR l[k] (sortR [] (l.take k)) := by
  rw [List.take_succ_eq_append_getElem h, sortR, List.foldl_append]; rfl
theorem sortR_len (l : List Msg) : (sortR [] l).length = l.length := by
  have := (sortR_perm l []).length_eq
  rwa [List.append_nil] at this
/-- Two neighbours change places. -/
theorem swap_get {r d tl : List Msg} {m x : Msg} {n : Nat} (hn : r.length + (d.length + tl.length) + 2 = n) :
    ∃ ES, msgs ((x :: r).reverse ++ m :: (d ++ tl)) = ES ∧ ES.length = n ∧ ES[r.length + 1]? = some m.row ∧ ES[r.length]? = some x.row ∧ (ES.set (r.length + 1) x.row)[r.length]? = some x.row ∧
      ((ES.set (r.length + 1) x.row).set r.length m.row) = msgs (r.reverse ++ m :: (x :: d ++ tl)) := by
  refine ⟨_, rfl, ?_, ?_, ?_, ?_, ?_⟩
  · rw [msgs_len]; simp; omega
  · have := get_mid (A := (x :: r).reverse) (m := m) (B := d ++ tl)
    rwa [List.length_reverse] at this
  · have := get_mid (A := r.reverse) (m := x) (B := m :: (d ++ tl))
    rw [List.length_reverse] at this
    rw [← this]; simp
  · rw [List.getElem?_set_ne (by omega)]
    have := get_mid (A := r.reverse) (m := x) (B := m :: (d ++ tl))
    rw [List.length_reverse] at this
    rw [← this]; simp
  · have h1 := set_mid (A := (x :: r).reverse) (m := m) (x := x) (B := d ++ tl)
    rw [List.length_reverse, List.length_cons] at h1
    rw [h1]
    have h2 := set_mid (A := r.reverse) (m := x) (x := m) (B := x :: (d ++ tl))
    rw [List.length_reverse] at h2
    rw [show (x :: r).reverse ++ x :: (d ++ tl) = r.reverse ++ x :: (x :: (d ++ tl)) by simp, h2]
    simp
theorem row_put {a b : Msg} : putAt a.row 0 b.row = b.row := put_all rfl
set_option maxHeartbeats 1000000 in
theorem insertion_ok (l : List Msg) (hl : l.length ≤ 100) : EvR PR G f_slices_insertionSortCmpFunc_api_Message [.c (.os (.par 0) l.length), iv 0, iv l.length, .c (.fn f_box_merge_1 [])] ⟨[.arr 7 false (msgs l)], []⟩ (.tup []) ⟨[.arr 7 false (msgs (isort l))], []⟩ := by
  refine EvR.of_wpf false false hm c_slices_insertionSortCmpFunc_api_Message rfl ?_
  refine wpf_seq1 ?_
  conv => whnf
  repeat' ((first | refine brP_t (by assumption) ?_ | refine brP_f (by assumption) ?_ | refine brP_t (decide_eq_true (by omega)) ?_ | refine brP_f (decide_eq_false (by omega)) ?_ | refine brP_t (nd_t (by omega)) ?_ | refine brP_f (nd_f (by omega)) ?_ | refine wpfS_seq1 ?_ | refine wpfS_go ?_ | fail) <;> conv => whnf)
  refine SemS.loopF false hm (σ := Nat) (fun k => [(8, iv k), (0, .c (.os (.par 0) l.length)), (1, iv 0), (2, iv l.length), (3, .c (.fn f_box_merge_1 []))]) (fun k => ⟨[.arr 7 false (msgs ((sortR [] (l.take k)).reverse ++ l.drop k))], []⟩) (fun k => l.length + 1 - k) (fun k => 1 ≤ k ∧ k ≤ l.length + 1) 1 ⟨Nat.le_refl _, by omega⟩ ⟨rfl, rfl, rfl, rfl, rfl, trivial⟩ ?_ ?_
  · cases l with
    | nil => rfl
    | cons m l => rfl
  rintro k ⟨hk1, hk2⟩
  refine wpf_seq1 ?_
  conv => whnf
  try (refine wpfS_seq1 ?_; conv => whnf)
  refine brP_mk (fun h => ?_) (fun h => ?_)
  · have hk : k < l.length := by have := of_decide_eq_true h; omega
    clear h
    have hst := sortR_take hk
    have hR := sortR_len (l.take k)
    rw [List.length_take, Nat.min_eq_left (by omega)] at hR
    have hdl : (l.drop (k + 1)).length + (k + 1) = l.length := by rw [List.length_drop]; omega
    rw [List.drop_eq_getElem_cons hk]
    have hw2 : IntKind.i64.wrap ((k : Int) + 1) = ((k + 1 : Nat) : Int) := by rw [wrap64 (by omega)]; rfl
    generalize hm0 : l[k] = m at *
    generalize hR0 : sortR [] (l.take k) = R at *
    generalize ht0 : l.drop (k + 1) = tl at *
    repeat' ((first | refine brP_t (by assumption) ?_ | refine brP_f (by assumption) ?_ | refine brP_t (decide_eq_true (by omega)) ?_ | refine brP_f (decide_eq_false (by omega)) ?_ | refine brP_t (nd_t (by omega)) ?_ | refine brP_f (nd_f (by omega)) ?_ | refine wpfS_seq1 ?_ | refine wpfS_go ?_ | fail) <;> conv => whnf)
    refine SemS.loopF false hm (σ := List Msg × List Msg) (fun s => [(9, iv s.1.length), (8, iv k), (0, .c (.os (.par 0) l.length)), (1, iv 0), (2, iv l.length), (3, .c (.fn f_box_merge_1 []))]) (fun s => ⟨[.arr 7 false (msgs (s.1.reverse ++ m :: (s.2 ++ tl)))], []⟩) (fun s => s.1.length) (fun s => (insR m s.1).reverse ++ s.2 = (insR m R).reverse ∧ s.1.length + s.2.length = k) (R, []) ⟨by simp, by simp [hR]⟩ ⟨by show iv _ = iv _; rw [hR], rfl, rfl, rfl, rfl, rfl, trivial⟩ rfl ?_
    rintro ⟨r, d⟩ ⟨hi, hr⟩
    dsimp only at hi hr
    cases r with
    | nil =>
      conv => whnf
      repeat' ((first | refine brP_t (by assumption) ?_ | refine brP_f (by assumption) ?_ | refine brP_t (decide_eq_true (by omega)) ?_ | refine brP_f (decide_eq_false (by omega)) ?_ | refine brP_t (nd_t (by omega)) ?_ | refine brP_f (nd_f (by omega)) ?_ | refine wpfS_seq1 ?_ | refine wpfS_go ?_ | fail) <;> conv => whnf)
      rw [hw2]
      refine ⟨k + 1, ⟨by omega, by omega⟩, (show l.length + 1 - (k + 1) < l.length + 1 - k by omega), ⟨rfl, rfl, rfl, rfl, rfl, trivial⟩, ?_⟩
      show (⟨[.arr 7 false (msgs ([] ++ m :: (d ++ tl)))], []⟩ : Hp) = ⟨[.arr 7 false (msgs ((sortR [] (l.take (k + 1))).reverse ++ l.drop (k + 1)))], []⟩
      rw [hst, ht0, ← hi]
      rfl
    | cons x r =>
      have hr' : r.length + 1 + d.length = k := hr
      obtain ⟨ES, hE, hEl, hg1, hg2, hg3, hfin⟩ := swap_get (r := r) (d := d) (tl := tl) (m := m) (x := x) (n := l.length) (by omega)
      have hw : IntKind.i64.wrap (((r.length + 1 : Nat) : Int) - 1) = (r.length : Int) := by rw [wrap64 (by omega)]; omega
      have hc := box_merge_1_ok m x
      have hgt : decide (((r.length + 1 : Nat) : Int) > 0) = true := decide_eq_true (by omega)
      show wpf _ _ _ _ _ [(9, iv ((r.length + 1 : Nat) : Int)), _, _, _, _, _] ⟨[.arr 7 false (msgs ((x :: r).reverse ++ m :: (d ++ tl)))], []⟩ _
      rw [hE]
      unfold cmpI at hc
      by_cases hx : m.no < x.no
      · rw [if_pos hx] at hc
        have hins : insR m (x :: r) = x :: insR m r := if_pos hx
        rw [hins, List.reverse_cons, List.append_assoc] at hi
        conv => whnf
        have hg4 : (ES.set (r.length + 1) (putAt m.row 0 (List.take 7 (List.drop 0 x.row))))[r.length]? = some x.row := hg3
        repeat' ((first | refine brP_t (by assumption) ?_ | refine brP_f (by assumption) ?_ | refine brP_t (decide_eq_true (by omega)) ?_ | refine brP_f (decide_eq_false (by omega)) ?_ | refine brP_t (nd_t (by omega)) ?_ | refine brP_f (nd_f (by omega)) ?_ | ((conv in (opS _ _ _ _) => whnf); rw [Int.toNat_natCast, hg1]) | ((conv in (opM _ _ _ _ _) => whnf); (conv in (opS _ _ _ _) => whnf); rw [Int.toNat_natCast, hg1]) | ((conv in (opS _ _ _ _) => whnf); rw [Int.toNat_natCast, hg2]) | ((conv in (opM _ _ _ _ _) => whnf); (conv in (opS _ _ _ _) => whnf); rw [Int.toNat_natCast, hg2]) | ((rw [hw])) | refine callK_rt (EvP.toR hc _) ?_ | ((conv in (opS _ _ _ _) => whnf); rw [Int.toNat_natCast, hg4]) | ((conv in (opM _ _ _ _ _) => whnf); (conv in (opS _ _ _ _) => whnf); rw [Int.toNat_natCast, hg4]) | (refine gd_mk ?_ ?_; focus (exact decide_eq_true ⟨rfl, Nat.le_refl 7, hEl.symm⟩; done)) | (refine gd_mk ?_ ?_; focus (exact decide_eq_true ⟨by omega, by omega, rfl, by rw [List.length_set]; exact hEl.symm⟩; done)) | (refine gd_mk ?_ ?_; focus (exact decide_eq_true ⟨rfl, Nat.le_refl 7, by rw [List.length_set]; exact hEl.symm⟩; done)) | refine wpfS_seq1 ?_ | refine wpfS_go ?_ | fail) <;> conv => whnf)
        refine ⟨(r, x :: d), ⟨by rw [← hi]; simp, by show r.length + (d.length + 1) = k; omega⟩, (show r.length < r.length + 1 by omega), ⟨rfl, rfl, rfl, rfl, rfl, rfl, trivial⟩, ?_⟩
        show (⟨[.arr 7 false ((ES.set (r.length + 1) x.row).set r.length m.row)], []⟩ : Hp) = _
        rw [hfin]
      · have hins : insR m (x :: r) = m :: x :: r := if_neg hx
        rw [hins] at hi
        rw [if_neg hx] at hc
        have hc2 : ∃ z, EvP PR G f_box_merge_1 [.agg m.row, .agg x.row] (iv z) ∧ decide (z < 0) = false := by
          split at hc
          · exact ⟨_, hc, rfl⟩
          · exact ⟨_, hc, rfl⟩
        clear hc
        obtain ⟨z, hc, hz⟩ := hc2
        conv => whnf
        repeat' ((first | refine brP_t (by assumption) ?_ | refine brP_f (by assumption) ?_ | refine brP_t (decide_eq_true (by omega)) ?_ | refine brP_f (decide_eq_false (by omega)) ?_ | refine brP_t (nd_t (by omega)) ?_ | refine brP_f (nd_f (by omega)) ?_ | ((conv in (opS _ _ _ _) => whnf); rw [Int.toNat_natCast, hg1]) | ((conv in (opM _ _ _ _ _) => whnf); (conv in (opS _ _ _ _) => whnf); rw [Int.toNat_natCast, hg1]) | ((conv in (opS _ _ _ _) => whnf); rw [Int.toNat_natCast, hg2]) | ((conv in (opM _ _ _ _ _) => whnf); (conv in (opS _ _ _ _) => whnf); rw [Int.toNat_natCast, hg2]) | ((rw [hw])) | refine callK_rt (EvP.toR hc _) ?_ | refine wpfS_seq1 ?_ | refine wpfS_go ?_ | fail) <;> conv => whnf)
        rw [hw2]
        refine ⟨k + 1, ⟨by omega, by omega⟩, (show l.length + 1 - (k + 1) < l.length + 1 - k by omega), ⟨rfl, rfl, rfl, rfl, rfl, trivial⟩, ?_⟩
        show (⟨[.arr 7 false ES], []⟩ : Hp) = ⟨[.arr 7 false (msgs ((sortR [] (l.take (k + 1))).reverse ++ l.drop (k + 1)))], []⟩
        rw [hst, ht0, ← hi, ← hE]
        simp
  · have hk : l.length ≤ k := by have := of_decide_eq_false h; omega
    clear h
    conv => whnf
    refine ⟨rfl, ?_⟩
    show (⟨[.arr 7 false (msgs ((sortR [] (l.take k)).reverse ++ l.drop k))], []⟩ : Hp) = _
    rw [List.take_of_length_le hk, List.drop_of_length_le hk, List.append_nil]
    rfl
end Go.Ab.S
