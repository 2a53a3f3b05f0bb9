/- The document's mailboxes: which may be, letting go, each. No condition. -/
import Derived.Test.YtmohadlgjokgmaaBxK12
set_option linter.unusedSimpArgs false
set_option linter.unusedVariables false
namespace Go.Ab.S
open Go Go.Ab Go.Proofs
attribute [local irreducible] SemS
set_option maxRecDepth 100000
theorem lastNo_take {l : List Msg} {i : Nat} (h : i < l.length) : lastNo (l.take (i + 1)) = l[i].no := by rw [List.take_succ_eq_append_getElem h, lastNo_snoc]
def boolsR (l : List Bool) : List (List PV) := l.map fun b => [.bool b]
theorem boolsR_len {l : List Bool} : (boolsR l).length = l.length := by simp [boolsR]
theorem boolsR_get {a : List Msg} {k : Msg → Bool} {i : Nat} (h : i < a.length) : (boolsR (a.map k))[i]? = some [.bool (k a[i])] := by
  rw [boolsR, List.map_map, List.getElem?_map, List.getElem?_eq_getElem h]; rfl
theorem both_snoc (a b : List Msg) (m : Msg) : both a (b ++ [m]) = insF m (both a b) := by rw [both, List.foldl_append]; rfl
set_option maxHeartbeats 2000000 in
theorem R23_Let_raw (b : Bx) (k : Msg → Bool) (hl : b.len ≤ 100) : EvP PR G f_R23_Let [.agg b.row, slv (boolsR (b.a.map k))] (.agg (Bx.mk b.next (both b.q (b.a.filter k)) [] (both b.h (b.a.filter fun m => !k m))).row) := by
  have hlen : b.len = b.q.length + b.a.length + b.h.length := rfl
  obtain ⟨n, q, a, h⟩ := b
  dsimp only at *
  rw [hlen] at hl
  have hal := msgs_len (l := a)
  show EvP PR G f_R23_Let [.agg [.int .i64 n, .sl (msgs q), .sl (msgs a), .sl (msgs h)], _] _
  refine EvP.of_wpf false hm c_R23_Let rfl ?_
  refine wpf_seq1 ?_
  conv => whnf
  repeat' ((first | refine brP_t (by assumption) ?_ | refine brP_f (by assumption) ?_ | refine brP_t (decide_eq_true (by omega)) ?_ | refine brP_f (decide_eq_false (by omega)) ?_ | refine brP_t (nd_t (by omega)) ?_ | refine brP_f (nd_f (by omega)) ?_ | refine wpfS_seq1 ?_ | refine wpfS_go ?_ | fail) <;> conv => whnf)
  refine SemS.loopF false hm (σ := Nat) (fun i => [(5, iv i), (2, .c (.ptr (.loc 0) 0)), (4, .c (.ptr (.loc 1) 0)), (1, slv (boolsR (a.map k)))])
    (fun i => ⟨[], [.row [.int .i64 n, .sl (msgs (both q ((a.take i).filter k))), .sl (msgs a), .sl (msgs (both h ((a.take i).filter fun m => !k m)))], .mrow [.p (.int .i64 0), .nils, .nils, .nils]]⟩) (fun i => a.length - i) (fun i => i ≤ a.length) 0 (Nat.zero_le _) ⟨rfl, rfl, rfl, rfl, trivial⟩ rfl ?_
  intro i hi
  refine wpf_seq1 ?_
  conv => whnf
  rw [hal]
  refine brP_mk (fun h => ?_) (fun h => ?_)
  · have hi' : i < a.length := by have := of_decide_eq_true h; omega
    clear h
    have hget := msgs_get hi'
    have hgb := boolsR_get (k := k) hi'
    have hw2 : IntKind.i64.wrap ((i : Int) + 1) = ((i + 1 : Nat) : Int) := by rw [wrap64 (by omega)]; rfl
    have e1 := letK_take hi' k
    have e2 := letK_take' hi' k
    have n1 : ((a.take i).filter k).length ≤ a.length := Nat.le_trans (List.length_filter_le _ _) (by rw [List.length_take]; omega)
    have n2 : ((a.take i).filter fun m => !k m).length ≤ a.length := Nat.le_trans (List.length_filter_le _ _) (by rw [List.length_take]; omega)
    have c1 := R23_in_ok (both q ((a.take i).filter k)) a[i] (by rw [both_len]; omega)
    have c2 := R23_in_ok (both h ((a.take i).filter fun m => !k m)) a[i] (by rw [both_len]; omega)
    rw [← both_snoc] at c1 c2
    cases hk : k a[i] with
    | true =>
      rw [hk, if_pos rfl] at e1 e2
      rw [← e1] at c1
      rw [hk] at hgb
      generalize a[i] = m at *
      repeat' ((first | refine brP_t (by assumption) ?_ | refine brP_f (by assumption) ?_ | refine brP_t (decide_eq_true (by omega)) ?_ | refine brP_f (decide_eq_false (by omega)) ?_ | refine brP_t (nd_t (by omega)) ?_ | refine brP_f (nd_f (by omega)) ?_ | ((rw [hal])) | ((conv in (opS _ _ _ _) => whnf); rw [Int.toNat_natCast, hget]) | ((conv in (opM _ _ _ _ _) => whnf); (conv in (opS _ _ _ _) => whnf); rw [Int.toNat_natCast, hget]) | ((conv in (opS _ _ _ _) => whnf); rw [Int.toNat_natCast, hgb]) | ((conv in (opM _ _ _ _ _) => whnf); (conv in (opS _ _ _ _) => whnf); rw [Int.toNat_natCast, hgb]) | refine callK_p c1 ?_ | refine callM_p c1 rfl ?_ | refine callK_pf rfl c1 ?_ | ((rw [hw2])) | refine wpfS_seq1 ?_ | refine wpfS_go ?_ | fail) <;> conv => whnf)
      refine ⟨i + 1, hi', (show a.length - (i + 1) < a.length - i by omega), ⟨rfl, rfl, rfl, rfl, trivial⟩, ?_⟩
      show _ = (⟨[], [.row [_, _, _, .sl (msgs (both h ((a.take (i + 1)).filter fun m => !k m)))], _]⟩ : Hp)
      rw [e2]; rfl
    | false =>
      rw [hk, if_neg (by decide)] at e1 e2
      rw [← e2] at c2
      rw [hk] at hgb
      generalize a[i] = m at *
      repeat' ((first | refine brP_t (by assumption) ?_ | refine brP_f (by assumption) ?_ | refine brP_t (decide_eq_true (by omega)) ?_ | refine brP_f (decide_eq_false (by omega)) ?_ | refine brP_t (nd_t (by omega)) ?_ | refine brP_f (nd_f (by omega)) ?_ | ((rw [hal])) | ((conv in (opS _ _ _ _) => whnf); rw [Int.toNat_natCast, hget]) | ((conv in (opM _ _ _ _ _) => whnf); (conv in (opS _ _ _ _) => whnf); rw [Int.toNat_natCast, hget]) | ((conv in (opS _ _ _ _) => whnf); rw [Int.toNat_natCast, hgb]) | ((conv in (opM _ _ _ _ _) => whnf); (conv in (opS _ _ _ _) => whnf); rw [Int.toNat_natCast, hgb]) | refine callK_p c2 ?_ | refine callM_p c2 rfl ?_ | refine callK_pf rfl c2 ?_ | ((rw [hw2])) | refine wpfS_seq1 ?_ | refine wpfS_go ?_ | fail) <;> conv => whnf)
      refine ⟨i + 1, hi', (show a.length - (i + 1) < a.length - i by omega), ⟨rfl, rfl, rfl, rfl, trivial⟩, ?_⟩
      show _ = (⟨[], [.row [_, .sl (msgs (both q ((a.take (i + 1)).filter k))), _, _], _]⟩ : Hp)
      rw [e1]; rfl
  · have hi' : i = a.length := by have := of_decide_eq_false h; omega
    subst hi'
    clear h
    rw [List.take_length]
    repeat' ((first | refine brP_t (by assumption) ?_ | refine brP_f (by assumption) ?_ | refine brP_t (decide_eq_true (by omega)) ?_ | refine brP_f (decide_eq_false (by omega)) ?_ | refine brP_t (nd_t (by omega)) ?_ | refine brP_f (nd_f (by omega)) ?_ | refine wpfS_seq1 ?_ | refine wpfS_go ?_ | fail) <;> conv => whnf)
    rfl
theorem R23_Let_ok (b : Bx) (k : Msg → Bool) (hg : b.Good) : EvP PR G f_R23_Let [.agg b.row, slv (boolsR (b.a.map k))] (.agg (b.letK k).row) := by
  have := R23_Let_raw b k (Nat.le_trans hg.len (by decide))
  obtain ⟨d1, d2⟩ := hg.let_dif k
  rw [both_eq hg.q.le d1, both_eq hg.h.le d2] at this
  exact this
theorem Roles_app {n : Nat} {es : List (List PV)} {x : Bool} (h1 : n = es.length) (h2 : es.length ≤ 100000) : (true && decide (n = es.length ∧ 1 = 1 ∧ (n + [[PV.bool x]].length) * 1 ≤ 2 ^ 47 ∧ n + [[PV.bool x]].length < 2 ^ 62) && [[PV.bool x]].all fun r => r.length == 1) = true := by
  rw [Bool.and_eq_true, Bool.and_eq_true]
  exact ⟨⟨rfl, decide_eq_true ⟨h1, rfl, by show (n + 1) * 1 ≤ _; omega, by show n + 1 < _; omega⟩⟩, rfl⟩
set_option maxHeartbeats 1000000 in
theorem R23_Roles_ok (b : Bx) (role : Int) (hl : b.a.length ≤ 1000) : EvP PR G f_R23_Roles [.agg b.row, iv role] (slv (boolsR (b.a.map fun m => decide (m.role = role)))) := by
  obtain ⟨n, q, a, h⟩ := b
  dsimp only at *
  have hal := msgs_len (l := a)
  show EvP PR G f_R23_Roles [.agg [.int .i64 n, .sl (msgs q), .sl (msgs a), .sl (msgs h)], _] _
  refine EvP.of_wpf false hm c_R23_Roles rfl ?_
  refine wpf_seq1 ?_
  conv => whnf
  repeat' ((first | refine brP_t (by assumption) ?_ | refine brP_f (by assumption) ?_ | refine brP_t (decide_eq_true (by omega)) ?_ | refine brP_f (decide_eq_false (by omega)) ?_ | refine brP_t (nd_t (by omega)) ?_ | refine brP_f (nd_f (by omega)) ?_ | refine wpfS_seq1 ?_ | refine wpfS_go ?_ | fail) <;> conv => whnf)
  refine SemS.nilT 5 1 (by decide) rfl ?_
  refine SemS.loopF false hm (σ := Nat) (fun i => [(6, iv i), (5, .c (.os (.loc 1) i)), (2, .c (.ptr (.loc 0) 0)), (1, iv role)])
    (fun i => ⟨[], [.row [.int .i64 n, .sl (msgs q), .sl (msgs a), .sl (msgs h)], .arr 1 false (boolsR ((a.take i).map fun m => decide (m.role = role)))]⟩) (fun i => a.length - i) (fun i => i ≤ a.length) 0 (Nat.zero_le _) ⟨rfl, rfl, rfl, rfl, trivial⟩ rfl ?_
  intro i hi
  refine wpf_seq1 ?_
  conv => whnf
  rw [hal]
  refine brP_mk (fun h => ?_) (fun h => ?_)
  · have hi' : i < a.length := by have := of_decide_eq_true h; omega
    clear h
    have hget := msgs_get hi'
    have hw2 : IntKind.i64.wrap ((i : Int) + 1) = ((i + 1 : Nat) : Int) := by rw [wrap64 (by omega)]; rfl
    have hbl : (boolsR ((a.take i).map fun m => decide (m.role = role))).length = i := by rw [boolsR_len, List.length_map, List.length_take]; omega
    have htk : boolsR ((a.take (i + 1)).map fun m => decide (m.role = role)) = boolsR ((a.take i).map fun m => decide (m.role = role)) ++ [[.bool (decide (a[i].role = role))]] := by
      rw [List.take_succ_eq_append_getElem hi', List.map_append, boolsR, boolsR, List.map_append]; rfl
    generalize a[i] = m at *
    repeat' ((first | refine brP_t (by assumption) ?_ | refine brP_f (by assumption) ?_ | refine brP_t (decide_eq_true (by omega)) ?_ | refine brP_f (decide_eq_false (by omega)) ?_ | refine brP_t (nd_t (by omega)) ?_ | refine brP_f (nd_f (by omega)) ?_ | ((rw [hal])) | ((conv in (opS _ _ _ _) => whnf); rw [Int.toNat_natCast, hget]) | ((conv in (opM _ _ _ _ _) => whnf); (conv in (opS _ _ _ _) => whnf); rw [Int.toNat_natCast, hget]) | (refine gd_mk ?_ ?_; focus (exact Roles_app hbl.symm (by omega); done)) | ((rw [hw2])) | refine wpfS_seq1 ?_ | refine wpfS_go ?_ | fail) <;> conv => whnf)
    refine ⟨i + 1, hi', (show a.length - (i + 1) < a.length - i by omega), ⟨rfl, rfl, rfl, rfl, trivial⟩, ?_⟩
    show _ = (⟨[], [_, .arr 1 false (boolsR ((a.take (i + 1)).map fun m => decide (m.role = role)))]⟩ : Hp)
    rw [htk]
  · have hi' : i = a.length := by have := of_decide_eq_false h; omega
    subst hi'
    clear h
    rw [List.take_length]
    have hbl : (boolsR (a.map fun m => decide (m.role = role))).length = a.length := by rw [boolsR_len, List.length_map]
    repeat' ((first | refine brP_t (by assumption) ?_ | refine brP_f (by assumption) ?_ | refine brP_t (decide_eq_true (by omega)) ?_ | refine brP_f (decide_eq_false (by omega)) ?_ | refine brP_t (nd_t (by omega)) ?_ | refine brP_f (nd_f (by omega)) ?_ | (refine gd_mk ?_ ?_; focus (rw [Bool.and_true]; exact decide_eq_true hbl.symm; done)) | refine wpfS_seq1 ?_ | refine wpfS_go ?_ | fail) <;> conv => whnf)
    rfl
def epM (e : Int) (m : Msg) : Msg := { m with ep := e }
set_option maxHeartbeats 1000000 in
theorem R23_Each_ok (b : Bx) (e : Int) (hl : b.q.length ≤ 1000) : EvP PR G f_R23_Each [.agg b.row, iv e] (.agg (b.each (epM e)).row) := by
  obtain ⟨n, q, a, h⟩ := b
  dsimp only at *
  have hql := msgs_len (l := q)
  show EvP PR G f_R23_Each [.agg [.int .i64 n, .sl (msgs q), .sl (msgs a), .sl (msgs h)], _] (.agg [.int .i64 n, .sl (msgs (q.map (epM e))), .sl (msgs a), .sl (msgs h)])
  refine EvP.of_wpf false hm c_R23_Each rfl ?_
  refine wpf_seq1 ?_
  conv => whnf
  repeat' ((first | refine brP_t (by assumption) ?_ | refine brP_f (by assumption) ?_ | refine brP_t (decide_eq_true (by omega)) ?_ | refine brP_f (decide_eq_false (by omega)) ?_ | refine brP_t (nd_t (by omega)) ?_ | refine brP_f (nd_f (by omega)) ?_ | refine wpfS_seq1 ?_ | refine wpfS_go ?_ | fail) <;> conv => whnf)
  refine SemS.nilT 5 7 (by decide) rfl ?_
  refine SemS.loopC false hm (σ := Nat) (fun i => [(6, iv i), (5, .c (.os (.loc 2) i)), (2, .c (.ptr (.loc 0) 0)), (4, .c (.ptr (.loc 1) 0)), (1, iv e)])
    (fun i => ⟨[], [.row [.int .i64 n, .sl (msgs q), .sl (msgs a), .sl (msgs h)], .mrow [.p (.int .i64 0), .nils, .nils, .nils], .arr 7 false (msgs ((q.take i).map (epM e)))]⟩) (fun i => q.length - i) (fun i => i ≤ q.length) 0 (Nat.zero_le _) ⟨rfl, rfl, rfl, rfl, rfl, trivial⟩ rfl ?_
  intro i hi
  refine wpf_seq1 ?_
  conv => whnf
  rw [hql]
  refine brP_mk (fun h => ?_) (fun h => ?_)
  · have hi' : i < q.length := by have := of_decide_eq_true h; omega
    clear h
    have hget := msgs_get hi'
    have hw2 : IntKind.i64.wrap ((i : Int) + 1) = ((i + 1 : Nat) : Int) := by rw [wrap64 (by omega)]; rfl
    have hbl : (msgs ((q.take i).map (epM e))).length = i := by rw [msgs_len, List.length_map, List.length_take]; omega
    have htk : msgs ((q.take (i + 1)).map (epM e)) = msgs ((q.take i).map (epM e)) ++ [(epM e q[i]).row] := by
      rw [List.take_succ_eq_append_getElem hi', List.map_append, msgs_app]; rfl
    generalize q[i] = m at *
    obtain ⟨no, ep, s, i', role, used, data⟩ := m
    have hget : (msgs q)[i]? = some [.int .i64 no, .int .i64 ep, .int .u16 s, .int .u16 i', .int .i64 role, .int .u16 used, .str data] := hget
    repeat' ((first | refine brP_t (by assumption) ?_ | refine brP_f (by assumption) ?_ | refine brP_t (decide_eq_true (by omega)) ?_ | refine brP_f (decide_eq_false (by omega)) ?_ | refine brP_t (nd_t (by omega)) ?_ | refine brP_f (nd_f (by omega)) ?_ | ((rw [hql])) | ((conv in (opS _ _ _ _) => whnf); rw [Int.toNat_natCast, hget]) | ((conv in (opM _ _ _ _ _) => whnf); (conv in (opS _ _ _ _) => whnf); rw [Int.toNat_natCast, hget]) | (refine gd_mk ?_ ?_; focus (exact app_ok hbl.symm (by rw [hbl]; show _ + 1 ≤ _; omega) rfl; done)) | ((rw [hw2])) | refine wpfS_seq1 ?_ | refine wpfS_go ?_ | fail) <;> conv => whnf)
    refine ⟨i + 1, 3, hi', (show q.length - (i + 1) < q.length - i by omega), ⟨rfl, rfl, rfl, rfl, rfl, trivial⟩, Nat.le_refl _, ?_, rfl, rfl⟩
    show _ = (⟨[], [_, _, .arr 7 false (msgs ((q.take (i + 1)).map (epM e)))]⟩ : Hp)
    rw [htk]; rfl
  · have hi' : i = q.length := by have := of_decide_eq_false h; omega
    subst hi'
    clear h
    rw [List.take_length]
    have hbl : (msgs (q.map (epM e))).length = q.length := by rw [msgs_len, List.length_map]
    repeat' ((first | refine brP_t (by assumption) ?_ | refine brP_f (by assumption) ?_ | refine brP_t (decide_eq_true (by omega)) ?_ | refine brP_f (decide_eq_false (by omega)) ?_ | refine brP_t (nd_t (by omega)) ?_ | refine brP_f (nd_f (by omega)) ?_ | (refine gd_mk ?_ ?_; focus (simp [hbl]; done)) | refine wpfS_seq1 ?_ | refine wpfS_go ?_ | fail) <;> conv => whnf)
    rfl
end Go.Ab.S
