/- Messages are taken in the order in which they were put. No condition. -/
import Derived.Test.YtmohadlgjokgmaaBxK9
set_option linter.unusedSimpArgs false
set_option linter.unusedVariables false
namespace Go.Ab.S
open Go Go.Ab Go.Proofs
attribute [local irreducible] SemS
set_option maxRecDepth 100000
/-- An empty mailbox that one has laid. -/
theorem weak_bx0 (H : Hp) (id : Id) (hg : H.get id = some (.mrow [.p (.int .i64 0), .nils, .nils, .nils])) : Weak H (H.set id (.row [.int .i64 0, .sl [], .sl [], .sl []])) := @Weak.row H H id _ _ [.int .i64 0, .sl [], .sl [], .sl []] hg rfl hg rfl
def strsR (l : List (List UInt8)) : List (List PV) := l.map fun s => [.str s]
theorem strsR_len {l : List (List UInt8)} : (strsR l).length = l.length := by simp [strsR]
theorem strsR_get {l : List (List UInt8)} {i : Nat} (h : i < l.length) : (strsR l)[i]? = some [.str l[i]] := by rw [strsR, List.getElem?_map, List.getElem?_eq_getElem h]; rfl
theorem strsR_snoc (l : List (List UInt8)) (s : List UInt8) : strsR (l ++ [s]) = strsR l ++ [[.str s]] := by simp [strsR]
theorem app_ok1 {n : Nat} {es new : List (List PV)} (h1 : n = es.length) (h2 : es.length + new.length ≤ 100000) (h3 : (new.all fun r => r.length == 1) = true) : (true && decide (n = es.length ∧ 1 = 1 ∧ (n + new.length) * 16 ≤ 2 ^ 47 ∧ n + new.length < 2 ^ 62) && new.all fun r => r.length == 1) = true := by
  rw [h3, Bool.and_true, Bool.true_and]
  exact decide_eq_true ⟨h1, rfl, by omega, by omega⟩
def smsg (s : List UInt8) : Msg := ⟨0, 0, 0, 0, 0, 0, s⟩
/-- A mailbox in which all wait. -/
def qbox (n : Nat) (q : List Msg) : Bx := ⟨n, q, [], []⟩
theorem qbox_len (n : Nat) (q : List Msg) : (qbox n q).len = q.length := by simp [qbox, Bx.len]
theorem put_q {n : Nat} {q : List Msg} {m : Msg} (hq : q.length < 8) (hn : n ≤ 1000) : putR (qbox n q) m = (qbox (n + 1) (q ++ [{ m with no := n }]), 0) := by
  unfold putR
  rw [qbox_len, if_neg (by show ¬ (8 ≤ q.length ∨ 2147483647 ≤ (n : Int)); omega)]
  rfl
theorem put_full {n : Nat} {q : List Msg} {m : Msg} (hq : 8 ≤ q.length) : putR (qbox n q) m = (Bx.emp, 12) := by
  unfold putR
  rw [qbox_len, if_pos (.inl hq)]
theorem take_q {n : Nat} {q1 q : List Msg} {m : Msg} (h : q1 = m :: q) (hq : q1.length ≤ 1000) : EvP PR G f_box_Take [.agg (qbox n q1).row] (.tup [.agg (qbox n q).row, .agg m.row, iv 0]) := by
  subst h
  have := box_Take_ok (qbox n (m :: q)) hq
  have e1 : takeR (qbox n (m :: q)) = qbox n q := by unfold takeR; rw [if_neg (by simp [qbox])]; rfl
  have e2 : (if (qbox n (m :: q)).q = [] then (13 : Int) else 0) = 0 := if_neg (by simp [qbox])
  rw [e1, e2] at this
  exact this
def ordT (l : List (List UInt8)) (i : Nat) (w g : List (List UInt8)) : Tm := [(6, iv i), (4, .c (.os (.loc 1) w.length)), (5, .c (.os (.loc 2) g.length)), (3, .c (.ptr (.loc 0) 0)), (0, slv (strsR l))]
def ordH (n : Nat) (q : List Msg) (w g : List (List UInt8)) : Hp := ⟨[], [.row [.int .i64 n, .sl (msgs q), .sl [], .sl []], .arr 1 false (strsR w), .arr 1 false (strsR g)]⟩
set_option maxHeartbeats 4000000 in
theorem boxOrder_ok (l : List (List UInt8)) (hl63 : l.length < 2 ^ 63) : EvP PR G f_L23_BoxOrder [slv (strsR l)] (bv true) := by
  have hlen := strsR_len (l := l)
  refine EvP.of_wpf false hm c_L23_BoxOrder rfl ?_
  refine wpf_seq1 ?_
  conv => whnf
  by_cases h60 : 60 < l.length
  · repeat' ((first | refine brP_t (by assumption) ?_ | refine brP_f (by assumption) ?_ | refine brP_t (decide_eq_true (by omega)) ?_ | refine brP_f (decide_eq_false (by omega)) ?_ | refine brP_t (nd_t (by omega)) ?_ | refine brP_f (nd_f (by omega)) ?_ | ((rw [hlen])) | refine callK_p L23_alive_ok ?_ | refine callM_p L23_alive_ok rfl ?_ | refine callK_pf rfl L23_alive_ok ?_ | refine wpfS_seq1 ?_ | refine wpfS_go ?_ | fail) <;> conv => whnf)
    rfl
  repeat' ((first | refine brP_t (by assumption) ?_ | refine brP_f (by assumption) ?_ | refine brP_t (decide_eq_true (by omega)) ?_ | refine brP_f (decide_eq_false (by omega)) ?_ | refine brP_t (nd_t (by omega)) ?_ | refine brP_f (nd_f (by omega)) ?_ | ((rw [hlen])) | refine wpfS_seq1 ?_ | refine wpfS_go ?_ | fail) <;> conv => whnf)
  refine SemS.nilT 4 1 (by decide) rfl ?_
  refine SemS.nilT 5 1 (by decide) rfl ?_
  refine SemS.weak (weak_bx0 _ (.loc 0) rfl) ?_
  refine SemS.loopC false hm (σ := Nat × Nat × List Msg × List (List UInt8) × List (List UInt8)) (fun s => ordT l s.1 s.2.2.2.1 s.2.2.2.2) (fun s => ordH s.2.1 s.2.2.1 s.2.2.2.1 s.2.2.2.2) (fun s => l.length - s.1)
    (fun s => s.1 ≤ l.length ∧ s.2.2.2.1 = s.2.2.2.2 ++ s.2.2.1.map Msg.data ∧ s.2.2.1.length ≤ 8 ∧ s.2.1 ≤ s.1 ∧ s.2.2.2.1.length ≤ s.1 ∧ s.2.2.2.2.length ≤ s.1) (0, 0, [], [], []) ⟨Nat.zero_le _, rfl, Nat.zero_le _, Nat.le_refl _, Nat.le_refl _, Nat.le_refl _⟩ ⟨rfl, rfl, rfl, rfl, rfl, trivial⟩ rfl ?_
  rintro ⟨i, n, q, w, g⟩ ⟨hi, hw, hq, hn, hwl, hgl⟩
  dsimp only at hi hw hq hn hwl hgl ⊢
  unfold ordT ordH
  have hwr := strsR_len (l := w)
  have hgr := strsR_len (l := g)
  refine wpf_seq1 ?_
  conv => whnf
  try (refine wpfS_seq1 ?_; conv => whnf)
  refine brP_mk (fun h => ?_) (fun h => ?_)
  · have hi' : i < l.length := by
      have h := of_decide_eq_true h
      rw [hlen] at h; omega
    clear h
    have hget := strsR_get hi'
    have hw2 : IntKind.i64.wrap ((i : Int) + 1) = ((i + 1 : Nat) : Int) := by rw [wrap64 (by omega)]; rfl
    generalize l[i] = s at *
    by_cases hs : 32 < s.length
    · repeat' ((first | refine brP_t (by assumption) ?_ | refine brP_f (by assumption) ?_ | refine brP_t (decide_eq_true (by omega)) ?_ | refine brP_f (decide_eq_false (by omega)) ?_ | refine brP_t (nd_t (by omega)) ?_ | refine brP_f (nd_f (by omega)) ?_ | ((conv in (opS _ _ _ _) => whnf); rw [Int.toNat_natCast, hget]) | ((conv in (opM _ _ _ _ _) => whnf); (conv in (opS _ _ _ _) => whnf); rw [Int.toNat_natCast, hget]) | refine callK_p L23_alive_ok ?_ | refine callM_p L23_alive_ok rfl ?_ | refine callK_pf rfl L23_alive_ok ?_ | refine wpfS_seq1 ?_ | refine wpfS_go ?_ | fail) <;> conv => whnf)
      rfl
    have c0 := box_Len_ok (qbox n q) (by rw [qbox_len]; omega)
    rw [qbox_len] at c0
    have cp := box_Put_ok (qbox n q) (smsg s) (by rw [qbox_len]; omega) ⟨by show _ ≤ (n : Int); omega, by show (n : Int) < _; omega⟩
    have hcut : ∀ (n' : Nat) (q' : List Msg) (w' g' : List (List UInt8)), w' = g' ++ q'.map Msg.data → q'.length ≤ 8 → n' ≤ i + 1 → w'.length ≤ i + 1 → g'.length ≤ i + 1 →
        (i + 1 ≤ l.length ∧ w' = g' ++ q'.map Msg.data ∧ q'.length ≤ 8 ∧ n' ≤ i + 1 ∧ w'.length ≤ i + 1 ∧ g'.length ≤ i + 1) := fun _ _ _ _ h1 h2 h3 h4 h5 => ⟨hi', h1, h2, h3, h4, h5⟩
    by_cases h8 : q.length < 8
    · rw [put_q h8 (by omega)] at cp
      have hL : decide ((q.length : Int) < 8) = true := decide_eq_true (by omega)
      have hsn := strsR_snoc w s
      have hwx : w ++ [s] = g ++ (q ++ [{ smsg s with no := n }]).map Msg.data := by rw [hw, List.map_append, ← List.append_assoc]; rfl
      have hq1 : ∃ m q', q ++ [{ smsg s with no := n }] = m :: q' := by cases q <;> exact ⟨_, _, rfl⟩
      obtain ⟨m, q', hq1⟩ := hq1
      have hql : (q ++ [{ smsg s with no := n }]).length = q.length + 1 := by simp
      have ct := take_q (n := n + 1) hq1 (by rw [hql]; omega)
      have hql2 : q'.length = q.length := by rw [hq1, List.length_cons] at hql; omega
      by_cases h3 : (i : Int).tmod 3 = 2
      · repeat' ((first | refine brP_t (by assumption) ?_ | refine brP_f (by assumption) ?_ | refine brP_t (decide_eq_true (by omega)) ?_ | refine brP_f (decide_eq_false (by omega)) ?_ | refine brP_t (nd_t (by omega)) ?_ | refine brP_f (nd_f (by omega)) ?_ | ((conv in (opS _ _ _ _) => whnf); rw [Int.toNat_natCast, hget]) | ((conv in (opM _ _ _ _ _) => whnf); (conv in (opS _ _ _ _) => whnf); rw [Int.toNat_natCast, hget]) | refine callK_p c0 ?_ | refine callM_p c0 rfl ?_ | refine callK_pf rfl c0 ?_ | refine callK_p cp ?_ | refine callM_p cp rfl ?_ | refine callK_pf rfl cp ?_ | ((rw [hL])) | (refine gd_mk ?_ ?_; focus (exact app_ok1 hwr.symm (by rw [hwr]; show _ + 1 ≤ _; omega) rfl; done)) | (refine gd_mk ?_ ?_; focus (exact app_ok1 hgr.symm (by rw [hgr]; show _ + 1 ≤ _; omega) rfl; done)) | refine callK_p ct ?_ | refine callM_p ct rfl ?_ | refine callK_pf rfl ct ?_ | ((rw [hw2])) | refine wpfS_seq1 ?_ | refine wpfS_go ?_ | fail) <;> conv => whnf)
        refine ⟨(i + 1, n + 1, q', w ++ [s], g ++ [m.data]), 3, hcut (n + 1) q' (w ++ [s]) (g ++ [m.data]) ?_ (by omega) (by omega) (by rw [List.length_append]; show _ + 1 ≤ _; omega) (by rw [List.length_append]; show _ + 1 ≤ _; omega), (show l.length - (i + 1) < l.length - i by omega), ⟨rfl, by show AV.c (.os _ _) = AV.c (.os _ _); rw [List.length_append]; rfl, by show AV.c (.os _ _) = AV.c (.os _ _); rw [List.length_append]; rfl, rfl, rfl, trivial⟩, Nat.le_refl _, ?_, rfl, rfl⟩
        · rw [hwx, hq1, List.append_assoc]; rfl
        · show _ = (⟨[], [_, .arr 1 false (strsR (w ++ [s])), .arr 1 false (strsR (g ++ [m.data]))]⟩ : Hp)
          rw [strsR_snoc, strsR_snoc]; rfl
      · repeat' ((first | refine brP_t (by assumption) ?_ | refine brP_f (by assumption) ?_ | refine brP_t (decide_eq_true (by omega)) ?_ | refine brP_f (decide_eq_false (by omega)) ?_ | refine brP_t (nd_t (by omega)) ?_ | refine brP_f (nd_f (by omega)) ?_ | ((conv in (opS _ _ _ _) => whnf); rw [Int.toNat_natCast, hget]) | ((conv in (opM _ _ _ _ _) => whnf); (conv in (opS _ _ _ _) => whnf); rw [Int.toNat_natCast, hget]) | refine callK_p c0 ?_ | refine callM_p c0 rfl ?_ | refine callK_pf rfl c0 ?_ | refine callK_p cp ?_ | refine callM_p cp rfl ?_ | refine callK_pf rfl cp ?_ | ((rw [hL])) | (refine gd_mk ?_ ?_; focus (exact app_ok1 hwr.symm (by rw [hwr]; show _ + 1 ≤ _; omega) rfl; done)) | ((rw [hw2])) | refine wpfS_seq1 ?_ | refine wpfS_go ?_ | fail) <;> conv => whnf)
        refine ⟨(i + 1, n + 1, q ++ [{ smsg s with no := n }], w ++ [s], g), 3, hcut (n + 1) (q ++ [{ smsg s with no := n }]) (w ++ [s]) g hwx (by rw [hql]; omega) (by omega) (by rw [List.length_append]; show _ + 1 ≤ _; omega) (by omega), (show l.length - (i + 1) < l.length - i by omega), ⟨rfl, by show AV.c (.os _ _) = AV.c (.os _ _); rw [List.length_append]; rfl, rfl, rfl, rfl, trivial⟩, Nat.le_refl _, ?_, rfl, rfl⟩
        show _ = (⟨[], [_, .arr 1 false (strsR (w ++ [s])), .arr 1 false (strsR g)]⟩ : Hp)
        rw [strsR_snoc]; rfl
    · rw [put_full (by omega)] at cp
      have hL : decide ((q.length : Int) < 8) = false := decide_eq_false (by omega)
      obtain ⟨m, q', hq1⟩ : ∃ m q', q = m :: q' := by
        cases q with
        | nil => exact absurd (show ([] : List Msg).length < 8 by decide) h8
        | cons m q' => exact ⟨m, q', rfl⟩
      have ct := take_q (n := n) hq1 (by omega)
      have hql2 : q'.length + 1 = q.length := by rw [hq1]; rfl
      by_cases h3 : (i : Int).tmod 3 = 2
      · repeat' ((first | refine brP_t (by assumption) ?_ | refine brP_f (by assumption) ?_ | refine brP_t (decide_eq_true (by omega)) ?_ | refine brP_f (decide_eq_false (by omega)) ?_ | refine brP_t (nd_t (by omega)) ?_ | refine brP_f (nd_f (by omega)) ?_ | ((conv in (opS _ _ _ _) => whnf); rw [Int.toNat_natCast, hget]) | ((conv in (opM _ _ _ _ _) => whnf); (conv in (opS _ _ _ _) => whnf); rw [Int.toNat_natCast, hget]) | refine callK_p c0 ?_ | refine callM_p c0 rfl ?_ | refine callK_pf rfl c0 ?_ | refine callK_p cp ?_ | refine callM_p cp rfl ?_ | refine callK_pf rfl cp ?_ | ((rw [hL])) | (refine gd_mk ?_ ?_; focus (exact app_ok1 hgr.symm (by rw [hgr]; show _ + 1 ≤ _; omega) rfl; done)) | refine callK_p ct ?_ | refine callM_p ct rfl ?_ | refine callK_pf rfl ct ?_ | ((rw [hw2])) | refine wpfS_seq1 ?_ | refine wpfS_go ?_ | fail) <;> conv => whnf)
        refine ⟨(i + 1, n, q', w, g ++ [m.data]), 3, hcut n q' w (g ++ [m.data]) ?_ (by omega) (by omega) (by omega) (by rw [List.length_append]; show _ + 1 ≤ _; omega), (show l.length - (i + 1) < l.length - i by omega), ⟨rfl, rfl, by show AV.c (.os _ _) = AV.c (.os _ _); rw [List.length_append]; rfl, rfl, rfl, trivial⟩, Nat.le_refl _, ?_, rfl, rfl⟩
        · rw [hw, hq1, List.append_assoc]; rfl
        · show _ = (⟨[], [_, .arr 1 false (strsR w), .arr 1 false (strsR (g ++ [m.data]))]⟩ : Hp)
          rw [strsR_snoc]; rfl
      · repeat' ((first | refine brP_t (by assumption) ?_ | refine brP_f (by assumption) ?_ | refine brP_t (decide_eq_true (by omega)) ?_ | refine brP_f (decide_eq_false (by omega)) ?_ | refine brP_t (nd_t (by omega)) ?_ | refine brP_f (nd_f (by omega)) ?_ | ((conv in (opS _ _ _ _) => whnf); rw [Int.toNat_natCast, hget]) | ((conv in (opM _ _ _ _ _) => whnf); (conv in (opS _ _ _ _) => whnf); rw [Int.toNat_natCast, hget]) | refine callK_p c0 ?_ | refine callM_p c0 rfl ?_ | refine callK_pf rfl c0 ?_ | refine callK_p cp ?_ | refine callM_p cp rfl ?_ | refine callK_pf rfl cp ?_ | ((rw [hL])) | ((rw [hw2])) | refine wpfS_seq1 ?_ | refine wpfS_go ?_ | fail) <;> conv => whnf)
        exact ⟨(i + 1, n, q, w, g), 3, hcut n q w g hw (by omega) (by omega) (by omega) (by omega), (show l.length - (i + 1) < l.length - i by omega), ⟨rfl, rfl, rfl, rfl, rfl, trivial⟩, Nat.le_refl _, rfl, rfl, rfl⟩
  · clear h
    have hw60 : w.length ≤ 60 := by omega
    clear hi hn hwl hgl hwr hgr hlen h60 hl63
    repeat' ((first | refine brP_t (by assumption) ?_ | refine brP_f (by assumption) ?_ | refine brP_t (decide_eq_true (by omega)) ?_ | refine brP_f (decide_eq_false (by omega)) ?_ | refine brP_t (nd_t (by omega)) ?_ | refine brP_f (nd_f (by omega)) ?_ | refine wpfS_seq1 ?_ | refine wpfS_go ?_ | fail) <;> conv => whnf)
    refine SemS.loopC false hm (σ := List Msg × List (List UInt8)) (fun s => [(4, .c (.os (.loc 1) w.length)), (5, .c (.os (.loc 2) s.2.length)), (3, .c (.ptr (.loc 0) 0))]) (fun s => ordH n s.1 w s.2) (fun s => s.1.length) (fun s => w = s.2 ++ s.1.map Msg.data ∧ s.1.length ≤ 8) (q, g) ⟨hw, hq⟩ ⟨rfl, rfl, rfl, trivial⟩ rfl ?_
    clear hw hq
    rintro ⟨q, g⟩ ⟨hw, hq⟩
    dsimp only at hw hq ⊢
    unfold ordH
    have hwl := congrArg List.length hw
    rw [List.length_append] at hwl
    have hgr := strsR_len (l := g)
    have c0 := box_Len_ok (qbox n q) (by rw [qbox_len]; omega)
    rw [qbox_len] at c0
    cases q with
    | nil =>
      have hg : w = g := by rw [hw]; simp
      subst hg
      have hwr := strsR_len (l := w)
      refine wpf_seq1 ?_
      conv => whnf
      repeat' ((first | refine brP_t (by assumption) ?_ | refine brP_f (by assumption) ?_ | refine brP_t (decide_eq_true (by omega)) ?_ | refine brP_f (decide_eq_false (by omega)) ?_ | refine brP_t (nd_t (by omega)) ?_ | refine brP_f (nd_f (by omega)) ?_ | refine callK_p c0 ?_ | refine callM_p c0 rfl ?_ | refine callK_pf rfl c0 ?_ | (refine gd_mk ?_ ?_; focus (exact decide_eq_true hgr.symm; done)) | ((rw [hgr])) | refine wpfS_seq1 ?_ | refine wpfS_go ?_ | fail) <;> conv => whnf)
      refine SemS.loopF false hm (σ := Nat) (fun k => [(15, iv k), (4, .c (.os (.loc 1) w.length)), (5, .c (.os (.loc 2) w.length))]) (fun _ => ordH n [] w w) (fun k => w.length - k) (fun k => k ≤ w.length) 0 (Nat.zero_le _) ⟨rfl, rfl, rfl, trivial⟩ rfl ?_
      intro k hk
      unfold ordH
      refine wpf_seq1 ?_
      conv => whnf
      by_cases hk' : k < w.length
      · have hget := strsR_get hk'
        have hw2 : IntKind.i64.wrap ((k : Int) + 1) = ((k + 1 : Nat) : Int) := by rw [wrap64 (by omega)]; rfl
        generalize w[k] = s at *
        repeat' ((first | refine brP_t (by assumption) ?_ | refine brP_f (by assumption) ?_ | refine brP_t (decide_eq_true (by omega)) ?_ | refine brP_f (decide_eq_false (by omega)) ?_ | refine brP_t (nd_t (by omega)) ?_ | refine brP_f (nd_f (by omega)) ?_ | ((conv in (opS _ _ _ _) => whnf); rw [Int.toNat_natCast, hget]) | ((conv in (opM _ _ _ _ _) => whnf); (conv in (opS _ _ _ _) => whnf); rw [Int.toNat_natCast, hget]) | (refine gd_mk ?_ ?_; focus (exact decide_eq_true hgr.symm; done)) | ((rw [hgr])) | (refine gd_mk ?_ ?_; focus (exact decide_eq_true ⟨by omega, by omega, rfl, hgr.symm⟩; done)) | ((rw [hw2])) | refine brP_f (nd_f rfl) ?_ | refine wpfS_seq1 ?_ | refine wpfS_go ?_ | fail) <;> conv => whnf)
        exact ⟨k + 1, hk', (show w.length - (k + 1) < w.length - k by omega), ⟨rfl, rfl, rfl, trivial⟩, rfl⟩
      · repeat' ((first | refine brP_t (by assumption) ?_ | refine brP_f (by assumption) ?_ | refine brP_t (decide_eq_true (by omega)) ?_ | refine brP_f (decide_eq_false (by omega)) ?_ | refine brP_t (nd_t (by omega)) ?_ | refine brP_f (nd_f (by omega)) ?_ | (refine gd_mk ?_ ?_; focus (exact decide_eq_true hgr.symm; done)) | ((rw [hgr])) | refine callK_p L23_alive_ok ?_ | refine callM_p L23_alive_ok rfl ?_ | refine callK_pf rfl L23_alive_ok ?_ | refine wpfS_seq1 ?_ | refine wpfS_go ?_ | fail) <;> conv => whnf)
        rfl
    | cons m q =>
      have ct := take_q (n := n) (rfl : m :: q = m :: q) (by omega)
      refine wpf_seq1 ?_
      conv => whnf
      have hL : decide (((m :: q).length : Int) > 0) = true := decide_eq_true (by simp)
      have hgl : g.length < 100 := by omega
      repeat' ((first | refine brP_t (by assumption) ?_ | refine brP_f (by assumption) ?_ | refine brP_t (decide_eq_true (by omega)) ?_ | refine brP_f (decide_eq_false (by omega)) ?_ | refine brP_t (nd_t (by omega)) ?_ | refine brP_f (nd_f (by omega)) ?_ | refine callK_p c0 ?_ | refine callM_p c0 rfl ?_ | refine callK_pf rfl c0 ?_ | ((rw [hL])) | (refine gd_mk ?_ ?_; focus (exact decide_eq_true hgr.symm; done)) | ((rw [hgr])) | refine callK_p ct ?_ | refine callM_p ct rfl ?_ | refine callK_pf rfl ct ?_ | (refine gd_mk ?_ ?_; focus (rw [Bool.and_eq_true, Bool.and_eq_true]; exact ⟨⟨rfl, decide_eq_true ⟨rfl, rfl, by show (g.length + 1) * 16 ≤ _; omega, by show g.length + 1 < _; omega⟩⟩, rfl⟩; done)) | refine wpfS_seq1 ?_ | refine wpfS_go ?_ | fail) <;> conv => whnf)
      refine ⟨(q, g ++ [m.data]), 3, ⟨by rw [hw, List.append_assoc]; rfl, by have : q.length + 1 ≤ 8 := hq; show q.length ≤ 8; omega⟩, (show q.length < q.length + 1 by omega), ⟨rfl, by show AV.c (.os _ _) = AV.c (.os _ _); rw [List.length_append]; rfl, rfl, trivial⟩, Nat.le_refl _, ?_, rfl, rfl⟩
      show _ = (⟨[], [_, .arr 1 false (strsR w), .arr 1 false (strsR (g ++ [m.data]))]⟩ : Hp)
      rw [strsR_snoc]; rfl
theorem strs_of : ∀ {es : List (List PV)}, (∀ r ∈ es, r.length = 1 ∧ wt .str r) → ∃ l : List (List UInt8), es = strsR l
  | [], _ => ⟨[], rfl⟩
  | r :: es, h => by
    obtain ⟨l, rfl⟩ := strs_of fun q hq => h q (List.mem_cons_of_mem _ hq)
    obtain ⟨-, s, rfl, -⟩ := h r List.mem_cons_self
    exact ⟨s :: l, rfl⟩
theorem law_boxOrder (pvss : List (List PV)) (hw : wts [.sl 1 16 .str] pvss) : EvP PR G f_L23_BoxOrder (argAVs [.sl 1 16 .str] pvss) (.c (.p (.bool true))) := by
  obtain ⟨a, _, rfl, ha, hw⟩ := wts_cons hw
  cases wts_nil hw
  obtain ⟨es, rfl, -, hl, hes⟩ := ha
  obtain ⟨l, rfl⟩ := strs_of hes
  rw [strsR_len] at hl
  exact boxOrder_ok l (len63 hl)
end Go.Ab.S
