/- Part of a proof; no condition. -/
import Derived.Test.YteipepbijfdciaaWireW10
set_option linter.unusedSimpArgs false
set_option linter.unusedVariables false
namespace Go.Ab.S
open Go Go.Ab Go.Proofs
attribute [local irreducible] SemS
set_option maxRecDepth 100000
def okP (p : Part) : Bool := if p.t then decide (p.s.length ≤ 255) else okNum p.n p.size
def bytesP (p : Part) : List UInt8 := if p.t then textB p.s else numB p.n.toNat p.size.toNat
theorem stepW_ok {bs : List UInt8} {p : Part} (h : okP p = true) : stepW (0, bs) p = (0, bs ++ bytesP p) := by
  unfold okP at h
  unfold stepW bytesP
  split
  · rename_i ht
    rw [if_pos ht] at h
    rw [if_neg (by have := of_decide_eq_true h; omega)]
  · rename_i ht
    rw [if_neg ht] at h
    rw [if_pos h]
theorem stepW_bad {e : Int} {bs : List UInt8} {p : Part} (h : e ≠ 0 ∨ okP p = false) : (stepW (e, bs) p).1 ≠ 0 := by
  have f5 : firstE e 5 ≠ 0 := by unfold firstE; split <;> omega
  have f8 : firstE e 8 ≠ 0 := by unfold firstE; split <;> omega
  unfold okP at h
  unfold stepW
  split
  · rename_i ht
    rw [if_pos ht] at h
    split
    · exact f5
    · rename_i h2
      rcases h with h | h
      · exact h
      · have := of_decide_eq_false h; omega
  · rename_i ht
    rw [if_neg ht] at h
    split
    · rename_i h2
      rcases h with h | h
      · exact h
      · rw [h] at h2; cases h2
    · exact f8
theorem foldW_bad : ∀ (l : List Part) (st : Int × List UInt8), st.1 ≠ 0 → (l.foldl stepW st).1 ≠ 0 := by
  intro l
  induction l with
  | nil => intro st h; exact h
  | cons p l ih => intro st h; exact ih _ (stepW_bad (.inl h))
theorem foldW_ok : ∀ (l : List Part) (bs : List UInt8), (l.foldl stepW (0, bs)).1 = 0 → (∀ p ∈ l, okP p = true) ∧ (l.foldl stepW (0, bs)).2 = bs ++ l.flatMap bytesP := by
  intro l
  induction l with
  | nil => intro bs _; exact ⟨by simp, by simp⟩
  | cons p l ih =>
    intro bs h
    cases hp : okP p with
    | false => exact absurd h (foldW_bad l _ (stepW_bad (.inr hp)))
    | true =>
      rw [List.foldl_cons, stepW_ok hp] at h ⊢
      obtain ⟨h1, h2⟩ := ih _ h
      refine ⟨fun q hq => ?_, by rw [h2, List.flatMap_cons, List.append_assoc]⟩
      rcases List.mem_cons.1 hq with rfl | hq
      · exact hp
      · exact h1 q hq
theorem valB_numB {n k : Nat} (hk : 1 ≤ k ∧ k ≤ 4) (hn : n < 256 ^ k) : valB (numB n k) = n := by
  have : k = 1 ∨ k = 2 ∨ k = 3 ∨ k = 4 := by omega
  rcases this with rfl | rfl | rfl | rfl
  · simp [valB, numB, List.range_succ]; omega
  · simp [valB, numB, List.range_succ]; omega
  · simp [valB, numB, List.range_succ]; omega
  · simp [valB, numB, List.range_succ]; omega
theorem r_text_back (s rest : List UInt8) (h : s.length ≤ 255) : EvR PR G f_wire_Reader_Text [.c (.ptr (.par 0) 0), iv 255] ⟨rdB 0 (textB s ++ rest), []⟩ (.c (.p (.str s))) ⟨rdB 0 rest, []⟩ := by
  have := r_Text_ok 0 (textB s ++ rest) 255
  have hc : (UInt8.ofNat s.length).toNat = s.length := by simp; omega
  have e1 : txtV 0 (textB s ++ rest) 255 = s := by
    show (if (255 : Int) < (UInt8.ofNat s.length).toNat then [] else if (s ++ rest).length < (UInt8.ofNat s.length).toNat then [] else (s ++ rest).take (UInt8.ofNat s.length).toNat) = s
    rw [hc, if_neg (by omega), if_neg (by simp)]; simp
  have e2 : txtE 0 (textB s ++ rest) 255 = 0 := by
    show (if (255 : Int) < (UInt8.ofNat s.length).toNat then (5 : Int) else if (s ++ rest).length < (UInt8.ofNat s.length).toNat then 4 else 0) = 0
    rw [hc, if_neg (by omega), if_neg (by simp)]
  have e3 : txtL true 0 (textB s ++ rest) 255 = rest := by
    show (if (255 : Int) < (UInt8.ofNat s.length).toNat then (s ++ rest) else if (s ++ rest).length < (UInt8.ofNat s.length).toNat then (s ++ rest) else (s ++ rest).drop (UInt8.ofNat s.length).toNat) = rest
    rw [hc, if_neg (by omega), if_neg (by simp)]; simp
  rwa [e1, e2, e3] at this
theorem r_num_back (n k : Nat) (most : Int) (rest : List UInt8) (hk : 1 ≤ k ∧ k ≤ 4) (hn : n < 256 ^ k) (hmost : (n : Int) ≤ most) : EvR PR G f_wire_Reader_Num [.c (.ptr (.par 0) 0), iv k, iv most] ⟨rdB 0 (numB n k ++ rest), []⟩ (iv n) ⟨rdB 0 rest, []⟩ := by
  have := r_Num_ok 0 (numB n k ++ rest) k most (by omega)
  have hl : (numB n k).length = k := numB_len
  have ht : (numB n k ++ rest).take (k : Int).toNat = numB n k := by rw [Int.toNat_natCast, List.take_append_of_le_length (by omega), List.take_of_length_le (by omega)]
  have hll : ¬ (((numB n k ++ rest).length : Nat) : Int) < k := by rw [List.length_append]; omega
  have e1 : numV 0 (numB n k ++ rest) k most = n := by unfold numV; rw [if_neg (by simp), if_neg (by omega), if_neg hll, ht, valB_numB hk hn, if_neg (by omega)]
  have e2 : numE 0 (numB n k ++ rest) k most = 0 := by unfold numE; rw [if_neg (by simp), if_neg (by omega), if_neg hll, ht, valB_numB hk hn, if_neg (by omega)]
  have e3 : numL true 0 (numB n k ++ rest) k = rest := by unfold numL; rw [if_neg (by simp), if_neg (by omega), if_neg hll, Int.toNat_natCast, List.drop_append_of_le_length (by omega), List.drop_of_length_le (by omega), List.nil_append]
  rwa [e1, e2, e3] at this
/-- One writer. -/
def oneH (st : Int × List UInt8) : Hp := ⟨[], [.mrow [.p (.int .i64 st.1), .os (.loc 1) st.2.length], .arr 1 false (bytesOf st.2)]⟩
set_option maxHeartbeats 4000000 in
theorem back_ok (l : List Part) (hl : l.length < 2 ^ 63) : EvP PR G f_L05_WireBack [slv (prts l)] (bv true) := by
  have hlen := prts_len (l := l)
  have hfar := far_ok l hl
  refine EvP.of_wpf false hm c_L05_WireBack rfl ?_
  refine wpf_seq1 ?_
  conv => whnf
  cases hf : farB l with
  | true =>
    rw [hf] at hfar
    repeat' ((first | refine brP_t (by assumption) ?_ | refine brP_f (by assumption) ?_ | refine brP_t (decide_eq_true (by omega)) ?_ | refine brP_f (decide_eq_false (by omega)) ?_ | refine brP_t (nd_t (by omega)) ?_ | refine brP_f (nd_f (by omega)) ?_ | refine callK_p hfar ?_ | refine callM_p hfar rfl ?_ | refine callK_pf rfl hfar ?_ | refine callK_p L05_alive_ok ?_ | refine callM_p L05_alive_ok rfl ?_ | refine callK_pf rfl L05_alive_ok ?_ | refine wpfS_seq1 ?_ | refine wpfS_go ?_ | fail) <;> conv => whnf)
    rfl
  | false =>
    rw [hf] at hfar
    obtain ⟨h40, h300⟩ := far_false hf
    repeat' ((first | refine brP_t (by assumption) ?_ | refine brP_f (by assumption) ?_ | refine brP_t (decide_eq_true (by omega)) ?_ | refine brP_f (decide_eq_false (by omega)) ?_ | refine brP_t (nd_t (by omega)) ?_ | refine brP_f (nd_f (by omega)) ?_ | refine callK_p hfar ?_ | refine callM_p hfar rfl ?_ | refine callK_pf rfl hfar ?_ | refine wpfS_seq1 ?_ | refine wpfS_go ?_ | fail) <;> conv => whnf)
    refine SemS.weak (Weak.nils (id := .loc 0) (j := 1) 1 (by omega) rfl rfl) ?_
    refine SemS.loopF false hm (σ := Nat) (fun i => [(0, slv (prts l)), (3, .c (.ptr (.loc 0) 0)), (4, iv i)])
      (fun i => oneH (stW (l.take i)))
      (fun i => l.length - i) (fun i => i ≤ l.length) 0 (Nat.zero_le _) ⟨rfl, rfl, rfl, trivial⟩ rfl ?_
    intro i hi
    refine wpf_seq1 ?_
    conv => whnf
    rw [hlen]
    refine brP_mk (fun h => ?_) (fun h => ?_)
    · have hi' : i < l.length := by have := of_decide_eq_true h; omega
      clear h
      have hget := prts_get hi'
      have hw2 : IntKind.i64.wrap ((i : Int) + 1) = ((i + 1 : Nat) : Int) := by rw [wrap64 (by omega)]; rfl
      have hst := stW_succ hi'
      have hbl : (stW (l.take i)).2.length ≤ 2 ^ 40 := by
        have h1 := stW_len (l := l.take i) fun p hp => h300 p (List.mem_of_mem_take hp)
        have h2 : (l.take i).length ≤ 40 := by rw [List.length_take]; omega
        omega
      generalize hst1 : stW (l.take (i + 1)) = st1 at *
      generalize stW (l.take i) = st0 at *
      obtain ⟨e, bs⟩ := st0
      have hbl : bs.length ≤ 2 ^ 40 := hbl
      generalize l[i] = p at *
      obtain ⟨t, n, size, most, s⟩ := p
      have hget : (prts l)[i]? = some [.bool t, .int .i64 n, .int .i64 size, .int .i64 most, .str s] := hget
      cases t with
      | true =>
        by_cases hs : 255 < s.length
        · have e1 := w_text_bad e bs s hs
          have hst : st1 = (firstE e 5, bs) := by rw [hst]; simp [stepW, hs]
          rw [hst] at hst1
          repeat' ((first | refine brP_t (by assumption) ?_ | refine brP_f (by assumption) ?_ | refine brP_t (decide_eq_true (by omega)) ?_ | refine brP_f (decide_eq_false (by omega)) ?_ | refine brP_t (nd_t (by omega)) ?_ | refine brP_f (nd_f (by omega)) ?_ | ((conv in (opS _ _ _ _) => whnf); rw [Int.toNat_natCast, hget]) | ((conv in (opM _ _ _ _ _) => whnf); (conv in (opS _ _ _ _) => whnf); rw [Int.toNat_natCast, hget]) | refine callK_r (EvR.fr [_, _] e1 rfl rfl ⟨rfl, rfl, trivial⟩ rfl) ?_ | refine callM_l (LEv.fr [_, _] e1 rfl rfl ⟨rfl, rfl, trivial⟩ rfl rfl) ?_ | refine callK_rt (EvR.fr [_, _] e1 rfl rfl ⟨rfl, rfl, trivial⟩ rfl) ?_ | refine callK_rf rfl (EvR.fr [_, _] e1 rfl rfl ⟨rfl, rfl, trivial⟩ rfl) ?_ | refine callK_rft rfl (EvR.fr [_, _] e1 rfl rfl ⟨rfl, rfl, trivial⟩ rfl) ?_ | refine wpfS_seq1 ?_ | refine wpfS_go ?_ | fail) <;> conv => whnf)
          rw [hw2]
          refine ⟨i + 1, hi', (show l.length - (i + 1) < l.length - i by omega), ⟨rfl, rfl, rfl, trivial⟩, ?_⟩
          show _ = oneH (stW (l.take (i + 1)))
          rw [hst1]; rfl
        · have e1 := w_text_ok e bs hbl s (by omega)
          have hst : st1 = (e, bs ++ textB s) := by rw [hst]; simp [stepW, hs]
          rw [hst] at hst1
          repeat' ((first | refine brP_t (by assumption) ?_ | refine brP_f (by assumption) ?_ | refine brP_t (decide_eq_true (by omega)) ?_ | refine brP_f (decide_eq_false (by omega)) ?_ | refine brP_t (nd_t (by omega)) ?_ | refine brP_f (nd_f (by omega)) ?_ | ((conv in (opS _ _ _ _) => whnf); rw [Int.toNat_natCast, hget]) | ((conv in (opM _ _ _ _ _) => whnf); (conv in (opS _ _ _ _) => whnf); rw [Int.toNat_natCast, hget]) | refine callK_r (EvR.fr [_, _] e1 rfl rfl ⟨rfl, rfl, trivial⟩ rfl) ?_ | refine callM_l (LEv.fr [_, _] e1 rfl rfl ⟨rfl, rfl, trivial⟩ rfl rfl) ?_ | refine callK_rt (EvR.fr [_, _] e1 rfl rfl ⟨rfl, rfl, trivial⟩ rfl) ?_ | refine callK_rf rfl (EvR.fr [_, _] e1 rfl rfl ⟨rfl, rfl, trivial⟩ rfl) ?_ | refine callK_rft rfl (EvR.fr [_, _] e1 rfl rfl ⟨rfl, rfl, trivial⟩ rfl) ?_ | refine wpfS_seq1 ?_ | refine wpfS_go ?_ | fail) <;> conv => whnf)
          rw [hw2]
          refine ⟨i + 1, hi', (show l.length - (i + 1) < l.length - i by omega), ⟨rfl, rfl, rfl, trivial⟩, ?_⟩
          show _ = oneH (stW (l.take (i + 1)))
          rw [hst1]; rfl
      | false =>
        cases hok : okNum n size with
        | false =>
          have e1 := w_num_bad e bs n size hok
          have hst : st1 = (firstE e 8, bs) := by rw [hst]; simp [stepW, hok]
          rw [hst] at hst1
          clear hok
          repeat' ((first | refine brP_t (by assumption) ?_ | refine brP_f (by assumption) ?_ | refine brP_t (decide_eq_true (by omega)) ?_ | refine brP_f (decide_eq_false (by omega)) ?_ | refine brP_t (nd_t (by omega)) ?_ | refine brP_f (nd_f (by omega)) ?_ | ((conv in (opS _ _ _ _) => whnf); rw [Int.toNat_natCast, hget]) | ((conv in (opM _ _ _ _ _) => whnf); (conv in (opS _ _ _ _) => whnf); rw [Int.toNat_natCast, hget]) | refine callK_r (EvR.fr [_, _] e1 rfl rfl ⟨rfl, rfl, trivial⟩ rfl) ?_ | refine callM_l (LEv.fr [_, _] e1 rfl rfl ⟨rfl, rfl, trivial⟩ rfl rfl) ?_ | refine callK_rt (EvR.fr [_, _] e1 rfl rfl ⟨rfl, rfl, trivial⟩ rfl) ?_ | refine callK_rf rfl (EvR.fr [_, _] e1 rfl rfl ⟨rfl, rfl, trivial⟩ rfl) ?_ | refine callK_rft rfl (EvR.fr [_, _] e1 rfl rfl ⟨rfl, rfl, trivial⟩ rfl) ?_ | refine wpfS_seq1 ?_ | refine wpfS_go ?_ | fail) <;> conv => whnf)
          rw [hw2]
          refine ⟨i + 1, hi', (show l.length - (i + 1) < l.length - i by omega), ⟨rfl, rfl, rfl, trivial⟩, ?_⟩
          show _ = oneH (stW (l.take (i + 1)))
          rw [hst1]; rfl
        | true =>
          obtain ⟨q1, q2, q3, -⟩ := of_decide_eq_true hok
          obtain ⟨m, rfl⟩ := Int.eq_ofNat_of_zero_le q3
          obtain ⟨k, rfl⟩ := Int.eq_ofNat_of_zero_le (show 0 ≤ size by omega)
          have e1 := w_num_ok e bs hbl m k hok
          have hst : st1 = (e, bs ++ numB m k) := by rw [hst]; simp [stepW, hok]
          rw [hst] at hst1
          clear hok
          repeat' ((first | refine brP_t (by assumption) ?_ | refine brP_f (by assumption) ?_ | refine brP_t (decide_eq_true (by omega)) ?_ | refine brP_f (decide_eq_false (by omega)) ?_ | refine brP_t (nd_t (by omega)) ?_ | refine brP_f (nd_f (by omega)) ?_ | ((conv in (opS _ _ _ _) => whnf); rw [Int.toNat_natCast, hget]) | ((conv in (opM _ _ _ _ _) => whnf); (conv in (opS _ _ _ _) => whnf); rw [Int.toNat_natCast, hget]) | refine callK_r (EvR.fr [_, _] e1 rfl rfl ⟨rfl, rfl, trivial⟩ rfl) ?_ | refine callM_l (LEv.fr [_, _] e1 rfl rfl ⟨rfl, rfl, trivial⟩ rfl rfl) ?_ | refine callK_rt (EvR.fr [_, _] e1 rfl rfl ⟨rfl, rfl, trivial⟩ rfl) ?_ | refine callK_rf rfl (EvR.fr [_, _] e1 rfl rfl ⟨rfl, rfl, trivial⟩ rfl) ?_ | refine callK_rft rfl (EvR.fr [_, _] e1 rfl rfl ⟨rfl, rfl, trivial⟩ rfl) ?_ | refine wpfS_seq1 ?_ | refine wpfS_go ?_ | fail) <;> conv => whnf)
          rw [hw2]
          refine ⟨i + 1, hi', (show l.length - (i + 1) < l.length - i by omega), ⟨rfl, rfl, rfl, trivial⟩, ?_⟩
          show _ = oneH (stW (l.take (i + 1)))
          rw [hst1]; rfl
    · have hi' : i = l.length := by have := of_decide_eq_false h; omega
      subst hi'
      clear h hi
      have hbl : (stW l).2.length ≤ 2 ^ 40 := by
        have h1 := stW_len (l := l) h300
        omega
      have hfold := foldW_ok l []
      rw [List.take_length]
      by_cases he : (stW l).1 = 0
      · obtain ⟨hall, hbs⟩ := hfold he
        have hst : stW l = (0, l.flatMap bytesP) := Prod.ext he hbs
        rw [hst] at hbl ⊢
        have hbl : (l.flatMap bytesP).length ≤ 2 ^ 40 := hbl
        have e1 := w_done_ok (l.flatMap bytesP) hbl
        have e2 := NewReader_ok (l.flatMap bytesP)
        conv => whnf
        repeat' ((first | refine brP_t (by assumption) ?_ | refine brP_f (by assumption) ?_ | refine brP_t (decide_eq_true (by omega)) ?_ | refine brP_f (decide_eq_false (by omega)) ?_ | refine brP_t (nd_t (by omega)) ?_ | refine brP_f (nd_f (by omega)) ?_ | refine callK_r (EvR.fr [_, _] e1 rfl rfl ⟨rfl, rfl, trivial⟩ rfl) ?_ | refine callM_l (LEv.fr [_, _] e1 rfl rfl ⟨rfl, rfl, trivial⟩ rfl rfl) ?_ | refine callK_rt (EvR.fr [_, _] e1 rfl rfl ⟨rfl, rfl, trivial⟩ rfl) ?_ | refine callK_rf rfl (EvR.fr [_, _] e1 rfl rfl ⟨rfl, rfl, trivial⟩ rfl) ?_ | refine callK_rft rfl (EvR.fr [_, _] e1 rfl rfl ⟨rfl, rfl, trivial⟩ rfl) ?_ | refine callK_r (EvR.fr [] e2 rfl rfl trivial rfl) ?_ | refine callM_l (LEv.fr [] e2 rfl rfl trivial rfl rfl) ?_ | refine callK_rt (EvR.fr [] e2 rfl rfl trivial rfl) ?_ | refine callK_rf rfl (EvR.fr [] e2 rfl rfl trivial rfl) ?_ | refine callK_rft rfl (EvR.fr [] e2 rfl rfl trivial rfl) ?_ | refine wpfS_seq1 ?_ | refine wpfS_go ?_ | fail) <;> conv => whnf)
        refine SemS.loopF false hm (σ := Nat) (fun i => [(0, slv (prts l)), (7, .c (.ptr (.loc 2) 0)), (8, iv i)])
          (fun i => ⟨[], wrF 0 (l.flatMap bytesP) |>.map (Blk.ren fun j => match j with | .par n => .loc n | j => j) |> (· ++ rdB 0 ((l.drop i).flatMap bytesP))⟩)
          (fun i => l.length - i) (fun i => i ≤ l.length) 0 (Nat.zero_le _) ⟨rfl, rfl, rfl, trivial⟩ rfl ?_
        intro i hi
        refine wpf_seq1 ?_
        conv => whnf
        rw [hlen]
        refine brP_mk (fun h => ?_) (fun h => ?_)
        · have hi' : i < l.length := by have := of_decide_eq_true h; omega
          clear h
          have hget := prts_get hi'
          have hw2 : IntKind.i64.wrap ((i : Int) + 1) = ((i + 1 : Nat) : Int) := by rw [wrap64 (by omega)]; rfl
          have hd : (l.drop i).flatMap bytesP = bytesP l[i] ++ (l.drop (i + 1)).flatMap bytesP := by rw [List.drop_eq_getElem_cons hi', List.flatMap_cons]
          have hok := hall l[i] (List.getElem_mem hi')
          rw [hd]
          generalize hR : (l.drop (i + 1)).flatMap bytesP = R at *
          generalize l.flatMap bytesP = A at *
          generalize l[i] = p at *
          obtain ⟨t, n, size, most, s⟩ := p
          have hget : (prts l)[i]? = some [.bool t, .int .i64 n, .int .i64 size, .int .i64 most, .str s] := hget
          cases t with
          | true =>
            have h1 := r_text_back s R (of_decide_eq_true hok)
            show wpfS PR G false _ _ _ ⟨[], [.mrow [.p (.int .i64 0), .os (.loc 1) A.length], .arr 1 true (bytesOf A), .row [.int .i64 0, .sl (bytesOf (textB s ++ R))]]⟩ _
            repeat' ((first | refine brP_t (by assumption) ?_ | refine brP_f (by assumption) ?_ | refine brP_t (decide_eq_true (by omega)) ?_ | refine brP_f (decide_eq_false (by omega)) ?_ | refine brP_t (nd_t (by omega)) ?_ | refine brP_f (nd_f (by omega)) ?_ | ((conv in (opS _ _ _ _) => whnf); rw [Int.toNat_natCast, hget]) | ((conv in (opM _ _ _ _ _) => whnf); (conv in (opS _ _ _ _) => whnf); rw [Int.toNat_natCast, hget]) | refine callK_r (EvR.fr [_] h1 rfl rfl ⟨rfl, trivial⟩ rfl) ?_ | refine callM_l (LEv.fr [_] h1 rfl rfl ⟨rfl, trivial⟩ rfl rfl) ?_ | refine callK_rt (EvR.fr [_] h1 rfl rfl ⟨rfl, trivial⟩ rfl) ?_ | refine callK_rf rfl (EvR.fr [_] h1 rfl rfl ⟨rfl, trivial⟩ rfl) ?_ | refine callK_rft rfl (EvR.fr [_] h1 rfl rfl ⟨rfl, trivial⟩ rfl) ?_ | refine brP_f (nd_f rfl) ?_ | refine wpfS_seq1 ?_ | refine wpfS_go ?_ | fail) <;> conv => whnf)
            rw [hw2]
            refine ⟨i + 1, hi', (show l.length - (i + 1) < l.length - i by omega), ⟨rfl, rfl, rfl, trivial⟩, ?_⟩
            rw [← hR]; rfl
          | false =>
            obtain ⟨q1, q2, q3, q4⟩ := of_decide_eq_true (show okNum n size = true from hok)
            obtain ⟨m, rfl⟩ := Int.eq_ofNat_of_zero_le q3
            obtain ⟨k, rfl⟩ := Int.eq_ofNat_of_zero_le (show 0 ≤ size by omega)
            have hq4 : m < 256 ^ k := by
              rw [Int.toNat_natCast] at q4
              have : ((256 ^ k : Nat) : Int) = (256 : Int) ^ k := by rw [Int.natCast_pow]; rfl
              omega
            have h6 : 256 ^ k ≤ 256 ^ 4 := Nat.pow_le_pow_right (by omega) (by omega)
            have h1 := r_num_back m k 4294967296 R (by omega) hq4 (by omega)
            clear q4 hq4 h6
            show wpfS PR G false _ _ _ ⟨[], [.mrow [.p (.int .i64 0), .os (.loc 1) A.length], .arr 1 true (bytesOf A), .row [.int .i64 0, .sl (bytesOf (numB m k ++ R))]]⟩ _
            repeat' ((first | refine brP_t (by assumption) ?_ | refine brP_f (by assumption) ?_ | refine brP_t (decide_eq_true (by omega)) ?_ | refine brP_f (decide_eq_false (by omega)) ?_ | refine brP_t (nd_t (by omega)) ?_ | refine brP_f (nd_f (by omega)) ?_ | ((conv in (opS _ _ _ _) => whnf); rw [Int.toNat_natCast, hget]) | ((conv in (opM _ _ _ _ _) => whnf); (conv in (opS _ _ _ _) => whnf); rw [Int.toNat_natCast, hget]) | refine callK_r (EvR.fr [_] h1 rfl rfl ⟨rfl, trivial⟩ rfl) ?_ | refine callM_l (LEv.fr [_] h1 rfl rfl ⟨rfl, trivial⟩ rfl rfl) ?_ | refine callK_rt (EvR.fr [_] h1 rfl rfl ⟨rfl, trivial⟩ rfl) ?_ | refine callK_rf rfl (EvR.fr [_] h1 rfl rfl ⟨rfl, trivial⟩ rfl) ?_ | refine callK_rft rfl (EvR.fr [_] h1 rfl rfl ⟨rfl, trivial⟩ rfl) ?_ | refine brP_f (nd_f rfl) ?_ | refine wpfS_seq1 ?_ | refine wpfS_go ?_ | fail) <;> conv => whnf)
            rw [hw2]
            refine ⟨i + 1, hi', (show l.length - (i + 1) < l.length - i by omega), ⟨rfl, rfl, rfl, trivial⟩, ?_⟩
            rw [← hR]; rfl
        · have hi' : i = l.length := by have := of_decide_eq_false h; omega
          subst hi'
          clear h hi
          rw [List.drop_length]
          have h4 := r_Left_ok 0 []
          have h6 := r_Err_ok 0 []
          conv => whnf
          repeat' ((first | refine brP_t (by assumption) ?_ | refine brP_f (by assumption) ?_ | refine brP_t (decide_eq_true (by omega)) ?_ | refine brP_f (decide_eq_false (by omega)) ?_ | refine brP_t (nd_t (by omega)) ?_ | refine brP_f (nd_f (by omega)) ?_ | refine callK_r (EvR.fr [_] h4 rfl rfl ⟨rfl, trivial⟩ rfl) ?_ | refine callM_l (LEv.fr [_] h4 rfl rfl ⟨rfl, trivial⟩ rfl rfl) ?_ | refine callK_rt (EvR.fr [_] h4 rfl rfl ⟨rfl, trivial⟩ rfl) ?_ | refine callK_rf rfl (EvR.fr [_] h4 rfl rfl ⟨rfl, trivial⟩ rfl) ?_ | refine callK_rft rfl (EvR.fr [_] h4 rfl rfl ⟨rfl, trivial⟩ rfl) ?_ | refine callK_r (EvR.fr [_] h6 rfl rfl ⟨rfl, trivial⟩ rfl) ?_ | refine callM_l (LEv.fr [_] h6 rfl rfl ⟨rfl, trivial⟩ rfl rfl) ?_ | refine callK_rt (EvR.fr [_] h6 rfl rfl ⟨rfl, trivial⟩ rfl) ?_ | refine callK_rf rfl (EvR.fr [_] h6 rfl rfl ⟨rfl, trivial⟩ rfl) ?_ | refine callK_rft rfl (EvR.fr [_] h6 rfl rfl ⟨rfl, trivial⟩ rfl) ?_ | refine callK_p L05_alive_ok ?_ | refine callM_p L05_alive_ok rfl ?_ | refine callK_pf rfl L05_alive_ok ?_ | refine wpfS_seq1 ?_ | refine wpfS_go ?_ | fail) <;> conv => whnf)
          rfl
      · generalize stW l = st at *
        obtain ⟨e, bs⟩ := st
        have he : e ≠ 0 := he
        have e1 := w_done_bad e bs he
        conv => whnf
        repeat' ((first | refine brP_t (by assumption) ?_ | refine brP_f (by assumption) ?_ | refine brP_t (decide_eq_true (by omega)) ?_ | refine brP_f (decide_eq_false (by omega)) ?_ | refine brP_t (nd_t (by omega)) ?_ | refine brP_f (nd_f (by omega)) ?_ | refine callK_r (EvR.fr [_, _] e1 rfl rfl ⟨rfl, rfl, trivial⟩ rfl) ?_ | refine callM_l (LEv.fr [_, _] e1 rfl rfl ⟨rfl, rfl, trivial⟩ rfl rfl) ?_ | refine callK_rt (EvR.fr [_, _] e1 rfl rfl ⟨rfl, rfl, trivial⟩ rfl) ?_ | refine callK_rf rfl (EvR.fr [_, _] e1 rfl rfl ⟨rfl, rfl, trivial⟩ rfl) ?_ | refine callK_rft rfl (EvR.fr [_, _] e1 rfl rfl ⟨rfl, rfl, trivial⟩ rfl) ?_ | refine callK_p L05_alive_ok ?_ | refine callM_p L05_alive_ok rfl ?_ | refine callK_pf rfl L05_alive_ok ?_ | refine wpfS_seq1 ?_ | refine wpfS_go ?_ | fail) <;> conv => whnf)
        rfl
/-- To nobody nothing is written, and nobody has anything. -/
theorem nobody_ok (n size : Int) (s : List UInt8) : EvP PR G f_L05_WireNobody [iv n, iv size, .c (.p (.str s))] (bv true) := by
  have h1 : EvR PR G f_wire_Writer_Num [.c .nilp, iv n, iv size] ⟨[], []⟩ (.tup []) ⟨[], []⟩ := by
    refine EvR.of_wpf false false hm c_wire_Writer_Num rfl ?_
    conv => whnf
    repeat' ((first | refine brP_t (by assumption) ?_ | refine brP_f (by assumption) ?_ | refine brP_t (decide_eq_true (by omega)) ?_ | refine brP_f (decide_eq_false (by omega)) ?_ | refine brP_t (nd_t (by omega)) ?_ | refine brP_f (nd_f (by omega)) ?_ | refine wpfS_go ?_ | refine brP_mk (fun h => ?_) (fun h => ?_) | fail) <;> conv => whnf)
    exact ⟨rfl, rfl⟩
  have h2 : EvR PR G f_wire_Writer_Text [.c .nilp, .c (.p (.str s))] ⟨[], []⟩ (.tup []) ⟨[], []⟩ := by
    refine EvR.of_wpf false false hm c_wire_Writer_Text rfl ?_
    conv => whnf
    repeat' ((first | refine brP_t (by assumption) ?_ | refine brP_f (by assumption) ?_ | refine brP_t (decide_eq_true (by omega)) ?_ | refine brP_f (decide_eq_false (by omega)) ?_ | refine brP_t (nd_t (by omega)) ?_ | refine brP_f (nd_f (by omega)) ?_ | refine wpfS_go ?_ | refine brP_mk (fun h => ?_) (fun h => ?_) | fail) <;> conv => whnf)
    exact ⟨rfl, rfl⟩
  have h3 : EvR PR G f_wire_Reader_Fail [.c .nilp, iv 3] ⟨[], []⟩ (.tup []) ⟨[], []⟩ := by
    refine EvR.of_wpf false false hm c_wire_Reader_Fail rfl ?_
    conv => whnf
    repeat' ((first | refine brP_t (by assumption) ?_ | refine brP_f (by assumption) ?_ | refine brP_t (decide_eq_true (by omega)) ?_ | refine brP_f (decide_eq_false (by omega)) ?_ | refine brP_t (nd_t (by omega)) ?_ | refine brP_f (nd_f (by omega)) ?_ | refine wpfS_go ?_ | refine brP_mk (fun h => ?_) (fun h => ?_) | fail) <;> conv => whnf)
    exact ⟨rfl, rfl⟩
  have h4 : EvR PR G f_wire_Writer_Done [.c .nilp] ⟨[], []⟩ (.tup [slv [], iv 2]) ⟨[], []⟩ := by
    refine EvR.of_wpf false true hm c_wire_Writer_Done rfl ?_
    conv => whnf
    repeat' ((first | refine brP_t (by assumption) ?_ | refine brP_f (by assumption) ?_ | refine brP_t (decide_eq_true (by omega)) ?_ | refine brP_f (decide_eq_false (by omega)) ?_ | refine brP_t (nd_t (by omega)) ?_ | refine brP_f (nd_f (by omega)) ?_ | refine wpfS_go ?_ | refine brP_mk (fun h => ?_) (fun h => ?_) | fail) <;> conv => whnf)
    exact ⟨rfl, rfl⟩
  have h5 : EvR PR G f_wire_Reader_Num [.c .nilp, iv size, iv n] ⟨[], []⟩ (iv 0) ⟨[], []⟩ := by
    refine EvR.of_wpf false false hm c_wire_Reader_Num rfl ?_
    conv => whnf
    repeat' ((first | refine brP_t (by assumption) ?_ | refine brP_f (by assumption) ?_ | refine brP_t (decide_eq_true (by omega)) ?_ | refine brP_f (decide_eq_false (by omega)) ?_ | refine brP_t (nd_t (by omega)) ?_ | refine brP_f (nd_f (by omega)) ?_ | refine wpfS_go ?_ | refine brP_mk (fun h => ?_) (fun h => ?_) | fail) <;> conv => whnf)
    exact ⟨rfl, rfl⟩
  have h6 : EvR PR G f_wire_Reader_Text [.c .nilp, iv n] ⟨[], []⟩ (.c (.p (.str []))) ⟨[], []⟩ := by
    refine EvR.of_wpf false false hm c_wire_Reader_Text rfl ?_
    conv => whnf
    repeat' ((first | refine brP_t (by assumption) ?_ | refine brP_f (by assumption) ?_ | refine brP_t (decide_eq_true (by omega)) ?_ | refine brP_f (decide_eq_false (by omega)) ?_ | refine brP_t (nd_t (by omega)) ?_ | refine brP_f (nd_f (by omega)) ?_ | refine wpfS_go ?_ | refine brP_mk (fun h => ?_) (fun h => ?_) | fail) <;> conv => whnf)
    exact ⟨rfl, rfl⟩
  have h7 : EvR PR G f_wire_Reader_Left [.c .nilp] ⟨[], []⟩ (iv 0) ⟨[], []⟩ := by
    refine EvR.of_wpf false false hm c_wire_Reader_Left rfl ?_
    conv => whnf
    repeat' ((first | refine brP_t (by assumption) ?_ | refine brP_f (by assumption) ?_ | refine brP_t (decide_eq_true (by omega)) ?_ | refine brP_f (decide_eq_false (by omega)) ?_ | refine brP_t (nd_t (by omega)) ?_ | refine brP_f (nd_f (by omega)) ?_ | refine wpfS_go ?_ | refine brP_mk (fun h => ?_) (fun h => ?_) | fail) <;> conv => whnf)
    exact ⟨rfl, rfl⟩
  have h8 : EvR PR G f_wire_Reader_Err [.c .nilp] ⟨[], []⟩ (iv 2) ⟨[], []⟩ := by
    refine EvR.of_wpf false false hm c_wire_Reader_Err rfl ?_
    conv => whnf
    repeat' ((first | refine brP_t (by assumption) ?_ | refine brP_f (by assumption) ?_ | refine brP_t (decide_eq_true (by omega)) ?_ | refine brP_f (decide_eq_false (by omega)) ?_ | refine brP_t (nd_t (by omega)) ?_ | refine brP_f (nd_f (by omega)) ?_ | refine wpfS_go ?_ | refine brP_mk (fun h => ?_) (fun h => ?_) | fail) <;> conv => whnf)
    exact ⟨rfl, rfl⟩
  refine EvP.of_wpf false hm c_L05_WireNobody rfl ?_
  conv => whnf
  repeat' ((first | refine brP_t (by assumption) ?_ | refine brP_f (by assumption) ?_ | refine brP_t (decide_eq_true (by omega)) ?_ | refine brP_f (decide_eq_false (by omega)) ?_ | refine brP_t (nd_t (by omega)) ?_ | refine brP_f (nd_f (by omega)) ?_ | refine callK_r (EvR.fr [] h1 rfl rfl trivial rfl) ?_ | refine callM_l (LEv.fr [] h1 rfl rfl trivial rfl rfl) ?_ | refine callK_rt (EvR.fr [] h1 rfl rfl trivial rfl) ?_ | refine callK_rf rfl (EvR.fr [] h1 rfl rfl trivial rfl) ?_ | refine callK_rft rfl (EvR.fr [] h1 rfl rfl trivial rfl) ?_ | refine callK_r (EvR.fr [] h2 rfl rfl trivial rfl) ?_ | refine callM_l (LEv.fr [] h2 rfl rfl trivial rfl rfl) ?_ | refine callK_rt (EvR.fr [] h2 rfl rfl trivial rfl) ?_ | refine callK_rf rfl (EvR.fr [] h2 rfl rfl trivial rfl) ?_ | refine callK_rft rfl (EvR.fr [] h2 rfl rfl trivial rfl) ?_ | refine callK_r (EvR.fr [] h3 rfl rfl trivial rfl) ?_ | refine callM_l (LEv.fr [] h3 rfl rfl trivial rfl rfl) ?_ | refine callK_rt (EvR.fr [] h3 rfl rfl trivial rfl) ?_ | refine callK_rf rfl (EvR.fr [] h3 rfl rfl trivial rfl) ?_ | refine callK_rft rfl (EvR.fr [] h3 rfl rfl trivial rfl) ?_ | refine callK_r (EvR.fr [] h4 rfl rfl trivial rfl) ?_ | refine callM_l (LEv.fr [] h4 rfl rfl trivial rfl rfl) ?_ | refine callK_rt (EvR.fr [] h4 rfl rfl trivial rfl) ?_ | refine callK_rf rfl (EvR.fr [] h4 rfl rfl trivial rfl) ?_ | refine callK_rft rfl (EvR.fr [] h4 rfl rfl trivial rfl) ?_ | refine callK_r (EvR.fr [] h5 rfl rfl trivial rfl) ?_ | refine callM_l (LEv.fr [] h5 rfl rfl trivial rfl rfl) ?_ | refine callK_rt (EvR.fr [] h5 rfl rfl trivial rfl) ?_ | refine callK_rf rfl (EvR.fr [] h5 rfl rfl trivial rfl) ?_ | refine callK_rft rfl (EvR.fr [] h5 rfl rfl trivial rfl) ?_ | refine callK_r (EvR.fr [] h6 rfl rfl trivial rfl) ?_ | refine callM_l (LEv.fr [] h6 rfl rfl trivial rfl rfl) ?_ | refine callK_rt (EvR.fr [] h6 rfl rfl trivial rfl) ?_ | refine callK_rf rfl (EvR.fr [] h6 rfl rfl trivial rfl) ?_ | refine callK_rft rfl (EvR.fr [] h6 rfl rfl trivial rfl) ?_ | refine callK_r (EvR.fr [] h7 rfl rfl trivial rfl) ?_ | refine callM_l (LEv.fr [] h7 rfl rfl trivial rfl rfl) ?_ | refine callK_rt (EvR.fr [] h7 rfl rfl trivial rfl) ?_ | refine callK_rf rfl (EvR.fr [] h7 rfl rfl trivial rfl) ?_ | refine callK_rft rfl (EvR.fr [] h7 rfl rfl trivial rfl) ?_ | refine callK_r (EvR.fr [] h8 rfl rfl trivial rfl) ?_ | refine callM_l (LEv.fr [] h8 rfl rfl trivial rfl rfl) ?_ | refine callK_rt (EvR.fr [] h8 rfl rfl trivial rfl) ?_ | refine callK_rf rfl (EvR.fr [] h8 rfl rfl trivial rfl) ?_ | refine callK_rft rfl (EvR.fr [] h8 rfl rfl trivial rfl) ?_ | refine callK_p L05_alive_ok ?_ | refine callM_p L05_alive_ok rfl ?_ | refine callK_pf rfl L05_alive_ok ?_ | refine wpfS_go ?_ | refine brP_mk (fun h => ?_) (fun h => ?_) | fail) <;> conv => whnf)
  rfl
end Go.Ab.S
