/- Part of a proof; no condition. -/
import Derived.Test.YteipepbijfdciaaWireW3
set_option linter.unusedSimpArgs false
set_option linter.unusedVariables false
namespace Go.Ab.S
open Go Go.Ab Go.Proofs
attribute [local irreducible] SemS
set_option maxRecDepth 100000
/-- What writing a part comes to. -/
def stepW (st : Int × List UInt8) (p : Part) : Int × List UInt8 :=
  if p.t then (if 255 < p.s.length then (firstE st.1 5, st.2) else (st.1, st.2 ++ textB p.s))
  else (if okNum p.n p.size then (st.1, st.2 ++ numB p.n.toNat p.size.toNat) else (firstE st.1 8, st.2))
def stW (l : List Part) : Int × List UInt8 := l.foldl stepW (0, [])
theorem stW_succ {l : List Part} {i : Nat} (h : i < l.length) : stW (l.take (i + 1)) = stepW (stW (l.take i)) l[i] := by
  rw [List.take_succ_eq_append_getElem h, stW, List.foldl_append]; rfl
theorem stepW_len {st : Int × List UInt8} {p : Part} (hs : p.s.length ≤ 300) : (stepW st p).2.length ≤ st.2.length + 256 := by
  unfold stepW
  split
  · split
    · show st.2.length ≤ _; omega
    · simp [textB]; omega
  · split
    · rename_i h
      obtain ⟨h1, h2, -⟩ := of_decide_eq_true h
      show (st.2 ++ numB p.n.toNat p.size.toNat).length ≤ _
      rw [List.length_append, numB_len]; omega
    · show st.2.length ≤ _; omega
theorem stW_len : ∀ {l : List Part}, (∀ p ∈ l, p.s.length ≤ 300) → (stW l).2.length ≤ 256 * l.length := by
  intro l
  have : ∀ (l : List Part) (st : Int × List UInt8), (∀ p ∈ l, p.s.length ≤ 300) → (l.foldl stepW st).2.length ≤ st.2.length + 256 * l.length := by
    intro l
    induction l with
    | nil => intro st _; simp
    | cons p l ih =>
      intro st h
      have h1 := ih (stepW st p) fun q hq => h q (by simp [hq])
      have h2 := stepW_len (st := st) (h p (by simp))
      simp only [List.foldl_cons, List.length_cons]
      omega
  intro h
  have := this l (0, []) h
  simpa [stW] using this
theorem far_false {l : List Part} (h : farB l = false) : l.length ≤ 40 ∧ ∀ p ∈ l, p.s.length ≤ 300 := by
  unfold farB at h
  rw [Bool.or_eq_false_iff, List.any_eq_false] at h
  refine ⟨by have := of_decide_eq_false h.2; omega, fun p hp => ?_⟩
  have := h.1 p hp
  simp at this
  omega
/-- The two writers, side by side. -/
def twoH (st : Int × List UInt8) : Hp := ⟨[], [.mrow [.p (.int .i64 st.1), .os (.loc 2) st.2.length], .mrow [.os (.loc 3) st.2.length, .p (.int .i64 st.1)], .arr 1 false (bytesOf st.2), .arr 1 false (bytesOf st.2)]⟩
theorem writes_ok (l : List Part) (hl : l.length < 2 ^ 63) (hn : ∀ p ∈ l, p.n < 2 ^ 63) : EvP PR G f_L05_WireWrites [slv (prts l)] (bv true) := by
  have hlen := prts_len (l := l)
  have hfar := far_ok l hl
  refine EvP.of_wpf false hm c_L05_WireWrites rfl ?_
  refine wpf_seq1 ?_
  conv => whnf
  refine wpfS_seq1 ?_
  conv => whnf
  cases hf : farB l with
  | true =>
    rw [hf] at hfar
    repeat' ((first | refine brP_t (by assumption) ?_ | refine brP_f (by assumption) ?_ | refine brP_t (decide_eq_true (by omega)) ?_ | refine brP_f (decide_eq_false (by omega)) ?_ | refine brP_t (nd_t (by omega)) ?_ | refine brP_f (nd_f (by omega)) ?_ | refine callK_p hfar ?_ | refine callM_p hfar rfl ?_ | refine callK_pf rfl hfar ?_ | refine callK_p L05_alive_ok ?_ | refine callM_p L05_alive_ok rfl ?_ | refine callK_pf rfl L05_alive_ok ?_ | refine wpfS_go ?_ | refine brP_mk (fun h => ?_) (fun h => ?_) | fail) <;> conv => whnf)
    rfl
  | false =>
    rw [hf] at hfar
    obtain ⟨h40, h300⟩ := far_false hf
    repeat' ((first | refine brP_t (by assumption) ?_ | refine brP_f (by assumption) ?_ | refine brP_t (decide_eq_true (by omega)) ?_ | refine brP_f (decide_eq_false (by omega)) ?_ | refine brP_t (nd_t (by omega)) ?_ | refine brP_f (nd_f (by omega)) ?_ | refine callK_p hfar ?_ | refine callM_p hfar rfl ?_ | refine callK_pf rfl hfar ?_ | fail) <;> conv => whnf)
    refine wpfS_seq1 ?_
    conv => whnf
    refine wpfS_seq1 ?_
    conv => whnf
    refine wpfS_seq1 ?_
    conv => whnf
    refine SemS.weak (Weak.trans (Weak.nils (id := .loc 0) (j := 1) 1 (by omega) rfl rfl) (Weak.nils (id := .loc 1) (j := 0) 1 (by omega) rfl rfl)) ?_
    refine SemS.loopF false hm (σ := Nat) (fun i => [(0, slv (prts l)), (3, .c (.ptr (.loc 0) 0)), (4, .c (.ptr (.loc 1) 0)), (5, iv i)])
      (fun i => twoH (stW (l.take i)))
      (fun i => l.length - i) (fun i => i ≤ l.length) 0 (Nat.zero_le _) ⟨rfl, rfl, rfl, rfl, trivial⟩ rfl ?_
    intro i hi
    conv => whnf
    rw [hlen]
    refine brP_mk (fun h => ?_) (fun h => ?_)
    · have hi' : i < l.length := by have := of_decide_eq_true h; omega
      clear h
      have hget := prts_get hi'
      have hw2 : IntKind.i64.wrap ((i : Int) + 1) = ((i + 1 : Nat) : Int) := by rw [wrap64 (by omega)]; rfl
      have hst := stW_succ hi'
      have hbl : (stW (l.take i)).2.length ≤ 2 ^ 40 := by
        have h1 := stW_len (l := l.take i) fun p hp => h300 p (List.mem_of_mem_take hp)
        have h2 : (l.take i).length ≤ 40 := by rw [List.length_take]; omega
        omega
      have hpn := hn l[i] (List.getElem_mem hi')
      generalize hst1 : stW (l.take (i + 1)) = st1 at *
      generalize stW (l.take i) = st0 at *
      obtain ⟨e, bs⟩ := st0
      have hbl : bs.length ≤ 2 ^ 40 := hbl
      generalize l[i] = p at *
      obtain ⟨t, n, size, most, s⟩ := p
      have hget : (prts l)[i]? = some [.bool t, .int .i64 n, .int .i64 size, .int .i64 most, .str s] := hget
      have hpn : n < 2 ^ 63 := hpn
      cases t with
      | true =>
        by_cases hs : 255 < s.length
        · have e1 := w_text_bad e bs s hs
          have e2 := rw_text_bad e bs s hs
          have hst : st1 = (firstE e 5, bs) := by rw [hst]; simp [stepW, hs]
          rw [hst] at hst1
          conv => whnf
          repeat' ((first | refine brP_t (by assumption) ?_ | refine brP_f (by assumption) ?_ | refine brP_t (decide_eq_true (by omega)) ?_ | refine brP_f (decide_eq_false (by omega)) ?_ | refine brP_t (nd_t (by omega)) ?_ | refine brP_f (nd_f (by omega)) ?_ | ((conv in (opS _ _ _ _) => whnf); rw [Int.toNat_natCast, hget]) | refine callK_r (EvR.fr [_, _] e1 rfl rfl ⟨rfl, rfl, trivial⟩ rfl) ?_ | refine callM_l (LEv.fr [_, _] e1 rfl rfl ⟨rfl, rfl, trivial⟩ rfl rfl) ?_ | refine callK_rt (EvR.fr [_, _] e1 rfl rfl ⟨rfl, rfl, trivial⟩ rfl) ?_ | refine callK_rf rfl (EvR.fr [_, _] e1 rfl rfl ⟨rfl, rfl, trivial⟩ rfl) ?_ | refine callK_rft rfl (EvR.fr [_, _] e1 rfl rfl ⟨rfl, rfl, trivial⟩ rfl) ?_ | refine callK_r (EvR.fr [_, _] e2 rfl rfl ⟨rfl, rfl, trivial⟩ rfl) ?_ | refine callM_l (LEv.fr [_, _] e2 rfl rfl ⟨rfl, rfl, trivial⟩ rfl rfl) ?_ | refine callK_rt (EvR.fr [_, _] e2 rfl rfl ⟨rfl, rfl, trivial⟩ rfl) ?_ | refine callK_rf rfl (EvR.fr [_, _] e2 rfl rfl ⟨rfl, rfl, trivial⟩ rfl) ?_ | refine callK_rft rfl (EvR.fr [_, _] e2 rfl rfl ⟨rfl, rfl, trivial⟩ rfl) ?_ | refine wpfS_go ?_ | refine brP_mk (fun h => ?_) (fun h => ?_) | fail) <;> conv => whnf)
          rw [hw2]
          refine ⟨i + 1, hi', (show l.length - (i + 1) < l.length - i by omega), ⟨rfl, rfl, rfl, rfl, trivial⟩, ?_⟩
          show _ = twoH (stW (l.take (i + 1)))
          rw [hst1]; rfl
        · have e1 := w_text_ok e bs hbl s (by omega)
          have e2 := rw_text_ok e bs hbl s (by omega)
          have hst : st1 = (e, bs ++ textB s) := by rw [hst]; simp [stepW, hs]
          rw [hst] at hst1
          conv => whnf
          repeat' ((first | refine brP_t (by assumption) ?_ | refine brP_f (by assumption) ?_ | refine brP_t (decide_eq_true (by omega)) ?_ | refine brP_f (decide_eq_false (by omega)) ?_ | refine brP_t (nd_t (by omega)) ?_ | refine brP_f (nd_f (by omega)) ?_ | ((conv in (opS _ _ _ _) => whnf); rw [Int.toNat_natCast, hget]) | refine callK_r (EvR.fr [_, _] e1 rfl rfl ⟨rfl, rfl, trivial⟩ rfl) ?_ | refine callM_l (LEv.fr [_, _] e1 rfl rfl ⟨rfl, rfl, trivial⟩ rfl rfl) ?_ | refine callK_rt (EvR.fr [_, _] e1 rfl rfl ⟨rfl, rfl, trivial⟩ rfl) ?_ | refine callK_rf rfl (EvR.fr [_, _] e1 rfl rfl ⟨rfl, rfl, trivial⟩ rfl) ?_ | refine callK_rft rfl (EvR.fr [_, _] e1 rfl rfl ⟨rfl, rfl, trivial⟩ rfl) ?_ | refine callK_r (EvR.fr [_, _] e2 rfl rfl ⟨rfl, rfl, trivial⟩ rfl) ?_ | refine callM_l (LEv.fr [_, _] e2 rfl rfl ⟨rfl, rfl, trivial⟩ rfl rfl) ?_ | refine callK_rt (EvR.fr [_, _] e2 rfl rfl ⟨rfl, rfl, trivial⟩ rfl) ?_ | refine callK_rf rfl (EvR.fr [_, _] e2 rfl rfl ⟨rfl, rfl, trivial⟩ rfl) ?_ | refine callK_rft rfl (EvR.fr [_, _] e2 rfl rfl ⟨rfl, rfl, trivial⟩ rfl) ?_ | refine wpfS_go ?_ | refine brP_mk (fun h => ?_) (fun h => ?_) | fail) <;> conv => whnf)
          rw [hw2]
          refine ⟨i + 1, hi', (show l.length - (i + 1) < l.length - i by omega), ⟨rfl, rfl, rfl, rfl, trivial⟩, ?_⟩
          show _ = twoH (stW (l.take (i + 1)))
          rw [hst1]; rfl
      | false =>
        cases hok : okNum n size with
        | false =>
          have e1 := w_num_bad e bs n size hok
          have e2 := rw_num_bad e bs n size hpn hok
          have hst : st1 = (firstE e 8, bs) := by rw [hst]; simp [stepW, hok]
          rw [hst] at hst1
          clear hok
          conv => whnf
          repeat' ((first | refine brP_t (by assumption) ?_ | refine brP_f (by assumption) ?_ | refine brP_t (decide_eq_true (by omega)) ?_ | refine brP_f (decide_eq_false (by omega)) ?_ | refine brP_t (nd_t (by omega)) ?_ | refine brP_f (nd_f (by omega)) ?_ | ((conv in (opS _ _ _ _) => whnf); rw [Int.toNat_natCast, hget]) | refine callK_r (EvR.fr [_, _] e1 rfl rfl ⟨rfl, rfl, trivial⟩ rfl) ?_ | refine callM_l (LEv.fr [_, _] e1 rfl rfl ⟨rfl, rfl, trivial⟩ rfl rfl) ?_ | refine callK_rt (EvR.fr [_, _] e1 rfl rfl ⟨rfl, rfl, trivial⟩ rfl) ?_ | refine callK_rf rfl (EvR.fr [_, _] e1 rfl rfl ⟨rfl, rfl, trivial⟩ rfl) ?_ | refine callK_rft rfl (EvR.fr [_, _] e1 rfl rfl ⟨rfl, rfl, trivial⟩ rfl) ?_ | refine callK_r (EvR.fr [_, _] e2 rfl rfl ⟨rfl, rfl, trivial⟩ rfl) ?_ | refine callM_l (LEv.fr [_, _] e2 rfl rfl ⟨rfl, rfl, trivial⟩ rfl rfl) ?_ | refine callK_rt (EvR.fr [_, _] e2 rfl rfl ⟨rfl, rfl, trivial⟩ rfl) ?_ | refine callK_rf rfl (EvR.fr [_, _] e2 rfl rfl ⟨rfl, rfl, trivial⟩ rfl) ?_ | refine callK_rft rfl (EvR.fr [_, _] e2 rfl rfl ⟨rfl, rfl, trivial⟩ rfl) ?_ | refine wpfS_go ?_ | refine brP_mk (fun h => ?_) (fun h => ?_) | fail) <;> conv => whnf)
          rw [hw2]
          refine ⟨i + 1, hi', (show l.length - (i + 1) < l.length - i by omega), ⟨rfl, rfl, rfl, rfl, trivial⟩, ?_⟩
          show _ = twoH (stW (l.take (i + 1)))
          rw [hst1]; rfl
        | true =>
          obtain ⟨q1, q2, q3, -⟩ := of_decide_eq_true hok
          obtain ⟨m, rfl⟩ := Int.eq_ofNat_of_zero_le q3
          obtain ⟨k, rfl⟩ := Int.eq_ofNat_of_zero_le (show 0 ≤ size by omega)
          have e1 := w_num_ok e bs hbl m k hok
          have e2 := rw_num_ok e bs hbl m k hok
          have hst : st1 = (e, bs ++ numB m k) := by rw [hst]; simp [stepW, hok]
          rw [hst] at hst1
          clear hok
          conv => whnf
          repeat' ((first | refine brP_t (by assumption) ?_ | refine brP_f (by assumption) ?_ | refine brP_t (decide_eq_true (by omega)) ?_ | refine brP_f (decide_eq_false (by omega)) ?_ | refine brP_t (nd_t (by omega)) ?_ | refine brP_f (nd_f (by omega)) ?_ | ((conv in (opS _ _ _ _) => whnf); rw [Int.toNat_natCast, hget]) | refine callK_r (EvR.fr [_, _] e1 rfl rfl ⟨rfl, rfl, trivial⟩ rfl) ?_ | refine callM_l (LEv.fr [_, _] e1 rfl rfl ⟨rfl, rfl, trivial⟩ rfl rfl) ?_ | refine callK_rt (EvR.fr [_, _] e1 rfl rfl ⟨rfl, rfl, trivial⟩ rfl) ?_ | refine callK_rf rfl (EvR.fr [_, _] e1 rfl rfl ⟨rfl, rfl, trivial⟩ rfl) ?_ | refine callK_rft rfl (EvR.fr [_, _] e1 rfl rfl ⟨rfl, rfl, trivial⟩ rfl) ?_ | refine callK_r (EvR.fr [_, _] e2 rfl rfl ⟨rfl, rfl, trivial⟩ rfl) ?_ | refine callM_l (LEv.fr [_, _] e2 rfl rfl ⟨rfl, rfl, trivial⟩ rfl rfl) ?_ | refine callK_rt (EvR.fr [_, _] e2 rfl rfl ⟨rfl, rfl, trivial⟩ rfl) ?_ | refine callK_rf rfl (EvR.fr [_, _] e2 rfl rfl ⟨rfl, rfl, trivial⟩ rfl) ?_ | refine callK_rft rfl (EvR.fr [_, _] e2 rfl rfl ⟨rfl, rfl, trivial⟩ rfl) ?_ | refine wpfS_go ?_ | refine brP_mk (fun h => ?_) (fun h => ?_) | fail) <;> conv => whnf)
          rw [hw2]
          refine ⟨i + 1, hi', (show l.length - (i + 1) < l.length - i by omega), ⟨rfl, rfl, rfl, rfl, trivial⟩, ?_⟩
          show _ = twoH (stW (l.take (i + 1)))
          rw [hst1]; rfl
    · have hi' : i = l.length := by have := of_decide_eq_false h; omega
      subst hi'
      clear h hi
      have hbl : (stW l).2.length ≤ 2 ^ 40 := by
        have h1 := stW_len (l := l) h300
        omega
      rw [List.take_length]
      generalize stW l = st at *
      obtain ⟨e, bs⟩ := st
      have hbl : bs.length ≤ 2 ^ 40 := hbl
      have hbl2 := bytesOf_len bs
      have hun := unbytes_bytesOf bs
      by_cases he : e = 0
      · subst he
        have e1 := w_done_ok bs hbl
        conv => whnf
        refine wpfS_go ?_
        conv => whnf
        repeat' ((first | refine brP_t (by assumption) ?_ | refine brP_f (by assumption) ?_ | refine brP_t (decide_eq_true (by omega)) ?_ | refine brP_f (decide_eq_false (by omega)) ?_ | refine brP_t (nd_t (by omega)) ?_ | refine brP_f (nd_f (by omega)) ?_ | refine callK_r (EvR.fr [_, _] e1 rfl rfl ⟨rfl, rfl, trivial⟩ rfl) ?_ | refine callM_l (LEv.fr [_, _] e1 rfl rfl ⟨rfl, rfl, trivial⟩ rfl rfl) ?_ | refine callK_rt (EvR.fr [_, _] e1 rfl rfl ⟨rfl, rfl, trivial⟩ rfl) ?_ | refine callK_rf rfl (EvR.fr [_, _] e1 rfl rfl ⟨rfl, rfl, trivial⟩ rfl) ?_ | refine callK_rft rfl (EvR.fr [_, _] e1 rfl rfl ⟨rfl, rfl, trivial⟩ rfl) ?_ | refine callK_p L05_alive_ok ?_ | refine callM_p L05_alive_ok rfl ?_ | refine callK_pf rfl L05_alive_ok ?_ | ((conv in (opS _ _ _ _) => whnf); rw [bytesS_sl]) | ((conv in (opS _ _ _ _) => whnf); rw [bytesS_os (s := bs) rfl]) | (refine gd_mk ?_ ?_; focus (rw [hbl2]; simp; done)) | refine brP_t (decide_eq_true (rfl : bs = bs)) ?_ | refine wpfS_go ?_ | refine brP_mk (fun h => ?_) (fun h => ?_) | fail) <;> conv => whnf)
        rfl
      · have e1 := w_done_bad e bs he
        conv => whnf
        refine wpfS_go ?_
        conv => whnf
        repeat' ((first | refine brP_t (by assumption) ?_ | refine brP_f (by assumption) ?_ | refine brP_t (decide_eq_true (by omega)) ?_ | refine brP_f (decide_eq_false (by omega)) ?_ | refine brP_t (nd_t (by omega)) ?_ | refine brP_f (nd_f (by omega)) ?_ | refine callK_r (EvR.fr [_, _] e1 rfl rfl ⟨rfl, rfl, trivial⟩ rfl) ?_ | refine callM_l (LEv.fr [_, _] e1 rfl rfl ⟨rfl, rfl, trivial⟩ rfl rfl) ?_ | refine callK_rt (EvR.fr [_, _] e1 rfl rfl ⟨rfl, rfl, trivial⟩ rfl) ?_ | refine callK_rf rfl (EvR.fr [_, _] e1 rfl rfl ⟨rfl, rfl, trivial⟩ rfl) ?_ | refine callK_rft rfl (EvR.fr [_, _] e1 rfl rfl ⟨rfl, rfl, trivial⟩ rfl) ?_ | refine callK_p L05_alive_ok ?_ | refine callM_p L05_alive_ok rfl ?_ | refine callK_pf rfl L05_alive_ok ?_ | refine wpfS_go ?_ | refine brP_mk (fun h => ?_) (fun h => ?_) | fail) <;> conv => whnf)
        rfl
end Go.Ab.S

