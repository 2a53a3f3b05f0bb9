/- Part of a proof; no condition. -/
import Derived.Test.YtmohadlgjokgmaaLW7
set_option linter.unusedSimpArgs false
set_option linter.unusedVariables false
namespace Go.Ab.S
open Go Go.Ab Go.Proofs
attribute [local irreducible] SemS
set_option maxRecDepth 100000
/-- The document's reader: what was read, what is left, the first error. -/
def rrB (e : Int) (pre bs : List UInt8) : List Blk := [.row [.sl (bytesOf (pre ++ bs)), .int .i64 pre.length, .int .i64 e]]
theorem rr_shift (e : Int) (pre : List UInt8) (c : UInt8) (r : List UInt8) : rrB e (pre ++ [c]) r = [.row [.sl (bytesOf (pre ++ c :: r)), .int .i64 ((pre.length + 1 : Nat) : Int), .int .i64 e]] := by
  unfold rrB
  rw [List.append_assoc, List.length_append]; rfl
theorem rr_Byte_bad (e : Int) (pre bs : List UInt8) (he : e ≠ 0) : EvR PR G f_R05_R_Byte [.c (.ptr (.par 0) 0)] ⟨rrB e pre bs, []⟩ (iv 0) ⟨rrB e pre bs, []⟩ := by
  refine EvR.of_wpf false false hm c_R05_R_Byte rfl ?_
  conv => whnf
  repeat' ((first | refine brP_t (by assumption) ?_ | refine brP_f (by assumption) ?_ | refine brP_t (decide_eq_true (by omega)) ?_ | refine brP_f (decide_eq_false (by omega)) ?_ | refine brP_t (nd_t (by omega)) ?_ | refine brP_f (nd_f (by omega)) ?_ | refine wpfS_go ?_ | refine brP_mk (fun h => ?_) (fun h => ?_) | fail) <;> conv => whnf)
  exact ⟨rfl, rfl⟩
theorem rr_Byte_end (pre : List UInt8) : EvR PR G f_R05_R_Byte [.c (.ptr (.par 0) 0)] ⟨rrB 0 pre [], []⟩ (iv 0) ⟨rrB 4 pre [], []⟩ := by
  refine EvR.of_wpf false false hm c_R05_R_Byte rfl ?_
  have hl : (bytesOf (pre ++ [])).length = pre.length := by rw [bytesOf_len, List.append_nil]
  conv => whnf
  repeat' ((first | refine brP_t (by assumption) ?_ | refine brP_f (by assumption) ?_ | refine brP_t (decide_eq_true (by omega)) ?_ | refine brP_f (decide_eq_false (by omega)) ?_ | refine brP_t (nd_t (by omega)) ?_ | refine brP_f (nd_f (by omega)) ?_ | refine wpfS_go ?_ | refine brP_mk (fun h => ?_) (fun h => ?_) | fail) <;> conv => whnf)
  exact ⟨rfl, rfl⟩
theorem rr_Byte_ok (pre : List UInt8) (c : UInt8) (r : List UInt8) (hl : (pre ++ c :: r).length < 2 ^ 62) : EvR PR G f_R05_R_Byte [.c (.ptr (.par 0) 0)] ⟨rrB 0 pre (c :: r), []⟩ (iv c.toNat) ⟨rrB 0 (pre ++ [c]) r, []⟩ := by
  rw [rr_shift]
  refine EvR.of_wpf false false hm c_R05_R_Byte rfl ?_
  have hlen : (bytesOf (pre ++ c :: r)).length = pre.length + r.length + 1 := by rw [bytesOf_len, List.length_append, List.length_cons]; omega
  have hget : (bytesOf (pre ++ c :: r))[pre.length]? = some [.int .u8 c.toNat] := by
    rw [bytesOf_get (by rw [List.length_append, List.length_cons]; omega)]; simp
  have hw : IntKind.i64.wrap ((pre.length : Int) + 1) = ((pre.length + 1 : Nat) : Int) := by rw [wrap64 (by simp at hl; omega)]; rfl
  have hw2 : IntKind.i64.wrap (((pre.length + 1 : Nat) : Int) - 1) = (pre.length : Int) := by rw [wrap64 (by simp at hl; omega)]; omega
  have hc : IntKind.i64.wrap (c.toNat : Int) = c.toNat := wrap64 (by have := c.toNat_lt; omega)
  conv => whnf
  repeat' ((first | refine brP_t (by assumption) ?_ | refine brP_f (by assumption) ?_ | refine brP_t (decide_eq_true (by omega)) ?_ | refine brP_f (decide_eq_false (by omega)) ?_ | refine brP_t (nd_t (by omega)) ?_ | refine brP_f (nd_f (by omega)) ?_ | ((rw [hw])) | ((conv in (opS _ _ _ _) => whnf); rw [hw2, Int.toNat_natCast, hget]) | refine wpfS_go ?_ | refine brP_mk (fun h => ?_) (fun h => ?_) | fail) <;> conv => whnf)
  exact ⟨congrArg iv hc, rfl⟩
theorem rr_Left_ok (e : Int) (pre bs : List UInt8) (hl : (pre ++ bs).length < 2 ^ 62) : EvR PR G f_R05_R_Left [.c (.ptr (.par 0) 0)] ⟨rrB e pre bs, []⟩ (iv (leftR e bs)) ⟨rrB e pre bs, []⟩ := by
  have hlen : (bytesOf (pre ++ bs)).length = pre.length + bs.length := by rw [bytesOf_len, List.length_append]
  have hw : IntKind.i64.wrap (((pre.length + bs.length : Nat) : Int) - pre.length) = bs.length := by rw [wrap64 (by simp at hl; omega)]; omega
  refine EvR.of_wpf false false hm c_R05_R_Left rfl ?_
  conv => whnf
  by_cases h : e = 0
  · have hf : leftR e bs = bs.length := by unfold leftR; rw [if_pos h]
    rw [hf]
    repeat' ((first | refine brP_t (by assumption) ?_ | refine brP_f (by assumption) ?_ | refine brP_t (decide_eq_true (by omega)) ?_ | refine brP_f (decide_eq_false (by omega)) ?_ | refine brP_t (nd_t (by omega)) ?_ | refine brP_f (nd_f (by omega)) ?_ | refine wpfS_go ?_ | refine brP_mk (fun h => ?_) (fun h => ?_) | fail) <;> conv => whnf)
    refine ⟨?_, rfl⟩
    show iv (IntKind.i64.wrap (((bytesOf (pre ++ bs)).length : Nat) - (pre.length : Int))) = _
    rw [hlen, hw]
  · have hf : leftR e bs = 0 := by unfold leftR; rw [if_neg h]
    rw [hf]
    repeat' ((first | refine brP_t (by assumption) ?_ | refine brP_f (by assumption) ?_ | refine brP_t (decide_eq_true (by omega)) ?_ | refine brP_f (decide_eq_false (by omega)) ?_ | refine brP_t (nd_t (by omega)) ?_ | refine brP_f (nd_f (by omega)) ?_ | refine wpfS_go ?_ | refine brP_mk (fun h => ?_) (fun h => ?_) | fail) <;> conv => whnf)
    exact ⟨rfl, rfl⟩
theorem rr_Num_ok (e : Int) (pre bs : List UInt8) (hl : (pre ++ bs).length < 2 ^ 62) (size most : Int) : EvR PR G f_R05_R_Num [.c (.ptr (.par 0) 0), iv size, iv most] ⟨rrB e pre bs, []⟩ (iv (numV e bs size most)) ⟨rrB (numE e bs size most) (pre ++ bs.take (bs.length - (numL false e bs size).length)) (numL false e bs size), []⟩ := by
  refine EvR.of_wpf false false hm c_R05_R_Num rfl ?_
  by_cases he : e = 0
  case neg =>
    have e1 : numV e bs size most = 0 := by unfold numV; rw [if_pos he]
    have e2 : numE e bs size most = e := by unfold numE; rw [if_pos he]
    have e3 : numL false e bs size = bs := by unfold numL; rw [if_pos he]
    rw [e1, e2, e3, show bs.length - bs.length = 0 by omega, List.take_zero, List.append_nil]
    refine wpf_seq1 ?_
    conv => whnf
    repeat' ((first | refine brP_t (by assumption) ?_ | refine brP_f (by assumption) ?_ | refine brP_t (decide_eq_true (by omega)) ?_ | refine brP_f (decide_eq_false (by omega)) ?_ | refine brP_t (nd_t (by omega)) ?_ | refine brP_f (nd_f (by omega)) ?_ | refine wpfS_seq1 ?_ | refine wpfS_go ?_ | fail) <;> conv => whnf)
    by_cases hz : 0 < size
    all_goals
      refine SemS.loop1 false hm ?_
      refine wpf_seq1 ?_
      conv => whnf
      repeat' ((first | refine brP_t (by assumption) ?_ | refine brP_f (by assumption) ?_ | refine brP_t (decide_eq_true (by omega)) ?_ | refine brP_f (decide_eq_false (by omega)) ?_ | refine brP_t (nd_t (by omega)) ?_ | refine brP_f (nd_f (by omega)) ?_ | refine wpfS_seq1 ?_ | refine wpfS_go ?_ | fail) <;> conv => whnf)
      exact ⟨rfl, rfl⟩
  subst he
  by_cases hs : 1 ≤ size ∧ size ≤ 4
  case neg =>
    have e1 : numV 0 bs size most = 0 := by unfold numV; rw [if_neg (by simp), if_pos hs]
    have e2 : numE 0 bs size most = 8 := by unfold numE; rw [if_neg (by simp), if_pos hs]
    have e3 : numL false 0 bs size = bs := by unfold numL; rw [if_neg (by simp), if_pos hs]
    rw [e1, e2, e3, show bs.length - bs.length = 0 by omega, List.take_zero, List.append_nil]
    by_cases h1 : size < 1
    all_goals
      refine wpf_seq1 ?_
      conv => whnf
      repeat' ((first | refine brP_t (by assumption) ?_ | refine brP_f (by assumption) ?_ | refine brP_t (decide_eq_true (by omega)) ?_ | refine brP_f (decide_eq_false (by omega)) ?_ | refine brP_t (nd_t (by omega)) ?_ | refine brP_f (nd_f (by omega)) ?_ | refine wpfS_seq1 ?_ | refine wpfS_go ?_ | fail) <;> conv => whnf)
      refine SemS.loop1 false hm ?_
      refine wpf_seq1 ?_
      conv => whnf
      repeat' ((first | refine brP_t (by assumption) ?_ | refine brP_f (by assumption) ?_ | refine brP_t (decide_eq_true (by omega)) ?_ | refine brP_f (decide_eq_false (by omega)) ?_ | refine brP_t (nd_t (by omega)) ?_ | refine brP_f (nd_f (by omega)) ?_ | refine wpfS_seq1 ?_ | refine wpfS_go ?_ | fail) <;> conv => whnf)
      exact ⟨rfl, rfl⟩
  obtain ⟨k, rfl⟩ := Int.eq_ofNat_of_zero_le (show 0 ≤ size by omega)
  refine wpf_seq1 ?_
  conv => whnf
  repeat' ((first | refine brP_t (by assumption) ?_ | refine brP_f (by assumption) ?_ | refine brP_t (decide_eq_true (by omega)) ?_ | refine brP_f (decide_eq_false (by omega)) ?_ | refine brP_t (nd_t (by omega)) ?_ | refine brP_f (nd_f (by omega)) ?_ | refine wpfS_seq1 ?_ | refine wpfS_go ?_ | fail) <;> conv => whnf)
  have hvl := valB_lt bs
  refine SemS.loopF false hm (σ := Nat × Bool) (fun s => match s.2 with
      | false => [(7, iv (valB (bs.take s.1))), (8, iv s.1), (0, .c (.ptr (.par 0) 0)), (1, iv k), (2, iv most)]
      | true => [(8, iv s.1), (0, .c (.ptr (.par 0) 0)), (1, iv k), (2, iv most), (7, iv (IntKind.i64.wrap (IntKind.i64.wrap (256 * (valB bs : Int)) + 0)))])
    (fun s => match s.2 with
      | false => ⟨rrB 0 (pre ++ bs.take s.1) (bs.drop s.1), []⟩
      | true => ⟨rrB 4 (pre ++ bs) [], []⟩)
    (fun s => match s.2 with | false => 1 + k - s.1 | true => 0)
    (fun s => match s.2 with | false => s.1 ≤ k ∧ s.1 ≤ bs.length | true => bs.length < k ∧ s.1 ≤ k) (0, false) ⟨Nat.zero_le _, Nat.zero_le _⟩ ⟨rfl, rfl, rfl, rfl, rfl, trivial⟩ (by simp) ?_
  rintro ⟨i, b⟩ hi
  cases b with
  | true =>
    obtain ⟨hb, hi⟩ := hi
    have hb' : (bs.length : Int) < (k : Int) := by omega
    have e1 : numV 0 bs k most = 0 := by unfold numV; rw [if_neg (by simp), if_neg (by omega), if_pos hb']
    have e2 : numE 0 bs k most = 4 := by unfold numE; rw [if_neg (by simp), if_neg (by omega), if_pos hb']
    have e3 : numL false 0 bs k = [] := by unfold numL; rw [if_neg (by simp), if_neg (by omega), if_pos hb']; rfl
    rw [e1, e2, e3, List.length_nil, Nat.sub_zero, List.take_length]
    by_cases hz : (i : Int) < k
    all_goals
      refine wpf_seq1 ?_
      conv => whnf
      repeat' ((first | refine brP_t (by assumption) ?_ | refine brP_f (by assumption) ?_ | refine brP_t (decide_eq_true (by omega)) ?_ | refine brP_f (decide_eq_false (by omega)) ?_ | refine brP_t (nd_t (by omega)) ?_ | refine brP_f (nd_f (by omega)) ?_ | refine wpfS_seq1 ?_ | refine wpfS_go ?_ | fail) <;> conv => whnf)
      exact ⟨rfl, rfl⟩
  | false =>
    obtain ⟨hi, hb⟩ := hi
    by_cases hz : (i : Int) < k
    · by_cases hs : i = bs.length
      · subst hs
        have hby := rr_Byte_end (pre ++ bs)
        have hw2 : IntKind.i64.wrap ((bs.length : Int) + 1) = ((bs.length + 1 : Nat) : Int) := by rw [wrap64 (by omega)]; rfl
        show wpf PR G false _ _ [(7, iv (valB (bs.take bs.length))), (8, iv bs.length), (0, .c (.ptr (.par 0) 0)), (1, iv k), (2, iv most)] ⟨rrB 0 (pre ++ bs.take bs.length) (bs.drop bs.length), []⟩ _
        rw [List.take_length, List.drop_length]
        refine wpf_seq1 ?_
        conv => whnf
        repeat' ((first | refine brP_t (by assumption) ?_ | refine brP_f (by assumption) ?_ | refine brP_t (decide_eq_true (by omega)) ?_ | refine brP_f (decide_eq_false (by omega)) ?_ | refine brP_t (nd_t (by omega)) ?_ | refine brP_f (nd_f (by omega)) ?_ | refine callK_r (EvR.fr [_] hby rfl rfl ⟨rfl, trivial⟩ rfl) ?_ | refine callM_l (LEv.fr [_] hby rfl rfl ⟨rfl, trivial⟩ rfl rfl) ?_ | refine callK_rt (EvR.fr [_] hby rfl rfl ⟨rfl, trivial⟩ rfl) ?_ | refine callK_rf rfl (EvR.fr [_] hby rfl rfl ⟨rfl, trivial⟩ rfl) ?_ | refine callK_rft rfl (EvR.fr [_] hby rfl rfl ⟨rfl, trivial⟩ rfl) ?_ | refine wpfS_seq1 ?_ | refine wpfS_go ?_ | fail) <;> conv => whnf)
        rw [hw2]
        exact ⟨(bs.length + 1, true), ⟨by omega, by omega⟩, (show 0 < 1 + k - bs.length by omega), ⟨rfl, rfl, rfl, rfl, rfl, trivial⟩, rfl⟩
      · have hlt : i < bs.length := by omega
        have hw2 : IntKind.i64.wrap ((i : Int) + 1) = ((i + 1 : Nat) : Int) := by rw [wrap64 (by omega)]; rfl
        have hv := valB_succ hlt
        have hvi : valB (bs.take i) < 256 ^ 3 := Nat.lt_of_lt_of_le (valB_lt _) (Nat.pow_le_pow_right (by omega) (by rw [List.length_take]; omega))
        have hd : bs.drop i = bs[i] :: bs.drop (i + 1) := List.drop_eq_getElem_cons hlt
        have htk : bs.take (i + 1) = bs.take i ++ [bs[i]] := List.take_succ_eq_append_getElem hlt
        have hby := rr_Byte_ok (pre ++ bs.take i) bs[i] (bs.drop (i + 1)) (by rw [← hd, List.append_assoc, List.take_append_drop]; exact hl)
        have hct := bs[i].toNat_lt
        have hor : IntKind.i64.wrap (IntKind.i64.wrap (256 * (valB (bs.take i) : Int)) + bs[i].toNat) = (valB (bs.take (i + 1)) : Int) := by
          rw [hv, wrap64 (n := 256 * _) (by omega), wrap64 (by omega)]; omega
        show wpf PR G false _ _ [(7, iv (valB (bs.take i))), (8, iv i), (0, .c (.ptr (.par 0) 0)), (1, iv k), (2, iv most)] ⟨rrB 0 (pre ++ bs.take i) (bs.drop i), []⟩ _
        rw [hd]
        refine wpf_seq1 ?_
        conv => whnf
        repeat' ((first | refine brP_t (by assumption) ?_ | refine brP_f (by assumption) ?_ | refine brP_t (decide_eq_true (by omega)) ?_ | refine brP_f (decide_eq_false (by omega)) ?_ | refine brP_t (nd_t (by omega)) ?_ | refine brP_f (nd_f (by omega)) ?_ | refine callK_r (EvR.fr [_] hby rfl rfl ⟨rfl, trivial⟩ rfl) ?_ | refine callM_l (LEv.fr [_] hby rfl rfl ⟨rfl, trivial⟩ rfl rfl) ?_ | refine callK_rt (EvR.fr [_] hby rfl rfl ⟨rfl, trivial⟩ rfl) ?_ | refine callK_rf rfl (EvR.fr [_] hby rfl rfl ⟨rfl, trivial⟩ rfl) ?_ | refine callK_rft rfl (EvR.fr [_] hby rfl rfl ⟨rfl, trivial⟩ rfl) ?_ | refine wpfS_seq1 ?_ | refine wpfS_go ?_ | fail) <;> conv => whnf)
        rw [hw2]
        refine ⟨(i + 1, false), ⟨by omega, by omega⟩, (show 1 + k - (i + 1) < 1 + k - i by omega), ⟨?_, rfl, rfl, rfl, rfl, trivial⟩, ?_⟩
        · exact congrArg iv hor
        · show _ = (⟨rrB 0 (pre ++ bs.take (i + 1)) (bs.drop (i + 1)), []⟩ : Hp)
          rw [htk, ← List.append_assoc]; rfl
    · have hik : i = k := by omega
      subst hik
      have hb' : ¬ (bs.length : Int) < (i : Int) := by omega
      have e1 : numV 0 bs i most = if most < valB (bs.take i) then 0 else (valB (bs.take i) : Int) := by unfold numV; rw [if_neg (by simp), if_neg (by omega), if_neg hb', Int.toNat_natCast]
      have e2 : numE 0 bs i most = if most < valB (bs.take i) then 8 else 0 := by unfold numE; rw [if_neg (by simp), if_neg (by omega), if_neg hb', Int.toNat_natCast]
      have e3 : numL false 0 bs i = bs.drop i := by unfold numL; rw [if_neg (by simp), if_neg (by omega), if_neg hb', Int.toNat_natCast]
      rw [e1, e2, e3, List.length_drop, show bs.length - (bs.length - i) = i by omega]
      show wpf PR G false _ _ [(7, iv (valB (bs.take i))), (8, iv i), (0, .c (.ptr (.par 0) 0)), (1, iv i), (2, iv most)] ⟨rrB 0 (pre ++ bs.take i) (bs.drop i), []⟩ _
      clear e1 e2 e3
      generalize valB (bs.take i) = n at *
      by_cases hmost : most < n
      · rw [if_pos hmost, if_pos hmost]
        refine wpf_seq1 ?_
        conv => whnf
        repeat' ((first | refine brP_t (by assumption) ?_ | refine brP_f (by assumption) ?_ | refine brP_t (decide_eq_true (by omega)) ?_ | refine brP_f (decide_eq_false (by omega)) ?_ | refine brP_t (nd_t (by omega)) ?_ | refine brP_f (nd_f (by omega)) ?_ | refine wpfS_seq1 ?_ | refine wpfS_go ?_ | fail) <;> conv => whnf)
        exact ⟨rfl, rfl⟩
      · rw [if_neg hmost, if_neg hmost]
        refine wpf_seq1 ?_
        conv => whnf
        repeat' ((first | refine brP_t (by assumption) ?_ | refine brP_f (by assumption) ?_ | refine brP_t (decide_eq_true (by omega)) ?_ | refine brP_f (decide_eq_false (by omega)) ?_ | refine brP_t (nd_t (by omega)) ?_ | refine brP_f (nd_f (by omega)) ?_ | refine wpfS_seq1 ?_ | refine wpfS_go ?_ | fail) <;> conv => whnf)
        exact ⟨rfl, rfl⟩
end Go.Ab.S
