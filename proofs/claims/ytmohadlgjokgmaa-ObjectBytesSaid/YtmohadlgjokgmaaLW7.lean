/- Part of a proof; no condition. -/
import Derived.Test.YtmohadlgjokgmaaLW6
set_option linter.unusedSimpArgs false
set_option linter.unusedVariables false
namespace Go.Ab.S
open Go Go.Ab Go.Proofs
attribute [local irreducible] SemS
set_option maxRecDepth 100000
/-- What reading a number gives, and what is left; the program leaves too few bytes where they are, the document's reader takes them. -/
def numV (e : Int) (bs : List UInt8) (size most : Int) : Int :=
  if e ≠ 0 then 0 else if ¬ (1 ≤ size ∧ size ≤ 4) then 0 else if (bs.length : Int) < size then 0 else if most < valB (bs.take size.toNat) then 0 else valB (bs.take size.toNat)
def numE (e : Int) (bs : List UInt8) (size most : Int) : Int :=
  if e ≠ 0 then e else if ¬ (1 ≤ size ∧ size ≤ 4) then 8 else if (bs.length : Int) < size then 4 else if most < valB (bs.take size.toNat) then 8 else 0
def numL (keep : Bool) (e : Int) (bs : List UInt8) (size : Int) : List UInt8 :=
  if e ≠ 0 then bs else if ¬ (1 ≤ size ∧ size ≤ 4) then bs else if (bs.length : Int) < size then (if keep then bs else []) else bs.drop size.toNat
theorem r_Num_ok (e : Int) (bs : List UInt8) (size most : Int) (hm0 : -9223372036854775808 ≤ most) : EvR PR G f_wire_Reader_Num [.c (.ptr (.par 0) 0), iv size, iv most] ⟨rdB e bs, []⟩ (iv (numV e bs size most)) ⟨rdB (numE e bs size most) (numL true e bs size), []⟩ := by
  refine EvR.of_wpf false false hm c_wire_Reader_Num rfl ?_
  by_cases he : e = 0
  case neg =>
    have e1 : numV e bs size most = 0 := by unfold numV; rw [if_pos he]
    have e2 : numE e bs size most = e := by unfold numE; rw [if_pos he]
    have e3 : numL true e bs size = bs := by unfold numL; rw [if_pos he]
    rw [e1, e2, e3]
    conv => whnf
    repeat' ((first | refine brP_t (by assumption) ?_ | refine brP_f (by assumption) ?_ | refine brP_t (decide_eq_true (by omega)) ?_ | refine brP_f (decide_eq_false (by omega)) ?_ | refine brP_t (nd_t (by omega)) ?_ | refine brP_f (nd_f (by omega)) ?_ | refine wpfS_go ?_ | refine brP_mk (fun h => ?_) (fun h => ?_) | fail) <;> conv => whnf)
    exact ⟨rfl, rfl⟩
  subst he
  by_cases hs : 1 ≤ size ∧ size ≤ 4
  case neg =>
    have e1 : numV 0 bs size most = 0 := by unfold numV; rw [if_neg (by simp), if_pos hs]
    have e2 : numE 0 bs size most = 8 := by unfold numE; rw [if_neg (by simp), if_pos hs]
    have e3 : numL true 0 bs size = bs := by unfold numL; rw [if_neg (by simp), if_pos hs]
    have hf : EvR PR G f_wire_Reader_Fail [.c (.ptr (.par 0) 0), iv 8] ⟨rdB 0 bs, []⟩ (.tup []) ⟨rdB 8 bs, []⟩ := r_Fail_ok 0 bs 8
    rw [e1, e2, e3]
    conv => whnf
    by_cases h1 : size < 1
    · repeat' ((first | refine brP_t (by assumption) ?_ | refine brP_f (by assumption) ?_ | refine brP_t (decide_eq_true (by omega)) ?_ | refine brP_f (decide_eq_false (by omega)) ?_ | refine brP_t (nd_t (by omega)) ?_ | refine brP_f (nd_f (by omega)) ?_ | refine callK_r (EvR.fr [_] hf rfl rfl ⟨rfl, trivial⟩ rfl) ?_ | refine callM_l (LEv.fr [_] hf rfl rfl ⟨rfl, trivial⟩ rfl rfl) ?_ | refine callK_rt (EvR.fr [_] hf rfl rfl ⟨rfl, trivial⟩ rfl) ?_ | refine callK_rf rfl (EvR.fr [_] hf rfl rfl ⟨rfl, trivial⟩ rfl) ?_ | refine callK_rft rfl (EvR.fr [_] hf rfl rfl ⟨rfl, trivial⟩ rfl) ?_ | refine wpfS_go ?_ | refine brP_mk (fun h => ?_) (fun h => ?_) | fail) <;> conv => whnf)
      exact ⟨rfl, rfl⟩
    · repeat' ((first | refine brP_t (by assumption) ?_ | refine brP_f (by assumption) ?_ | refine brP_t (decide_eq_true (by omega)) ?_ | refine brP_f (decide_eq_false (by omega)) ?_ | refine brP_t (nd_t (by omega)) ?_ | refine brP_f (nd_f (by omega)) ?_ | refine callK_r (EvR.fr [_] hf rfl rfl ⟨rfl, trivial⟩ rfl) ?_ | refine callM_l (LEv.fr [_] hf rfl rfl ⟨rfl, trivial⟩ rfl rfl) ?_ | refine callK_rt (EvR.fr [_] hf rfl rfl ⟨rfl, trivial⟩ rfl) ?_ | refine callK_rf rfl (EvR.fr [_] hf rfl rfl ⟨rfl, trivial⟩ rfl) ?_ | refine callK_rft rfl (EvR.fr [_] hf rfl rfl ⟨rfl, trivial⟩ rfl) ?_ | refine wpfS_go ?_ | refine brP_mk (fun h => ?_) (fun h => ?_) | fail) <;> conv => whnf)
      exact ⟨rfl, rfl⟩
  obtain ⟨k, rfl⟩ := Int.eq_ofNat_of_zero_le (show 0 ≤ size by omega)
  by_cases hl : bs.length < k
  case pos =>
    have hl' : (bs.length : Int) < (k : Int) := by omega
    have e1 : numV 0 bs k most = 0 := by unfold numV; rw [if_neg (by simp), if_neg (by omega), if_pos hl']
    have e2 : numE 0 bs k most = 4 := by unfold numE; rw [if_neg (by simp), if_neg (by omega), if_pos hl']
    have e3 : numL true 0 bs k = bs := by unfold numL; rw [if_neg (by simp), if_neg (by omega), if_pos hl']; rfl
    have ht : EvR PR G f_wire_Reader_take [.c (.ptr (.par 0) 0), iv k] ⟨rdB 0 bs, []⟩ (slv []) ⟨rdB 4 bs, []⟩ := r_take_bad 0 bs k hl
    have hf : EvR PR G f_wire_Reader_Fail [.c (.ptr (.par 0) 0), iv 8] ⟨rdB 4 bs, []⟩ (.tup []) ⟨rdB 4 bs, []⟩ := r_Fail_ok 4 bs 8
    rw [e1, e2, e3]
    conv => whnf
    repeat' ((first | refine brP_t (by assumption) ?_ | refine brP_f (by assumption) ?_ | refine brP_t (decide_eq_true (by omega)) ?_ | refine brP_f (decide_eq_false (by omega)) ?_ | refine brP_t (nd_t (by omega)) ?_ | refine brP_f (nd_f (by omega)) ?_ | refine callK_r (EvR.fr [_] ht rfl rfl ⟨rfl, trivial⟩ rfl) ?_ | refine callM_l (LEv.fr [_] ht rfl rfl ⟨rfl, trivial⟩ rfl rfl) ?_ | refine callK_rt (EvR.fr [_] ht rfl rfl ⟨rfl, trivial⟩ rfl) ?_ | refine callK_rf rfl (EvR.fr [_] ht rfl rfl ⟨rfl, trivial⟩ rfl) ?_ | refine callK_rft rfl (EvR.fr [_] ht rfl rfl ⟨rfl, trivial⟩ rfl) ?_ | refine callK_r (EvR.fr [_] hf rfl rfl ⟨rfl, trivial⟩ rfl) ?_ | refine callM_l (LEv.fr [_] hf rfl rfl ⟨rfl, trivial⟩ rfl rfl) ?_ | refine callK_rt (EvR.fr [_] hf rfl rfl ⟨rfl, trivial⟩ rfl) ?_ | refine callK_rf rfl (EvR.fr [_] hf rfl rfl ⟨rfl, trivial⟩ rfl) ?_ | refine callK_rft rfl (EvR.fr [_] hf rfl rfl ⟨rfl, trivial⟩ rfl) ?_ | refine SemS.loop1 false hm ?_ | refine wpfS_go ?_ | refine brP_mk (fun h => ?_) (fun h => ?_) | fail) <;> conv => whnf)
    all_goals exact ⟨rfl, rfl⟩
  have hl2 : ¬ (bs.length : Int) < (k : Int) := by omega
  have ht := r_take_ok bs k (by omega)
  have e3 : numL true 0 bs k = bs.drop k := by unfold numL; rw [if_neg (by simp), if_neg (by omega), if_neg hl2, Int.toNat_natCast]
  have e1 : numV 0 bs k most = if most < valB (bs.take k) then 0 else (valB (bs.take k) : Int) := by unfold numV; rw [if_neg (by simp), if_neg (by omega), if_neg hl2, Int.toNat_natCast]
  have e2 : numE 0 bs k most = if most < valB (bs.take k) then 8 else 0 := by unfold numE; rw [if_neg (by simp), if_neg (by omega), if_neg hl2, Int.toNat_natCast]
  have htl : (bs.take k).length = k := by rw [List.length_take]; omega
  rw [e1, e2, e3]
  clear e1 e2 e3 hl hl2
  generalize bs.take k = xs at *
  generalize bs.drop k = rest at *
  have hxl := bytesOf_len xs
  refine wpf_seq1 ?_
  conv => whnf
  repeat' ((first | refine brP_t (by assumption) ?_ | refine brP_f (by assumption) ?_ | refine brP_t (decide_eq_true (by omega)) ?_ | refine brP_f (decide_eq_false (by omega)) ?_ | refine brP_t (nd_t (by omega)) ?_ | refine brP_f (nd_f (by omega)) ?_ | refine callK_r (EvR.fr [_] ht rfl rfl ⟨rfl, trivial⟩ rfl) ?_ | refine callM_l (LEv.fr [_] ht rfl rfl ⟨rfl, trivial⟩ rfl rfl) ?_ | refine callK_rt (EvR.fr [_] ht rfl rfl ⟨rfl, trivial⟩ rfl) ?_ | refine callK_rf rfl (EvR.fr [_] ht rfl rfl ⟨rfl, trivial⟩ rfl) ?_ | refine callK_rft rfl (EvR.fr [_] ht rfl rfl ⟨rfl, trivial⟩ rfl) ?_ | refine wpfS_seq1 ?_ | refine wpfS_go ?_ | fail) <;> conv => whnf)
  have hvl := valB_lt xs
  have hp4 : 256 ^ xs.length ≤ 256 ^ 4 := Nat.pow_le_pow_right (by omega) (by omega)
  refine SemS.loopF false hm (σ := Nat) (fun i => [(32, iv i), (31, iv xs.length), (30, slv (bytesOf xs)), (7, iv (valB (xs.take i))), (0, .c (.ptr (.par 0) 0)), (2, iv most)]) (fun _ => ⟨rdB 0 rest, []⟩) (fun i => xs.length - i) (fun i => i ≤ xs.length) 0 (Nat.zero_le _) ⟨rfl, by rw [hxl]; rfl, rfl, rfl, rfl, rfl, trivial⟩ rfl ?_
  intro i hi
  refine wpf_seq1 ?_
  conv => whnf
  refine wpfS_seq1 ?_
  conv => whnf
  refine brP_mk (fun h => ?_) (fun h => ?_)
  · have hi' : i < xs.length := by have := of_decide_eq_true h; omega
    clear h
    have hget := bytesOf_get hi'
    have hw2 : IntKind.i64.wrap ((i : Int) + 1) = ((i + 1 : Nat) : Int) := by rw [wrap64 (by omega)]; rfl
    have hv := valB_succ hi'
    have hvi : valB (xs.take i) < 256 ^ 4 := Nat.lt_of_lt_of_le (valB_lt _) (Nat.pow_le_pow_right (by omega) (by rw [List.length_take]; omega))
    have hor := or_byte (valB (xs.take i)) xs[i].toNat (by omega) xs[i].toNat_lt
    generalize xs[i] = c at *
    repeat' ((first | refine brP_t (by assumption) ?_ | refine brP_f (by assumption) ?_ | refine brP_t (decide_eq_true (by omega)) ?_ | refine brP_f (decide_eq_false (by omega)) ?_ | refine brP_t (nd_t (by omega)) ?_ | refine brP_f (nd_f (by omega)) ?_ | ((conv in (opS _ _ _ _) => whnf); rw [Int.toNat_natCast, hget]) | refine wpfS_seq1 ?_ | refine wpfS_go ?_ | fail) <;> conv => whnf)
    rw [hw2, hor, ← hv]
    exact ⟨i + 1, hi', (show xs.length - (i + 1) < xs.length - i by omega), ⟨rfl, rfl, rfl, rfl, rfl, rfl, trivial⟩, rfl⟩
  · have hi' : i = xs.length := by have := of_decide_eq_false h; omega
    subst hi'
    rw [List.take_length]
    clear h
    have hf : EvR PR G f_wire_Reader_Fail [.c (.ptr (.par 0) 0), iv 8] ⟨rdB 0 rest, []⟩ (.tup []) ⟨rdB 8 rest, []⟩ := r_Fail_ok 0 rest 8
    generalize valB xs = n at *
    conv => whnf
    by_cases hmost : most < n
    · rw [if_pos hmost, if_pos hmost]
      repeat' ((first | refine brP_t (by assumption) ?_ | refine brP_f (by assumption) ?_ | refine brP_t (decide_eq_true (by omega)) ?_ | refine brP_f (decide_eq_false (by omega)) ?_ | refine brP_t (nd_t (by omega)) ?_ | refine brP_f (nd_f (by omega)) ?_ | refine callK_r (EvR.fr [_] hf rfl rfl ⟨rfl, trivial⟩ rfl) ?_ | refine callM_l (LEv.fr [_] hf rfl rfl ⟨rfl, trivial⟩ rfl rfl) ?_ | refine callK_rt (EvR.fr [_] hf rfl rfl ⟨rfl, trivial⟩ rfl) ?_ | refine callK_rf rfl (EvR.fr [_] hf rfl rfl ⟨rfl, trivial⟩ rfl) ?_ | refine callK_rft rfl (EvR.fr [_] hf rfl rfl ⟨rfl, trivial⟩ rfl) ?_ | refine wpfS_seq1 ?_ | refine wpfS_go ?_ | fail) <;> conv => whnf)
      exact ⟨rfl, rfl⟩
    · rw [if_neg hmost, if_neg hmost]
      repeat' ((first | refine brP_t (by assumption) ?_ | refine brP_f (by assumption) ?_ | refine brP_t (decide_eq_true (by omega)) ?_ | refine brP_f (decide_eq_false (by omega)) ?_ | refine brP_t (nd_t (by omega)) ?_ | refine brP_f (nd_f (by omega)) ?_ | refine callK_r (EvR.fr [_] hf rfl rfl ⟨rfl, trivial⟩ rfl) ?_ | refine callM_l (LEv.fr [_] hf rfl rfl ⟨rfl, trivial⟩ rfl rfl) ?_ | refine callK_rt (EvR.fr [_] hf rfl rfl ⟨rfl, trivial⟩ rfl) ?_ | refine callK_rf rfl (EvR.fr [_] hf rfl rfl ⟨rfl, trivial⟩ rfl) ?_ | refine callK_rft rfl (EvR.fr [_] hf rfl rfl ⟨rfl, trivial⟩ rfl) ?_ | refine wpfS_seq1 ?_ | refine wpfS_go ?_ | fail) <;> conv => whnf)
      exact ⟨rfl, rfl⟩
/-- What reading a text gives. -/
def txtV (e : Int) (bs : List UInt8) (most : Int) : List UInt8 :=
  if e ≠ 0 then [] else match bs with
    | [] => []
    | c :: r => if most < c.toNat then [] else if r.length < c.toNat then [] else r.take c.toNat
def txtE (e : Int) (bs : List UInt8) (most : Int) : Int :=
  if e ≠ 0 then e else match bs with
    | [] => 4
    | c :: r => if most < c.toNat then 5 else if r.length < c.toNat then 4 else 0
def txtL (keep : Bool) (e : Int) (bs : List UInt8) (most : Int) : List UInt8 :=
  if e ≠ 0 then bs else match bs with
    | [] => []
    | c :: r => if most < c.toNat then r else if r.length < c.toNat then (if keep then r else []) else r.drop c.toNat
theorem r_Text_ok (e : Int) (bs : List UInt8) (most : Int) : EvR PR G f_wire_Reader_Text [.c (.ptr (.par 0) 0), iv most] ⟨rdB e bs, []⟩ (.c (.p (.str (txtV e bs most)))) ⟨rdB (txtE e bs most) (txtL true e bs most), []⟩ := by
  refine EvR.of_wpf false false hm c_wire_Reader_Text rfl ?_
  have hn := r_Num_ok e bs 1 255 (by omega)
  by_cases he : e = 0
  case neg =>
    have e1 : txtV e bs most = [] := by unfold txtV; rw [if_pos he]
    have e2 : txtE e bs most = e := by unfold txtE; rw [if_pos he]
    have e3 : txtL true e bs most = bs := by unfold txtL; rw [if_pos he]
    have f1 : numV e bs 1 255 = 0 := by unfold numV; rw [if_pos he]
    have f2 : numE e bs 1 255 = e := by unfold numE; rw [if_pos he]
    have f3 : numL true e bs 1 = bs := by unfold numL; rw [if_pos he]
    rw [f1, f2, f3] at hn
    have ht := r_take_not e bs 0 (by omega) he
    have hf : EvR PR G f_wire_Reader_Fail [.c (.ptr (.par 0) 0), iv 5] ⟨rdB e bs, []⟩ (.tup []) ⟨rdB e bs, []⟩ := by
      have := r_Fail_ok e bs 5
      rwa [show firstE e 5 = e by unfold firstE; rw [if_neg he]] at this
    rw [e1, e2, e3]
    conv => whnf
    by_cases hz : 0 > most
    · repeat' ((first | refine brP_t (by assumption) ?_ | refine brP_f (by assumption) ?_ | refine brP_t (decide_eq_true (by omega)) ?_ | refine brP_f (decide_eq_false (by omega)) ?_ | refine brP_t (nd_t (by omega)) ?_ | refine brP_f (nd_f (by omega)) ?_ | refine callK_r (EvR.fr [_] hn rfl rfl ⟨rfl, trivial⟩ rfl) ?_ | refine callM_l (LEv.fr [_] hn rfl rfl ⟨rfl, trivial⟩ rfl rfl) ?_ | refine callK_rt (EvR.fr [_] hn rfl rfl ⟨rfl, trivial⟩ rfl) ?_ | refine callK_rf rfl (EvR.fr [_] hn rfl rfl ⟨rfl, trivial⟩ rfl) ?_ | refine callK_rft rfl (EvR.fr [_] hn rfl rfl ⟨rfl, trivial⟩ rfl) ?_ | refine callK_r (EvR.fr [_] hf rfl rfl ⟨rfl, trivial⟩ rfl) ?_ | refine callM_l (LEv.fr [_] hf rfl rfl ⟨rfl, trivial⟩ rfl rfl) ?_ | refine callK_rt (EvR.fr [_] hf rfl rfl ⟨rfl, trivial⟩ rfl) ?_ | refine callK_rf rfl (EvR.fr [_] hf rfl rfl ⟨rfl, trivial⟩ rfl) ?_ | refine callK_rft rfl (EvR.fr [_] hf rfl rfl ⟨rfl, trivial⟩ rfl) ?_ | refine wpfS_seq1 ?_ | refine wpfS_go ?_ | fail) <;> conv => whnf)
      exact ⟨rfl, rfl⟩
    repeat' ((first | refine brP_t (by assumption) ?_ | refine brP_f (by assumption) ?_ | refine brP_t (decide_eq_true (by omega)) ?_ | refine brP_f (decide_eq_false (by omega)) ?_ | refine brP_t (nd_t (by omega)) ?_ | refine brP_f (nd_f (by omega)) ?_ | refine callK_r (EvR.fr [_] hn rfl rfl ⟨rfl, trivial⟩ rfl) ?_ | refine callM_l (LEv.fr [_] hn rfl rfl ⟨rfl, trivial⟩ rfl rfl) ?_ | refine callK_rt (EvR.fr [_] hn rfl rfl ⟨rfl, trivial⟩ rfl) ?_ | refine callK_rf rfl (EvR.fr [_] hn rfl rfl ⟨rfl, trivial⟩ rfl) ?_ | refine callK_rft rfl (EvR.fr [_] hn rfl rfl ⟨rfl, trivial⟩ rfl) ?_ | refine callK_r (EvR.fr [_] ht rfl rfl ⟨rfl, trivial⟩ rfl) ?_ | refine callM_l (LEv.fr [_] ht rfl rfl ⟨rfl, trivial⟩ rfl rfl) ?_ | refine callK_rt (EvR.fr [_] ht rfl rfl ⟨rfl, trivial⟩ rfl) ?_ | refine callK_rf rfl (EvR.fr [_] ht rfl rfl ⟨rfl, trivial⟩ rfl) ?_ | refine callK_rft rfl (EvR.fr [_] ht rfl rfl ⟨rfl, trivial⟩ rfl) ?_ | ((conv in (opS _ _ _ _) => whnf); rw [show ([] : List (List PV)) = bytesOf [] from rfl, bytesS_sl]) | refine wpfS_seq1 ?_ | refine wpfS_go ?_ | fail) <;> conv => whnf)
    exact ⟨rfl, rfl⟩
  subst he
  cases bs with
  | nil =>
    have hn : EvR PR G f_wire_Reader_Num [.c (.ptr (.par 0) 0), iv 1, iv 255] ⟨rdB 0 [], []⟩ (iv 0) ⟨rdB 4 [], []⟩ := hn
    have ht := r_take_not 4 [] 0 (by simp) (by omega)
    have hf : EvR PR G f_wire_Reader_Fail [.c (.ptr (.par 0) 0), iv 5] ⟨rdB 4 [], []⟩ (.tup []) ⟨rdB 4 [], []⟩ := r_Fail_ok 4 [] 5
    conv => whnf
    by_cases hz : 0 > most
    · repeat' ((first | refine brP_t (by assumption) ?_ | refine brP_f (by assumption) ?_ | refine brP_t (decide_eq_true (by omega)) ?_ | refine brP_f (decide_eq_false (by omega)) ?_ | refine brP_t (nd_t (by omega)) ?_ | refine brP_f (nd_f (by omega)) ?_ | refine callK_r (EvR.fr [_] hn rfl rfl ⟨rfl, trivial⟩ rfl) ?_ | refine callM_l (LEv.fr [_] hn rfl rfl ⟨rfl, trivial⟩ rfl rfl) ?_ | refine callK_rt (EvR.fr [_] hn rfl rfl ⟨rfl, trivial⟩ rfl) ?_ | refine callK_rf rfl (EvR.fr [_] hn rfl rfl ⟨rfl, trivial⟩ rfl) ?_ | refine callK_rft rfl (EvR.fr [_] hn rfl rfl ⟨rfl, trivial⟩ rfl) ?_ | refine callK_r (EvR.fr [_] hf rfl rfl ⟨rfl, trivial⟩ rfl) ?_ | refine callM_l (LEv.fr [_] hf rfl rfl ⟨rfl, trivial⟩ rfl rfl) ?_ | refine callK_rt (EvR.fr [_] hf rfl rfl ⟨rfl, trivial⟩ rfl) ?_ | refine callK_rf rfl (EvR.fr [_] hf rfl rfl ⟨rfl, trivial⟩ rfl) ?_ | refine callK_rft rfl (EvR.fr [_] hf rfl rfl ⟨rfl, trivial⟩ rfl) ?_ | refine wpfS_seq1 ?_ | refine wpfS_go ?_ | fail) <;> conv => whnf)
      exact ⟨rfl, rfl⟩
    repeat' ((first | refine brP_t (by assumption) ?_ | refine brP_f (by assumption) ?_ | refine brP_t (decide_eq_true (by omega)) ?_ | refine brP_f (decide_eq_false (by omega)) ?_ | refine brP_t (nd_t (by omega)) ?_ | refine brP_f (nd_f (by omega)) ?_ | refine callK_r (EvR.fr [_] hn rfl rfl ⟨rfl, trivial⟩ rfl) ?_ | refine callM_l (LEv.fr [_] hn rfl rfl ⟨rfl, trivial⟩ rfl rfl) ?_ | refine callK_rt (EvR.fr [_] hn rfl rfl ⟨rfl, trivial⟩ rfl) ?_ | refine callK_rf rfl (EvR.fr [_] hn rfl rfl ⟨rfl, trivial⟩ rfl) ?_ | refine callK_rft rfl (EvR.fr [_] hn rfl rfl ⟨rfl, trivial⟩ rfl) ?_ | refine callK_r (EvR.fr [_] ht rfl rfl ⟨rfl, trivial⟩ rfl) ?_ | refine callM_l (LEv.fr [_] ht rfl rfl ⟨rfl, trivial⟩ rfl rfl) ?_ | refine callK_rt (EvR.fr [_] ht rfl rfl ⟨rfl, trivial⟩ rfl) ?_ | refine callK_rf rfl (EvR.fr [_] ht rfl rfl ⟨rfl, trivial⟩ rfl) ?_ | refine callK_rft rfl (EvR.fr [_] ht rfl rfl ⟨rfl, trivial⟩ rfl) ?_ | ((conv in (opS _ _ _ _) => whnf); rw [show ([] : List (List PV)) = bytesOf [] from rfl, bytesS_sl]) | refine wpfS_seq1 ?_ | refine wpfS_go ?_ | fail) <;> conv => whnf)
    exact ⟨rfl, rfl⟩
  | cons c r =>
    have hc := c.toNat_lt
    have hv : valB (List.take (1 : Int).toNat (c :: r)) = c.toNat := by simp [valB]
    have f1 : numV 0 (c :: r) 1 255 = c.toNat := by unfold numV; rw [if_neg (by simp), if_neg (by omega), if_neg (by simp; omega), hv, if_neg (by omega)]
    have f2 : numE 0 (c :: r) 1 255 = 0 := by unfold numE; rw [if_neg (by simp), if_neg (by omega), if_neg (by simp; omega), hv, if_neg (by omega)]
    have f3 : numL true 0 (c :: r) 1 = r := by unfold numL; rw [if_neg (by simp), if_neg (by omega), if_neg (by simp; omega)]; rfl
    rw [f1, f2, f3] at hn
    have e1 : txtV 0 (c :: r) most = if most < c.toNat then [] else if r.length < c.toNat then [] else r.take c.toNat := rfl
    have e2 : txtE 0 (c :: r) most = if most < c.toNat then 5 else if r.length < c.toNat then 4 else 0 := rfl
    have e3 : txtL true 0 (c :: r) most = if most < c.toNat then r else if r.length < c.toNat then r else r.drop c.toNat := rfl
    rw [e1, e2, e3]
    by_cases h1 : most < c.toNat
    · have hf : EvR PR G f_wire_Reader_Fail [.c (.ptr (.par 0) 0), iv 5] ⟨rdB 0 r, []⟩ (.tup []) ⟨rdB 5 r, []⟩ := r_Fail_ok 0 r 5
      rw [if_pos h1, if_pos h1, if_pos h1]
      clear e1 e2 e3 f1 f2 f3
      generalize c.toNat = n at *
      conv => whnf
      repeat' ((first | refine brP_t (by assumption) ?_ | refine brP_f (by assumption) ?_ | refine brP_t (decide_eq_true (by omega)) ?_ | refine brP_f (decide_eq_false (by omega)) ?_ | refine brP_t (nd_t (by omega)) ?_ | refine brP_f (nd_f (by omega)) ?_ | refine callK_r (EvR.fr [_] hn rfl rfl ⟨rfl, trivial⟩ rfl) ?_ | refine callM_l (LEv.fr [_] hn rfl rfl ⟨rfl, trivial⟩ rfl rfl) ?_ | refine callK_rt (EvR.fr [_] hn rfl rfl ⟨rfl, trivial⟩ rfl) ?_ | refine callK_rf rfl (EvR.fr [_] hn rfl rfl ⟨rfl, trivial⟩ rfl) ?_ | refine callK_rft rfl (EvR.fr [_] hn rfl rfl ⟨rfl, trivial⟩ rfl) ?_ | refine callK_r (EvR.fr [_] hf rfl rfl ⟨rfl, trivial⟩ rfl) ?_ | refine callM_l (LEv.fr [_] hf rfl rfl ⟨rfl, trivial⟩ rfl rfl) ?_ | refine callK_rt (EvR.fr [_] hf rfl rfl ⟨rfl, trivial⟩ rfl) ?_ | refine callK_rf rfl (EvR.fr [_] hf rfl rfl ⟨rfl, trivial⟩ rfl) ?_ | refine callK_rft rfl (EvR.fr [_] hf rfl rfl ⟨rfl, trivial⟩ rfl) ?_ | refine wpfS_seq1 ?_ | refine wpfS_go ?_ | fail) <;> conv => whnf)
      exact ⟨rfl, rfl⟩
    rw [if_neg h1, if_neg h1, if_neg h1]
    by_cases h2 : r.length < c.toNat
    · have ht : EvR PR G f_wire_Reader_take [.c (.ptr (.par 0) 0), iv c.toNat] ⟨rdB 0 r, []⟩ (slv []) ⟨rdB 4 r, []⟩ := r_take_bad 0 r c.toNat h2
      rw [if_pos h2, if_pos h2, if_pos h2]
      clear e1 e2 e3 f1 f2 f3
      generalize c.toNat = n at *
      conv => whnf
      repeat' ((first | refine brP_t (by assumption) ?_ | refine brP_f (by assumption) ?_ | refine brP_t (decide_eq_true (by omega)) ?_ | refine brP_f (decide_eq_false (by omega)) ?_ | refine brP_t (nd_t (by omega)) ?_ | refine brP_f (nd_f (by omega)) ?_ | refine callK_r (EvR.fr [_] hn rfl rfl ⟨rfl, trivial⟩ rfl) ?_ | refine callM_l (LEv.fr [_] hn rfl rfl ⟨rfl, trivial⟩ rfl rfl) ?_ | refine callK_rt (EvR.fr [_] hn rfl rfl ⟨rfl, trivial⟩ rfl) ?_ | refine callK_rf rfl (EvR.fr [_] hn rfl rfl ⟨rfl, trivial⟩ rfl) ?_ | refine callK_rft rfl (EvR.fr [_] hn rfl rfl ⟨rfl, trivial⟩ rfl) ?_ | refine callK_r (EvR.fr [_] ht rfl rfl ⟨rfl, trivial⟩ rfl) ?_ | refine callM_l (LEv.fr [_] ht rfl rfl ⟨rfl, trivial⟩ rfl rfl) ?_ | refine callK_rt (EvR.fr [_] ht rfl rfl ⟨rfl, trivial⟩ rfl) ?_ | refine callK_rf rfl (EvR.fr [_] ht rfl rfl ⟨rfl, trivial⟩ rfl) ?_ | refine callK_rft rfl (EvR.fr [_] ht rfl rfl ⟨rfl, trivial⟩ rfl) ?_ | ((conv in (opS _ _ _ _) => whnf); rw [show ([] : List (List PV)) = bytesOf [] from rfl, bytesS_sl]) | refine wpfS_seq1 ?_ | refine wpfS_go ?_ | fail) <;> conv => whnf)
      exact ⟨rfl, rfl⟩
    · have ht := r_take_ok r c.toNat (by omega)
      rw [if_neg h2, if_neg h2, if_neg h2]
      clear e1 e2 e3 f1 f2 f3
      generalize c.toNat = n at *
      conv => whnf
      repeat' ((first | refine brP_t (by assumption) ?_ | refine brP_f (by assumption) ?_ | refine brP_t (decide_eq_true (by omega)) ?_ | refine brP_f (decide_eq_false (by omega)) ?_ | refine brP_t (nd_t (by omega)) ?_ | refine brP_f (nd_f (by omega)) ?_ | refine callK_r (EvR.fr [_] hn rfl rfl ⟨rfl, trivial⟩ rfl) ?_ | refine callM_l (LEv.fr [_] hn rfl rfl ⟨rfl, trivial⟩ rfl rfl) ?_ | refine callK_rt (EvR.fr [_] hn rfl rfl ⟨rfl, trivial⟩ rfl) ?_ | refine callK_rf rfl (EvR.fr [_] hn rfl rfl ⟨rfl, trivial⟩ rfl) ?_ | refine callK_rft rfl (EvR.fr [_] hn rfl rfl ⟨rfl, trivial⟩ rfl) ?_ | refine callK_r (EvR.fr [_] ht rfl rfl ⟨rfl, trivial⟩ rfl) ?_ | refine callM_l (LEv.fr [_] ht rfl rfl ⟨rfl, trivial⟩ rfl rfl) ?_ | refine callK_rt (EvR.fr [_] ht rfl rfl ⟨rfl, trivial⟩ rfl) ?_ | refine callK_rf rfl (EvR.fr [_] ht rfl rfl ⟨rfl, trivial⟩ rfl) ?_ | refine callK_rft rfl (EvR.fr [_] ht rfl rfl ⟨rfl, trivial⟩ rfl) ?_ | ((conv in (opS _ _ _ _) => whnf); rw [bytesS_sl]) | refine wpfS_seq1 ?_ | refine wpfS_go ?_ | fail) <;> conv => whnf)
      exact ⟨rfl, rfl⟩
end Go.Ab.S
