/- Part of a proof; no condition. -/
import Derived.Test.YtmohadlgjokgmaaLibW1
set_option linter.unusedSimpArgs false
set_option linter.unusedVariables false
namespace Go.Ab.S
open Go Go.Ab Go.Proofs
attribute [local irreducible] SemS
set_option maxRecDepth 100000
theorem div64 {n : Nat} (h : n < 2 ^ 63) : IntKind.i64.wrap ((n : Int).tdiv 256) = ((n / 256 : Nat) : Int) := by
  rw [show (n : Int).tdiv 256 = ((n / 256 : Nat) : Int) from rfl, wrap64 (by omega)]
theorem mod8 (n : Nat) : IntKind.u8.wrap ((n : Int).tmod 256) = ((UInt8.ofNat n).toNat : Int) := by
  rw [show (n : Int).tmod 256 = ((n % 256 : Nat) : Int) from rfl]
  simp [IntKind.wrap, IntKind.signed, IntKind.bits]
theorem R05_Num_ok (n size : Nat) (hn : n < 2 ^ 63) (hs : 1 ≤ size ∧ size ≤ 4) : EvP PR G f_R05_Num [iv n, iv size] (.tup [slv (bytesOf (numB n size)), bv (decide (n / 256 ^ size = 0))]) := by
  refine EvP.of_wpf false hm c_R05_Num rfl ?_
  have d1 := div64 hn
  have d2 : IntKind.i64.wrap (((n / 256 : Nat) : Int).tdiv 256) = ((n / 256 / 256 : Nat) : Int) := div64 (by omega)
  have d3 : IntKind.i64.wrap (((n / 256 / 256 : Nat) : Int).tdiv 256) = ((n / 256 / 256 / 256 : Nat) : Int) := div64 (by omega)
  have d4 : IntKind.i64.wrap (((n / 256 / 256 / 256 : Nat) : Int).tdiv 256) = ((n / 256 / 256 / 256 / 256 : Nat) : Int) := div64 (by omega)
  have this : size = 1 ∨ size = 2 ∨ size = 3 ∨ size = 4 := by omega
  rcases this with rfl | rfl | rfl | rfl
  · have hb : bytesOf (numB n 1) = [[.int .u8 ((UInt8.ofNat (n)).toNat : Int)]] := by simp [numB, bytesOf, List.range_succ, Nat.div_div_eq_div_mul]
    have hd : decide (n / 256 ^ 1 = 0) = decide ((((n / 256) : Nat) : Int) = 0) := decide_eq_decide.2 (by first | omega | (simp only [Nat.div_div_eq_div_mul]; omega))
    conv => whnf
    repeat' ((first | refine brP_t (by assumption) ?_ | refine brP_f (by assumption) ?_ | refine brP_t (decide_eq_true (by omega)) ?_ | refine brP_f (decide_eq_false (by omega)) ?_ | refine brP_t (nd_t (by omega)) ?_ | refine brP_f (nd_f (by omega)) ?_ | ((rw [d1])) | refine SemS.loop1 false hm ?_ | (refine gd_mk ?_ ?_; focus (simp; done)) | refine wpfS_go ?_ | refine brP_mk (fun h => ?_) (fun h => ?_) | fail) <;> conv => whnf)
    rw [mod8 (n), hb, hd]
    rfl
  · have hb : bytesOf (numB n 2) = [[.int .u8 ((UInt8.ofNat (n / 256)).toNat : Int)], [.int .u8 ((UInt8.ofNat (n)).toNat : Int)]] := by simp [numB, bytesOf, List.range_succ, Nat.div_div_eq_div_mul]
    have hd : decide (n / 256 ^ 2 = 0) = decide ((((n / 256 / 256) : Nat) : Int) = 0) := decide_eq_decide.2 (by first | omega | (simp only [Nat.div_div_eq_div_mul]; omega))
    conv => whnf
    repeat' ((first | refine brP_t (by assumption) ?_ | refine brP_f (by assumption) ?_ | refine brP_t (decide_eq_true (by omega)) ?_ | refine brP_f (decide_eq_false (by omega)) ?_ | refine brP_t (nd_t (by omega)) ?_ | refine brP_f (nd_f (by omega)) ?_ | ((rw [d1])) | ((rw [d2])) | refine SemS.loop1 false hm ?_ | (refine gd_mk ?_ ?_; focus (simp; done)) | refine wpfS_go ?_ | refine brP_mk (fun h => ?_) (fun h => ?_) | fail) <;> conv => whnf)
    rw [mod8 (n / 256), mod8 (n), hb, hd]
    rfl
  · have hb : bytesOf (numB n 3) = [[.int .u8 ((UInt8.ofNat (n / 256 / 256)).toNat : Int)], [.int .u8 ((UInt8.ofNat (n / 256)).toNat : Int)], [.int .u8 ((UInt8.ofNat (n)).toNat : Int)]] := by simp [numB, bytesOf, List.range_succ, Nat.div_div_eq_div_mul]
    have hd : decide (n / 256 ^ 3 = 0) = decide ((((n / 256 / 256 / 256) : Nat) : Int) = 0) := decide_eq_decide.2 (by first | omega | (simp only [Nat.div_div_eq_div_mul]; omega))
    conv => whnf
    repeat' ((first | refine brP_t (by assumption) ?_ | refine brP_f (by assumption) ?_ | refine brP_t (decide_eq_true (by omega)) ?_ | refine brP_f (decide_eq_false (by omega)) ?_ | refine brP_t (nd_t (by omega)) ?_ | refine brP_f (nd_f (by omega)) ?_ | ((rw [d1])) | ((rw [d2])) | ((rw [d3])) | refine SemS.loop1 false hm ?_ | (refine gd_mk ?_ ?_; focus (simp; done)) | refine wpfS_go ?_ | refine brP_mk (fun h => ?_) (fun h => ?_) | fail) <;> conv => whnf)
    rw [mod8 (n / 256 / 256), mod8 (n / 256), mod8 (n), hb, hd]
    rfl
  · have hb : bytesOf (numB n 4) = [[.int .u8 ((UInt8.ofNat (n / 256 / 256 / 256)).toNat : Int)], [.int .u8 ((UInt8.ofNat (n / 256 / 256)).toNat : Int)], [.int .u8 ((UInt8.ofNat (n / 256)).toNat : Int)], [.int .u8 ((UInt8.ofNat (n)).toNat : Int)]] := by simp [numB, bytesOf, List.range_succ, Nat.div_div_eq_div_mul]
    have hd : decide (n / 256 ^ 4 = 0) = decide ((((n / 256 / 256 / 256 / 256) : Nat) : Int) = 0) := decide_eq_decide.2 (by first | omega | (simp only [Nat.div_div_eq_div_mul]; omega))
    conv => whnf
    repeat' ((first | refine brP_t (by assumption) ?_ | refine brP_f (by assumption) ?_ | refine brP_t (decide_eq_true (by omega)) ?_ | refine brP_f (decide_eq_false (by omega)) ?_ | refine brP_t (nd_t (by omega)) ?_ | refine brP_f (nd_f (by omega)) ?_ | ((rw [d1])) | ((rw [d2])) | ((rw [d3])) | ((rw [d4])) | refine SemS.loop1 false hm ?_ | (refine gd_mk ?_ ?_; focus (simp; done)) | refine wpfS_go ?_ | refine brP_mk (fun h => ?_) (fun h => ?_) | fail) <;> conv => whnf)
    rw [mod8 (n / 256 / 256 / 256), mod8 (n / 256 / 256), mod8 (n / 256), mod8 (n), hb, hd]
    rfl
/-- The reference writer's block. -/
def rwB (e : Int) (bs : List UInt8) : List Blk := [.mrow [.os (.par 1) bs.length, .p (.int .i64 e)], .arr 1 false (bytesOf bs)]
theorem rw_eq (e : Int) (bs t : List UInt8) {m : Nat} {R : List (List PV)} (hm : m = bs.length + t.length) (hR : R = bytesOf bs ++ bytesOf t) : (⟨[.mrow [.os (.par 1) m, .p (.int .i64 e)], .arr 1 false R], []⟩ : Hp) = ⟨rwB e (bs ++ t), []⟩ := by
  subst hm hR
  rw [rwB, List.length_append, bytesOf_app]
theorem rw_fail_ok (e : Int) (bs : List UInt8) (x : Int) : EvR PR G f_R05_W_fail [.c (.ptr (.par 0) 0), iv x] ⟨rwB e bs, []⟩ (.tup []) ⟨rwB (firstE e x) bs, []⟩ := by
  refine EvR.of_wpf false false hm c_R05_W_fail rfl ?_
  conv => whnf
  by_cases h : e = 0
  · have hf : firstE e x = x := by unfold firstE; rw [if_pos h]
    rw [hf]
    repeat' ((first | refine brP_t (by assumption) ?_ | refine brP_f (by assumption) ?_ | refine brP_t (decide_eq_true (by omega)) ?_ | refine brP_f (decide_eq_false (by omega)) ?_ | refine brP_t (nd_t (by omega)) ?_ | refine brP_f (nd_f (by omega)) ?_ | refine wpfS_go ?_ | refine brP_mk (fun h => ?_) (fun h => ?_) | fail) <;> conv => whnf)
    exact ⟨rfl, rfl⟩
  · have hf : firstE e x = e := by unfold firstE; rw [if_neg h]
    rw [hf]
    repeat' ((first | refine brP_t (by assumption) ?_ | refine brP_f (by assumption) ?_ | refine brP_t (decide_eq_true (by omega)) ?_ | refine brP_f (decide_eq_false (by omega)) ?_ | refine brP_t (nd_t (by omega)) ?_ | refine brP_f (nd_f (by omega)) ?_ | refine wpfS_go ?_ | refine brP_mk (fun h => ?_) (fun h => ?_) | fail) <;> conv => whnf)
    exact ⟨rfl, rfl⟩
theorem R05_Num_bad (n size : Int) (h : ¬ (1 ≤ size ∧ size ≤ 4 ∧ 0 ≤ n)) : EvP PR G f_R05_Num [iv n, iv size] (.tup [slv [], bv false]) := by
  refine EvP.of_wpf false hm c_R05_Num rfl ?_
  conv => whnf
  by_cases h1 : size < 1
  · repeat' ((first | refine brP_t (by assumption) ?_ | refine brP_f (by assumption) ?_ | refine brP_t (decide_eq_true (by omega)) ?_ | refine brP_f (decide_eq_false (by omega)) ?_ | refine brP_t (nd_t (by omega)) ?_ | refine brP_f (nd_f (by omega)) ?_ | refine wpfS_go ?_ | refine brP_mk (fun h => ?_) (fun h => ?_) | fail) <;> conv => whnf)
    rfl
  by_cases h2 : 4 < size
  · repeat' ((first | refine brP_t (by assumption) ?_ | refine brP_f (by assumption) ?_ | refine brP_t (decide_eq_true (by omega)) ?_ | refine brP_f (decide_eq_false (by omega)) ?_ | refine brP_t (nd_t (by omega)) ?_ | refine brP_f (nd_f (by omega)) ?_ | refine wpfS_go ?_ | refine brP_mk (fun h => ?_) (fun h => ?_) | fail) <;> conv => whnf)
    rfl
  repeat' ((first | refine brP_t (by assumption) ?_ | refine brP_f (by assumption) ?_ | refine brP_t (decide_eq_true (by omega)) ?_ | refine brP_f (decide_eq_false (by omega)) ?_ | refine brP_t (nd_t (by omega)) ?_ | refine brP_f (nd_f (by omega)) ?_ | refine wpfS_go ?_ | refine brP_mk (fun h => ?_) (fun h => ?_) | fail) <;> conv => whnf)
  rfl
theorem R05_Num_not (n size : Int) (hn : n < 2 ^ 63) (h : okNum n size = false) : ∃ X, EvP PR G f_R05_Num [iv n, iv size] (.tup [slv X, bv false]) := by
  have h := of_decide_eq_false h
  by_cases h1 : 1 ≤ size ∧ size ≤ 4 ∧ 0 ≤ n
  · obtain ⟨m, rfl⟩ := Int.eq_ofNat_of_zero_le h1.2.2
    obtain ⟨k, rfl⟩ := Int.eq_ofNat_of_zero_le (show 0 ≤ size by omega)
    have := R05_Num_ok m k (by omega) (by omega)
    have hb : ¬ (m / 256 ^ k = 0) := by
      intro hd
      apply h
      refine ⟨h1.1, h1.2.1, h1.2.2, ?_⟩
      rw [Int.toNat_natCast]
      have hlt : m < 256 ^ k := by
        rcases (Nat.div_eq_zero_iff).1 hd with h | h
        · have := Nat.pow_pos (n := k) (show 0 < 256 by omega); omega
        · exact h
      have : ((256 ^ k : Nat) : Int) = (256 : Int) ^ k := by rw [Int.natCast_pow]; rfl
      omega
    rw [decide_eq_false hb] at this
    exact ⟨_, this⟩
  · exact ⟨_, R05_Num_bad n size h1⟩
theorem rw_num_bad (e : Int) (bs : List UInt8) (n size : Int) (hn : n < 2 ^ 63) (h : okNum n size = false) : EvR PR G f_R05_W_Num [.c (.ptr (.par 0) 0), iv n, iv size] ⟨rwB e bs, []⟩ (.tup []) ⟨rwB (firstE e 8) bs, []⟩ := by
  have hf := rw_fail_ok e bs 8
  obtain ⟨X, hX⟩ := R05_Num_not n size hn h
  clear h
  refine EvR.of_wpf false false hm c_R05_W_Num rfl ?_
  conv => whnf
  repeat' ((first | refine brP_t (by assumption) ?_ | refine brP_f (by assumption) ?_ | refine brP_t (decide_eq_true (by omega)) ?_ | refine brP_f (decide_eq_false (by omega)) ?_ | refine brP_t (nd_t (by omega)) ?_ | refine brP_f (nd_f (by omega)) ?_ | refine callK_p hX ?_ | refine callM_p hX rfl ?_ | refine callK_pf rfl hX ?_ | refine callK_r (EvR.fr [_, _] hf rfl rfl ⟨rfl, rfl, trivial⟩ rfl) ?_ | refine callM_l (LEv.fr [_, _] hf rfl rfl ⟨rfl, rfl, trivial⟩ rfl rfl) ?_ | refine callK_rt (EvR.fr [_, _] hf rfl rfl ⟨rfl, rfl, trivial⟩ rfl) ?_ | refine callK_rf rfl (EvR.fr [_, _] hf rfl rfl ⟨rfl, rfl, trivial⟩ rfl) ?_ | refine callK_rft rfl (EvR.fr [_, _] hf rfl rfl ⟨rfl, rfl, trivial⟩ rfl) ?_ | refine wpfS_go ?_ | refine brP_mk (fun h => ?_) (fun h => ?_) | fail) <;> conv => whnf)
  exact ⟨rfl, rfl⟩
theorem rw_num_ok (e : Int) (bs : List UInt8) (hb : bs.length ≤ 2 ^ 40) (n size : Nat) (h : okNum n size = true) : EvR PR G f_R05_W_Num [.c (.ptr (.par 0) 0), iv n, iv size] ⟨rwB e bs, []⟩ (.tup []) ⟨rwB e (bs ++ numB n size), []⟩ := by
  obtain ⟨h1, h2, h3, h4⟩ := of_decide_eq_true h
  have h5 : n < 256 ^ size := by
    rw [Int.toNat_natCast] at h4
    have : ((256 ^ size : Nat) : Int) = (256 : Int) ^ size := by rw [Int.natCast_pow]; rfl
    omega
  have h6 : 256 ^ size ≤ 256 ^ 4 := Nat.pow_le_pow_right (by omega) (by omega)
  have hX := R05_Num_ok n size (by omega) (by omega)
  rw [decide_eq_true (Nat.div_eq_of_lt h5)] at hX
  clear h h4 h5 h6
  have hlen := bytesOf_len bs
  have hlen2 := bytesOf_len (numB n size)
  have hnl : (numB n size).length = size := numB_len
  have hall := bytesOf_all (numB n size)
  generalize numB n size = t at *
  refine EvR.of_wpfC false false hm c_R05_W_Num rfl rfl ?_
  conv => whnf
  repeat' ((first | refine brP_t (by assumption) ?_ | refine brP_f (by assumption) ?_ | refine brP_t (decide_eq_true (by omega)) ?_ | refine brP_f (decide_eq_false (by omega)) ?_ | refine brP_t (nd_t (by omega)) ?_ | refine brP_f (nd_f (by omega)) ?_ | refine callK_p hX ?_ | refine callM_p hX rfl ?_ | refine callK_pf rfl hX ?_ | (refine gd_mk ?_ ?_; focus (simp [hlen, hlen2, hall]; omega; done)) | refine wpfS_go ?_ | refine brP_mk (fun h => ?_) (fun h => ?_) | fail) <;> conv => whnf)
  refine ⟨rfl, ?_⟩
  exact rw_eq e bs t (by rw [hlen2]) rfl
theorem rw_text_bad (e : Int) (bs : List UInt8) (s : List UInt8) (h : 255 < s.length) : EvR PR G f_R05_W_Text [.c (.ptr (.par 0) 0), .c (.p (.str s))] ⟨rwB e bs, []⟩ (.tup []) ⟨rwB (firstE e 5) bs, []⟩ := by
  have hf := rw_fail_ok e bs 5
  refine EvR.of_wpf false false hm c_R05_W_Text rfl ?_
  conv => whnf
  repeat' ((first | refine brP_t (by assumption) ?_ | refine brP_f (by assumption) ?_ | refine brP_t (decide_eq_true (by omega)) ?_ | refine brP_f (decide_eq_false (by omega)) ?_ | refine brP_t (nd_t (by omega)) ?_ | refine brP_f (nd_f (by omega)) ?_ | refine callK_r (EvR.fr [_, _] hf rfl rfl ⟨rfl, rfl, trivial⟩ rfl) ?_ | refine callM_l (LEv.fr [_, _] hf rfl rfl ⟨rfl, rfl, trivial⟩ rfl rfl) ?_ | refine callK_rt (EvR.fr [_, _] hf rfl rfl ⟨rfl, rfl, trivial⟩ rfl) ?_ | refine callK_rf rfl (EvR.fr [_, _] hf rfl rfl ⟨rfl, rfl, trivial⟩ rfl) ?_ | refine callK_rft rfl (EvR.fr [_, _] hf rfl rfl ⟨rfl, rfl, trivial⟩ rfl) ?_ | refine wpfS_go ?_ | refine brP_mk (fun h => ?_) (fun h => ?_) | fail) <;> conv => whnf)
  exact ⟨rfl, rfl⟩
theorem rw_text_ok (e : Int) (bs : List UInt8) (hb : bs.length ≤ 2 ^ 40) (s : List UInt8) (h : s.length ≤ 255) : EvR PR G f_R05_W_Text [.c (.ptr (.par 0) 0), .c (.p (.str s))] ⟨rwB e bs, []⟩ (.tup []) ⟨rwB e (bs ++ textB s), []⟩ := by
  have hlen := bytesOf_len bs
  have hlen2 := bytesOf_len s
  have hall := bytesOf_all s
  have hbe := byte_eq s.length 0
  refine EvR.of_wpfC false false hm c_R05_W_Text rfl rfl ?_
  conv => whnf
  repeat' ((first | refine brP_t (by assumption) ?_ | refine brP_f (by assumption) ?_ | refine brP_t (decide_eq_true (by omega)) ?_ | refine brP_f (decide_eq_false (by omega)) ?_ | refine brP_t (nd_t (by omega)) ?_ | refine brP_f (nd_f (by omega)) ?_ | (refine gd_mk ?_ ?_; focus (simp [hlen]; omega; done)) | (refine gd_mk ?_ ?_; focus (simp [hlen, hlen2, hall]; omega; done)) | refine wpfS_go ?_ | refine brP_mk (fun h => ?_) (fun h => ?_) | fail) <;> conv => whnf)
  refine ⟨rfl, ?_⟩
  rw [show ((s.length : Int)) = (s.length : Int).fdiv (256 ^ 0) by simp, hbe]
  exact rw_eq e bs (textB s) (by simp [textB, hlen2]; omega) (by rw [List.append_assoc]; simp [textB, bytesOf])
end Go.Ab.S
