/- Part of a proof; no condition. Part of a proof; no condition. -/
import Derived.Test.YtmohadlgjokgmaaB0
set_option linter.unusedSimpArgs false
set_option linter.unusedVariables false
namespace Go.Ab.S
open Go Go.Ab Go.Proofs
attribute [local irreducible] SemS
set_option maxRecDepth 100000
theorem unbytes_bytesOf : ∀ (s : List UInt8), unbytes (bytesOf s) = some s
  | [] => rfl
  | b :: s => by
    show (match unbytes (bytesOf s) with
      | some l => some (UInt8.ofNat (b.toNat : Int).toNat :: l)
      | none => none) = _
    rw [unbytes_bytesOf s]
    simp
theorem bytesOf_len (s : List UInt8) : (bytesOf s).length = s.length := by simp [bytesOf]
theorem bytesOf_app (s t : List UInt8) : bytesOf (s ++ t) = bytesOf s ++ bytesOf t := by simp [bytesOf]
theorem bytesOf_all (s : List UInt8) : ((bytesOf s).all fun r => r.length == 1) = true := by simp [bytesOf]
theorem bytesS_sl (H : Hp) (s : List UInt8) : bytesS H (.p (.sl (bytesOf s))) = some (true, s) := by
  simp only [bytesS, elemsA, unbytes_bytesOf]
theorem bytesS_os {H : Hp} {id : Id} {n sz : Nat} {fz : Bool} {s : List UInt8} (h : H.get id = some (.arr sz fz (bytesOf s))) : bytesS H (.os id n) = some (decide (n = (bytesOf s).length), s) := by
  simp only [bytesS, elemsA, h, unbytes_bytesOf]
/-- A number's bytes. -/
def numB (n size : Nat) : List UInt8 := (List.range size).map fun i => UInt8.ofNat (n / 256 ^ (size - 1 - i))
theorem numB_len {n size : Nat} : (numB n size).length = size := by simp [numB]
theorem byte_eq (n k : Nat) : IntKind.u8.wrap ((n : Int).fdiv (256 ^ k)) = ((UInt8.ofNat (n / 256 ^ k)).toNat : Int) := by
  have e : ((n : Int).fdiv (256 ^ k)) = ((n / 256 ^ k : Nat) : Int) := by
    rw [Int.fdiv_eq_ediv_of_nonneg _ (by exact Int.le_of_lt (Int.pow_pos (by omega)))]
    rw [Int.natCast_ediv, Int.natCast_pow]; rfl
  rw [e]
  simp [IntKind.wrap, IntKind.signed, IntKind.bits]
def okNum (n size : Int) : Bool := decide (1 ≤ size ∧ size ≤ 4 ∧ 0 ≤ n ∧ n < 256 ^ size.toNat)
/-- A writer's block, and what it has written. -/
def wrB (e : Int) (bs : List UInt8) : List Blk := [.mrow [.p (.int .i64 e), .os (.par 1) bs.length], .arr 1 false (bytesOf bs)]
def firstE (e x : Int) : Int := if e = 0 then x else e
theorem most_ok (size : Int) (h : 1 ≤ size ∧ size ≤ 4) : EvP PR G f_wire_most [iv size] (iv (256 ^ size.toNat - 1)) := by
  refine EvP.of_wpf true hm c_wire_most rfl ?_
  have : size = 1 ∨ size = 2 ∨ size = 3 ∨ size = 4 := by omega
  rcases this with rfl | rfl | rfl | rfl
  all_goals
    conv => whnf
    repeat' ((first | refine brP_t (by assumption) ?_ | refine brP_f (by assumption) ?_ | refine brP_t (decide_eq_true (by omega)) ?_ | refine brP_f (decide_eq_false (by omega)) ?_ | refine brP_t (nd_t (by omega)) ?_ | refine brP_f (nd_f (by omega)) ?_ | refine wpfS_go ?_ | refine brP_mk (fun h => ?_) (fun h => ?_) | fail) <;> conv => whnf)
    rfl
theorem wr_eq (e : Int) (bs t : List UInt8) {m : Nat} {R : List (List PV)} (hm : m = bs.length + t.length) (hR : R = bytesOf bs ++ bytesOf t) : (⟨[.mrow [.p (.int .i64 e), .os (.par 1) m], .arr 1 false R], []⟩ : Hp) = ⟨wrB e (bs ++ t), []⟩ := by
  subst hm hR
  rw [wrB, List.length_append, bytesOf_app]
theorem w_num_ok (e : Int) (bs : List UInt8) (hb : bs.length ≤ 2 ^ 40) (n size : Nat) (h : okNum n size = true) : EvR PR G f_wire_Writer_Num [.c (.ptr (.par 0) 0), iv n, iv size] ⟨wrB e bs, []⟩ (.tup []) ⟨wrB e (bs ++ numB n size), []⟩ := by
  obtain ⟨h1, h2, h3, h4⟩ := of_decide_eq_true h
  refine EvR.of_wpfC false false hm c_wire_Writer_Num rfl rfl ?_
  have hm1 := most_ok size (by omega)
  have h5 : (n : Int) ≤ 256 ^ (size : Int).toNat - 1 := by omega
  clear h4 h
  generalize (256 : Int) ^ (size : Int).toNat - 1 = m at *
  have hlen := bytesOf_len bs
  have hall := bytesOf_all bs
  have b0 := byte_eq n 0
  have b1 := byte_eq n 1
  have b2 := byte_eq n 2
  have b3 := byte_eq n 3
  have : size = 1 ∨ size = 2 ∨ size = 3 ∨ size = 4 := by omega
  rcases this with rfl | rfl | rfl | rfl
  · conv => whnf
    repeat' ((first | refine brP_t (by assumption) ?_ | refine brP_f (by assumption) ?_ | refine brP_t (decide_eq_true (by omega)) ?_ | refine brP_f (decide_eq_false (by omega)) ?_ | refine brP_t (nd_t (by omega)) ?_ | refine brP_f (nd_f (by omega)) ?_ | refine callK_p hm1 ?_ | refine callM_p hm1 rfl ?_ | refine callK_pf rfl hm1 ?_ | refine SemS.loop1 false hm ?_ | (refine gd_mk ?_ ?_; focus (simp [hlen]; omega; done)) | refine wpfS_go ?_ | refine brP_mk (fun h => ?_) (fun h => ?_) | fail) <;> conv => whnf)
    refine ⟨rfl, ?_⟩
    show (⟨[.mrow [.p (.int .i64 e), .os (.par 1) (bs.length + 1)], .arr 1 false (bytesOf bs ++ [[.int .u8 (IntKind.u8.wrap ((n : Int).fdiv (256 ^ 0)))]])], []⟩ : Hp) = _
    rw [b0]
    exact wr_eq e bs _ (by rw [numB_len]) rfl
  · conv => whnf
    repeat' ((first | refine brP_t (by assumption) ?_ | refine brP_f (by assumption) ?_ | refine brP_t (decide_eq_true (by omega)) ?_ | refine brP_f (decide_eq_false (by omega)) ?_ | refine brP_t (nd_t (by omega)) ?_ | refine brP_f (nd_f (by omega)) ?_ | refine callK_p hm1 ?_ | refine callM_p hm1 rfl ?_ | refine callK_pf rfl hm1 ?_ | refine SemS.loop1 false hm ?_ | (refine gd_mk ?_ ?_; focus (simp [hlen]; omega; done)) | refine wpfS_go ?_ | refine brP_mk (fun h => ?_) (fun h => ?_) | fail) <;> conv => whnf)
    refine ⟨rfl, ?_⟩
    show (⟨[.mrow [.p (.int .i64 e), .os (.par 1) (bs.length + 1 + 1)], .arr 1 false (bytesOf bs ++ [[.int .u8 (IntKind.u8.wrap ((n : Int).fdiv (256 ^ 1)))]] ++ [[.int .u8 (IntKind.u8.wrap ((n : Int).fdiv (256 ^ 0)))]])], []⟩ : Hp) = _
    rw [b0, b1]
    exact wr_eq e bs _ (by rw [numB_len]) (by rw [List.append_assoc]; rfl)
  · conv => whnf
    repeat' ((first | refine brP_t (by assumption) ?_ | refine brP_f (by assumption) ?_ | refine brP_t (decide_eq_true (by omega)) ?_ | refine brP_f (decide_eq_false (by omega)) ?_ | refine brP_t (nd_t (by omega)) ?_ | refine brP_f (nd_f (by omega)) ?_ | refine callK_p hm1 ?_ | refine callM_p hm1 rfl ?_ | refine callK_pf rfl hm1 ?_ | refine SemS.loop1 false hm ?_ | (refine gd_mk ?_ ?_; focus (simp [hlen]; omega; done)) | refine wpfS_go ?_ | refine brP_mk (fun h => ?_) (fun h => ?_) | fail) <;> conv => whnf)
    refine ⟨rfl, ?_⟩
    show (⟨[.mrow [.p (.int .i64 e), .os (.par 1) (bs.length + 1 + 1 + 1)], .arr 1 false (bytesOf bs ++ [[.int .u8 (IntKind.u8.wrap ((n : Int).fdiv (256 ^ 2)))]] ++ [[.int .u8 (IntKind.u8.wrap ((n : Int).fdiv (256 ^ 1)))]] ++ [[.int .u8 (IntKind.u8.wrap ((n : Int).fdiv (256 ^ 0)))]])], []⟩ : Hp) = _
    rw [b0, b1, b2]
    exact wr_eq e bs _ (by rw [numB_len]) (by rw [List.append_assoc, List.append_assoc]; rfl)
  · conv => whnf
    repeat' ((first | refine brP_t (by assumption) ?_ | refine brP_f (by assumption) ?_ | refine brP_t (decide_eq_true (by omega)) ?_ | refine brP_f (decide_eq_false (by omega)) ?_ | refine brP_t (nd_t (by omega)) ?_ | refine brP_f (nd_f (by omega)) ?_ | refine callK_p hm1 ?_ | refine callM_p hm1 rfl ?_ | refine callK_pf rfl hm1 ?_ | refine SemS.loop1 false hm ?_ | (refine gd_mk ?_ ?_; focus (simp [hlen]; omega; done)) | refine wpfS_go ?_ | refine brP_mk (fun h => ?_) (fun h => ?_) | fail) <;> conv => whnf)
    refine ⟨rfl, ?_⟩
    show (⟨[.mrow [.p (.int .i64 e), .os (.par 1) (bs.length + 1 + 1 + 1 + 1)], .arr 1 false (bytesOf bs ++ [[.int .u8 (IntKind.u8.wrap ((n : Int).fdiv (256 ^ 3)))]] ++ [[.int .u8 (IntKind.u8.wrap ((n : Int).fdiv (256 ^ 2)))]] ++ [[.int .u8 (IntKind.u8.wrap ((n : Int).fdiv (256 ^ 1)))]] ++ [[.int .u8 (IntKind.u8.wrap ((n : Int).fdiv (256 ^ 0)))]])], []⟩ : Hp) = _
    rw [b0, b1, b2, b3]
    exact wr_eq e bs _ (by rw [numB_len]) (by rw [List.append_assoc, List.append_assoc, List.append_assoc]; rfl)
/-- What the text's bytes come to. -/
def textB (s : List UInt8) : List UInt8 := UInt8.ofNat s.length :: s
theorem w_text_ok (e : Int) (bs : List UInt8) (hb : bs.length ≤ 2 ^ 40) (s : List UInt8) (h : s.length ≤ 255) : EvR PR G f_wire_Writer_Text [.c (.ptr (.par 0) 0), .c (.p (.str s))] ⟨wrB e bs, []⟩ (.tup []) ⟨wrB e (bs ++ textB s), []⟩ := by
  have hlen := bytesOf_len bs
  have hlen2 := bytesOf_len s
  have hall := bytesOf_all s
  have hbe := byte_eq s.length 0
  refine EvR.of_wpfC false false hm c_wire_Writer_Text rfl rfl ?_
  conv => whnf
  repeat' ((first | refine brP_t (by assumption) ?_ | refine brP_f (by assumption) ?_ | refine brP_t (decide_eq_true (by omega)) ?_ | refine brP_f (decide_eq_false (by omega)) ?_ | refine brP_t (nd_t (by omega)) ?_ | refine brP_f (nd_f (by omega)) ?_ | (refine gd_mk ?_ ?_; focus (simp [hlen]; omega; done)) | (refine gd_mk ?_ ?_; focus (simp [hlen, hlen2, hall]; omega; done)) | refine wpfS_go ?_ | refine brP_mk (fun h => ?_) (fun h => ?_) | fail) <;> conv => whnf)
  refine ⟨rfl, ?_⟩
  rw [show ((s.length : Int)) = (s.length : Int).fdiv (256 ^ 0) by simp, hbe]
  exact wr_eq e bs (textB s) (by simp [textB, hlen2]; omega) (by rw [List.append_assoc]; simp [textB, bytesOf])
theorem clone1 {bs : List UInt8} (hl : bs.length ≤ 2 ^ 40) : EvR PR G f_bytes_Clone [slv (bytesOf bs)] ⟨[], []⟩ (.c (.os (.loc 0) bs.length)) ⟨[], [.arr 1 false (bytesOf bs)]⟩ := by
  have := clone_ok (P := PR) (G := G) hm (sz := 1) (bytes := 1) c_bytes_Clone (by omega) (es := bytesOf bs) ⟨by rw [bytesOf_len]; omega, by rw [bytesOf_len]; omega⟩ (bytesOf_all bs)
  rwa [bytesOf_len] at this
/-- The same block, its bytes frozen. -/
def wrF (e : Int) (bs : List UInt8) : List Blk := [.mrow [.p (.int .i64 e), .os (.par 1) bs.length], .arr 1 true (bytesOf bs)]
theorem w_done_ok (bs : List UInt8) (hb : bs.length ≤ 2 ^ 40) : EvR PR G f_wire_Writer_Done [.c (.ptr (.par 0) 0)] ⟨wrB 0 bs, []⟩ (.tup [slv (bytesOf bs), iv 0]) ⟨wrF 0 bs, []⟩ := by
  have hfz : freezeAs ⟨wrB 0 bs, []⟩ [.c (.os (.par 1) bs.length)] = some (true, [slv (bytesOf bs)], ⟨wrF 0 bs, []⟩) := by
    show some (decide (bs.length = (bytesOf bs).length) && true, _, _) = _
    rw [decide_eq_true (bytesOf_len bs).symm]; rfl
  refine EvR.of_wpfC false true hm c_wire_Writer_Done rfl rfl ?_
  conv => whnf
  repeat' ((first | refine brP_t (by assumption) ?_ | refine brP_f (by assumption) ?_ | refine brP_t (decide_eq_true (by omega)) ?_ | refine brP_f (decide_eq_false (by omega)) ?_ | refine brP_t (nd_t (by omega)) ?_ | refine brP_f (nd_f (by omega)) ?_ | refine callK_rf hfz (EvR.fr [] (clone1 hb) rfl rfl trivial rfl) ?_ | (refine gd_mk ?_ ?_; focus (rw [bytesOf_len]; simp; done)) | refine wpfS_go ?_ | fail) <;> conv => whnf)
  exact ⟨rfl, rfl⟩
end Go.Ab.S

namespace Go.Ab.S
open Go Go.Ab Go.Proofs
attribute [local irreducible] SemS
set_option maxRecDepth 100000
theorem div64 {n : Nat} (h : n < 2 ^ 63) : IntKind.i64.wrap ((n : Int).tdiv 256) = ((n / 256 : Nat) : Int) := by
  rw [show (n : Int).tdiv 256 = ((n / 256 : Nat) : Int) from rfl, wrap64 (by omega)]
theorem mod8 (n : Nat) : IntKind.u8.wrap ((n : Int).tmod 256) = ((UInt8.ofNat n).toNat : Int) := by
  rw [show (n : Int).tmod 256 = ((n % 256 : Nat) : Int) from rfl]
  simp [IntKind.wrap, IntKind.signed, IntKind.bits]
theorem R05_Num_ok (n size : Nat) (hn : n < 2 ^ 63) (hs : 1 ≤ size ∧ size ≤ 4) : EvP PR G f_R05_Num [iv n, iv size] (.tup [slv (bytesOf (numB n size)), bv (decide (n / 256 ^ size = 0))]) := by
  refine EvP.of_wpf false hm c_R05_Num rfl ?_
  have d1 := div64 hn
  have d2 : IntKind.i64.wrap (((n / 256 : Nat) : Int).tdiv 256) = ((n / 256 / 256 : Nat) : Int) := div64 (by omega)
  have d3 : IntKind.i64.wrap (((n / 256 / 256 : Nat) : Int).tdiv 256) = ((n / 256 / 256 / 256 : Nat) : Int) := div64 (by omega)
  have d4 : IntKind.i64.wrap (((n / 256 / 256 / 256 : Nat) : Int).tdiv 256) = ((n / 256 / 256 / 256 / 256 : Nat) : Int) := div64 (by omega)
  have this : size = 1 ∨ size = 2 ∨ size = 3 ∨ size = 4 := by omega
  rcases this with rfl | rfl | rfl | rfl
  · have hb : bytesOf (numB n 1) = [[.int .u8 ((UInt8.ofNat (n)).toNat : Int)]] := by simp [numB, bytesOf, List.range_succ, Nat.div_div_eq_div_mul]
    have hd : decide (n / 256 ^ 1 = 0) = decide ((((n / 256) : Nat) : Int) = 0) := decide_eq_decide.2 (by first | omega | (simp only [Nat.div_div_eq_div_mul]; omega))
    conv => whnf
    repeat' ((first | refine brP_t (by assumption) ?_ | refine brP_f (by assumption) ?_ | refine brP_t (decide_eq_true (by omega)) ?_ | refine brP_f (decide_eq_false (by omega)) ?_ | refine brP_t (nd_t (by omega)) ?_ | refine brP_f (nd_f (by omega)) ?_ | ((rw [d1])) | refine SemS.loop1 false hm ?_ | (refine gd_mk ?_ ?_; focus (simp; done)) | refine wpfS_go ?_ | refine brP_mk (fun h => ?_) (fun h => ?_) | fail) <;> conv => whnf)
    rw [mod8 (n), hb, hd]
    rfl
  · have hb : bytesOf (numB n 2) = [[.int .u8 ((UInt8.ofNat (n / 256)).toNat : Int)], [.int .u8 ((UInt8.ofNat (n)).toNat : Int)]] := by simp [numB, bytesOf, List.range_succ, Nat.div_div_eq_div_mul]
    have hd : decide (n / 256 ^ 2 = 0) = decide ((((n / 256 / 256) : Nat) : Int) = 0) := decide_eq_decide.2 (by first | omega | (simp only [Nat.div_div_eq_div_mul]; omega))
    conv => whnf
    repeat' ((first | refine brP_t (by assumption) ?_ | refine brP_f (by assumption) ?_ | refine brP_t (decide_eq_true (by omega)) ?_ | refine brP_f (decide_eq_false (by omega)) ?_ | refine brP_t (nd_t (by omega)) ?_ | refine brP_f (nd_f (by omega)) ?_ | ((rw [d1])) | ((rw [d2])) | refine SemS.loop1 false hm ?_ | (refine gd_mk ?_ ?_; focus (simp; done)) | refine wpfS_go ?_ | refine brP_mk (fun h => ?_) (fun h => ?_) | fail) <;> conv => whnf)
    rw [mod8 (n / 256), mod8 (n), hb, hd]
    rfl
  · have hb : bytesOf (numB n 3) = [[.int .u8 ((UInt8.ofNat (n / 256 / 256)).toNat : Int)], [.int .u8 ((UInt8.ofNat (n / 256)).toNat : Int)], [.int .u8 ((UInt8.ofNat (n)).toNat : Int)]] := by simp [numB, bytesOf, List.range_succ, Nat.div_div_eq_div_mul]
    have hd : decide (n / 256 ^ 3 = 0) = decide ((((n / 256 / 256 / 256) : Nat) : Int) = 0) := decide_eq_decide.2 (by first | omega | (simp only [Nat.div_div_eq_div_mul]; omega))
    conv => whnf
    repeat' ((first | refine brP_t (by assumption) ?_ | refine brP_f (by assumption) ?_ | refine brP_t (decide_eq_true (by omega)) ?_ | refine brP_f (decide_eq_false (by omega)) ?_ | refine brP_t (nd_t (by omega)) ?_ | refine brP_f (nd_f (by omega)) ?_ | ((rw [d1])) | ((rw [d2])) | ((rw [d3])) | refine SemS.loop1 false hm ?_ | (refine gd_mk ?_ ?_; focus (simp; done)) | refine wpfS_go ?_ | refine brP_mk (fun h => ?_) (fun h => ?_) | fail) <;> conv => whnf)
    rw [mod8 (n / 256 / 256), mod8 (n / 256), mod8 (n), hb, hd]
    rfl
  · have hb : bytesOf (numB n 4) = [[.int .u8 ((UInt8.ofNat (n / 256 / 256 / 256)).toNat : Int)], [.int .u8 ((UInt8.ofNat (n / 256 / 256)).toNat : Int)], [.int .u8 ((UInt8.ofNat (n / 256)).toNat : Int)], [.int .u8 ((UInt8.ofNat (n)).toNat : Int)]] := by simp [numB, bytesOf, List.range_succ, Nat.div_div_eq_div_mul]
    have hd : decide (n / 256 ^ 4 = 0) = decide ((((n / 256 / 256 / 256 / 256) : Nat) : Int) = 0) := decide_eq_decide.2 (by first | omega | (simp only [Nat.div_div_eq_div_mul]; omega))
    conv => whnf
    repeat' ((first | refine brP_t (by assumption) ?_ | refine brP_f (by assumption) ?_ | refine brP_t (decide_eq_true (by omega)) ?_ | refine brP_f (decide_eq_false (by omega)) ?_ | refine brP_t (nd_t (by omega)) ?_ | refine brP_f (nd_f (by omega)) ?_ | ((rw [d1])) | ((rw [d2])) | ((rw [d3])) | ((rw [d4])) | refine SemS.loop1 false hm ?_ | (refine gd_mk ?_ ?_; focus (simp; done)) | refine wpfS_go ?_ | refine brP_mk (fun h => ?_) (fun h => ?_) | fail) <;> conv => whnf)
    rw [mod8 (n / 256 / 256 / 256), mod8 (n / 256 / 256), mod8 (n / 256), mod8 (n), hb, hd]
    rfl
/-- The reference writer's block. -/
def rwB (e : Int) (bs : List UInt8) : List Blk := [.mrow [.os (.par 1) bs.length, .p (.int .i64 e)], .arr 1 false (bytesOf bs)]
theorem rw_eq (e : Int) (bs t : List UInt8) {m : Nat} {R : List (List PV)} (hm : m = bs.length + t.length) (hR : R = bytesOf bs ++ bytesOf t) : (⟨[.mrow [.os (.par 1) m, .p (.int .i64 e)], .arr 1 false R], []⟩ : Hp) = ⟨rwB e (bs ++ t), []⟩ := by
  subst hm hR
  rw [rwB, List.length_append, bytesOf_app]
theorem rw_num_ok (e : Int) (bs : List UInt8) (hb : bs.length ≤ 2 ^ 40) (n size : Nat) (h : okNum n size = true) : EvR PR G f_R05_W_Num [.c (.ptr (.par 0) 0), iv n, iv size] ⟨rwB e bs, []⟩ (.tup []) ⟨rwB e (bs ++ numB n size), []⟩ := by
  obtain ⟨h1, h2, h3, h4⟩ := of_decide_eq_true h
  have h5 : n < 256 ^ size := by
    rw [Int.toNat_natCast] at h4
    have : ((256 ^ size : Nat) : Int) = (256 : Int) ^ size := by rw [Int.natCast_pow]; rfl
    omega
  have h6 : 256 ^ size ≤ 256 ^ 4 := Nat.pow_le_pow_right (by omega) (by omega)
  have hX := R05_Num_ok n size (by omega) (by omega)
  rw [decide_eq_true (Nat.div_eq_of_lt h5)] at hX
  clear h h4 h5 h6
  have hlen := bytesOf_len bs
  have hlen2 := bytesOf_len (numB n size)
  have hnl : (numB n size).length = size := numB_len
  have hall := bytesOf_all (numB n size)
  generalize numB n size = t at *
  refine EvR.of_wpfC false false hm c_R05_W_Num rfl rfl ?_
  conv => whnf
  repeat' ((first | refine brP_t (by assumption) ?_ | refine brP_f (by assumption) ?_ | refine brP_t (decide_eq_true (by omega)) ?_ | refine brP_f (decide_eq_false (by omega)) ?_ | refine brP_t (nd_t (by omega)) ?_ | refine brP_f (nd_f (by omega)) ?_ | refine callK_p hX ?_ | refine callM_p hX rfl ?_ | refine callK_pf rfl hX ?_ | (refine gd_mk ?_ ?_; focus (simp [hlen, hlen2, hall]; omega; done)) | refine wpfS_go ?_ | refine brP_mk (fun h => ?_) (fun h => ?_) | fail) <;> conv => whnf)
  refine ⟨rfl, ?_⟩
  exact rw_eq e bs t (by rw [hlen2]) rfl
theorem rw_text_ok (e : Int) (bs : List UInt8) (hb : bs.length ≤ 2 ^ 40) (s : List UInt8) (h : s.length ≤ 255) : EvR PR G f_R05_W_Text [.c (.ptr (.par 0) 0), .c (.p (.str s))] ⟨rwB e bs, []⟩ (.tup []) ⟨rwB e (bs ++ textB s), []⟩ := by
  have hlen := bytesOf_len bs
  have hlen2 := bytesOf_len s
  have hall := bytesOf_all s
  have hbe := byte_eq s.length 0
  refine EvR.of_wpfC false false hm c_R05_W_Text rfl rfl ?_
  conv => whnf
  repeat' ((first | refine brP_t (by assumption) ?_ | refine brP_f (by assumption) ?_ | refine brP_t (decide_eq_true (by omega)) ?_ | refine brP_f (decide_eq_false (by omega)) ?_ | refine brP_t (nd_t (by omega)) ?_ | refine brP_f (nd_f (by omega)) ?_ | (refine gd_mk ?_ ?_; focus (simp [hlen]; omega; done)) | (refine gd_mk ?_ ?_; focus (simp [hlen, hlen2, hall]; omega; done)) | refine wpfS_go ?_ | refine brP_mk (fun h => ?_) (fun h => ?_) | fail) <;> conv => whnf)
  refine ⟨rfl, ?_⟩
  rw [show ((s.length : Int)) = (s.length : Int).fdiv (256 ^ 0) by simp, hbe]
  exact rw_eq e bs (textB s) (by simp [textB, hlen2]; omega) (by rw [List.append_assoc]; simp [textB, bytesOf])
end Go.Ab.S
