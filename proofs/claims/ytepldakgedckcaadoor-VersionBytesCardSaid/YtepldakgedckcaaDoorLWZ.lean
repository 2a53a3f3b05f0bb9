/- Part of a proof; no condition. Part of a proof; no condition. Part of a proof; no condition. Part of a proof; no condition. Part of a proof; no condition. Part of a proof; no condition. Part of a proof; no condition. Part of a proof; no condition. Part of a proof; no condition. -/
import Derived.Test.YtepldakgedckcaaDoorB0
set_option linter.unusedSimpArgs false
set_option linter.unusedVariables false
namespace Go.Ab.S
open Go Go.Ab Go.Proofs
attribute [local irreducible] SemS
set_option maxRecDepth 100000
theorem unbytes_bytesOf : ∀ (s : List UInt8), unbytes (bytesOf s) = some s
  | [] => rfl
  | b :: s => by
    show (match unbytes (bytesOf s) with
      | some l => some (UInt8.ofNat (b.toNat : Int).toNat :: l)
      | none => none) = _
    rw [unbytes_bytesOf s]
    simp
theorem bytesOf_len (s : List UInt8) : (bytesOf s).length = s.length := by simp [bytesOf]
theorem bytesOf_app (s t : List UInt8) : bytesOf (s ++ t) = bytesOf s ++ bytesOf t := by simp [bytesOf]
theorem bytesOf_all (s : List UInt8) : ((bytesOf s).all fun r => r.length == 1) = true := by simp [bytesOf]
theorem bytesS_sl (H : Hp) (s : List UInt8) : bytesS H (.p (.sl (bytesOf s))) = some (true, s) := by
  simp only [bytesS, elemsA, unbytes_bytesOf]
/-- A number's bytes. -/
def numB (n size : Nat) : List UInt8 := (List.range size).map fun i => UInt8.ofNat (n / 256 ^ (size - 1 - i))
theorem numB_len {n size : Nat} : (numB n size).length = size := by simp [numB]
theorem byte_eq (n k : Nat) : IntKind.u8.wrap ((n : Int).fdiv (256 ^ k)) = ((UInt8.ofNat (n / 256 ^ k)).toNat : Int) := by
  have e : ((n : Int).fdiv (256 ^ k)) = ((n / 256 ^ k : Nat) : Int) := by
    rw [Int.fdiv_eq_ediv_of_nonneg _ (by exact Int.le_of_lt (Int.pow_pos (by omega)))]
    rw [Int.natCast_ediv, Int.natCast_pow]; rfl
  rw [e]
  simp [IntKind.wrap, IntKind.signed, IntKind.bits]
def okNum (n size : Int) : Bool := decide (1 ≤ size ∧ size ≤ 4 ∧ 0 ≤ n ∧ n < 256 ^ size.toNat)
/-- A writer's block, and what it has written. -/
def wrB (e : Int) (bs : List UInt8) : List Blk := [.mrow [.p (.int .i64 e), .os (.par 1) bs.length], .arr 1 false (bytesOf bs)]
def firstE (e x : Int) : Int := if e = 0 then x else e
theorem most_ok (size : Int) (h : 1 ≤ size ∧ size ≤ 4) : EvP PR G f_wire_most [iv size] (iv (256 ^ size.toNat - 1)) := by
  refine EvP.of_wpf true hm c_wire_most rfl ?_
  have : size = 1 ∨ size = 2 ∨ size = 3 ∨ size = 4 := by omega
  rcases this with rfl | rfl | rfl | rfl
  all_goals
    conv => whnf
    repeat' ((first | refine brP_t (by assumption) ?_ | refine brP_f (by assumption) ?_ | refine brP_t (decide_eq_true (by omega)) ?_ | refine brP_f (decide_eq_false (by omega)) ?_ | refine brP_t (nd_t (by omega)) ?_ | refine brP_f (nd_f (by omega)) ?_ | refine wpfS_go ?_ | refine brP_mk (fun h => ?_) (fun h => ?_) | fail) <;> conv => whnf)
    rfl
theorem wr_eq (e : Int) (bs t : List UInt8) {m : Nat} {R : List (List PV)} (hm : m = bs.length + t.length) (hR : R = bytesOf bs ++ bytesOf t) : (⟨[.mrow [.p (.int .i64 e), .os (.par 1) m], .arr 1 false R], []⟩ : Hp) = ⟨wrB e (bs ++ t), []⟩ := by
  subst hm hR
  rw [wrB, List.length_append, bytesOf_app]
theorem w_num_ok (e : Int) (bs : List UInt8) (hb : bs.length ≤ 2 ^ 40) (n size : Nat) (h : okNum n size = true) : EvR PR G f_wire_Writer_Num [.c (.ptr (.par 0) 0), iv n, iv size] ⟨wrB e bs, []⟩ (.tup []) ⟨wrB e (bs ++ numB n size), []⟩ := by
  obtain ⟨h1, h2, h3, h4⟩ := of_decide_eq_true h
  refine EvR.of_wpfC false false hm c_wire_Writer_Num rfl rfl ?_
  have hm1 := most_ok size (by omega)
  have h5 : (n : Int) ≤ 256 ^ (size : Int).toNat - 1 := by omega
  clear h4 h
  generalize (256 : Int) ^ (size : Int).toNat - 1 = m at *
  have hlen := bytesOf_len bs
  have hall := bytesOf_all bs
  have b0 := byte_eq n 0
  have b1 := byte_eq n 1
  have b2 := byte_eq n 2
  have b3 := byte_eq n 3
  have : size = 1 ∨ size = 2 ∨ size = 3 ∨ size = 4 := by omega
  rcases this with rfl | rfl | rfl | rfl
  · conv => whnf
    repeat' ((first | refine brP_t (by assumption) ?_ | refine brP_f (by assumption) ?_ | refine brP_t (decide_eq_true (by omega)) ?_ | refine brP_f (decide_eq_false (by omega)) ?_ | refine brP_t (nd_t (by omega)) ?_ | refine brP_f (nd_f (by omega)) ?_ | refine callK_p hm1 ?_ | refine callM_p hm1 rfl ?_ | refine callK_pf rfl hm1 ?_ | refine SemS.loop1 false hm ?_ | (refine gd_mk ?_ ?_; focus (simp [hlen]; omega; done)) | refine wpfS_go ?_ | refine brP_mk (fun h => ?_) (fun h => ?_) | fail) <;> conv => whnf)
    refine ⟨rfl, ?_⟩
    show (⟨[.mrow [.p (.int .i64 e), .os (.par 1) (bs.length + 1)], .arr 1 false (bytesOf bs ++ [[.int .u8 (IntKind.u8.wrap ((n : Int).fdiv (256 ^ 0)))]])], []⟩ : Hp) = _
    rw [b0]
    exact wr_eq e bs _ (by rw [numB_len]) rfl
  · conv => whnf
    repeat' ((first | refine brP_t (by assumption) ?_ | refine brP_f (by assumption) ?_ | refine brP_t (decide_eq_true (by omega)) ?_ | refine brP_f (decide_eq_false (by omega)) ?_ | refine brP_t (nd_t (by omega)) ?_ | refine brP_f (nd_f (by omega)) ?_ | refine callK_p hm1 ?_ | refine callM_p hm1 rfl ?_ | refine callK_pf rfl hm1 ?_ | refine SemS.loop1 false hm ?_ | (refine gd_mk ?_ ?_; focus (simp [hlen]; omega; done)) | refine wpfS_go ?_ | refine brP_mk (fun h => ?_) (fun h => ?_) | fail) <;> conv => whnf)
    refine ⟨rfl, ?_⟩
    show (⟨[.mrow [.p (.int .i64 e), .os (.par 1) (bs.length + 1 + 1)], .arr 1 false (bytesOf bs ++ [[.int .u8 (IntKind.u8.wrap ((n : Int).fdiv (256 ^ 1)))]] ++ [[.int .u8 (IntKind.u8.wrap ((n : Int).fdiv (256 ^ 0)))]])], []⟩ : Hp) = _
    rw [b0, b1]
    exact wr_eq e bs _ (by rw [numB_len]) (by rw [List.append_assoc]; rfl)
  · conv => whnf
    repeat' ((first | refine brP_t (by assumption) ?_ | refine brP_f (by assumption) ?_ | refine brP_t (decide_eq_true (by omega)) ?_ | refine brP_f (decide_eq_false (by omega)) ?_ | refine brP_t (nd_t (by omega)) ?_ | refine brP_f (nd_f (by omega)) ?_ | refine callK_p hm1 ?_ | refine callM_p hm1 rfl ?_ | refine callK_pf rfl hm1 ?_ | refine SemS.loop1 false hm ?_ | (refine gd_mk ?_ ?_; focus (simp [hlen]; omega; done)) | refine wpfS_go ?_ | refine brP_mk (fun h => ?_) (fun h => ?_) | fail) <;> conv => whnf)
    refine ⟨rfl, ?_⟩
    show (⟨[.mrow [.p (.int .i64 e), .os (.par 1) (bs.length + 1 + 1 + 1)], .arr 1 false (bytesOf bs ++ [[.int .u8 (IntKind.u8.wrap ((n : Int).fdiv (256 ^ 2)))]] ++ [[.int .u8 (IntKind.u8.wrap ((n : Int).fdiv (256 ^ 1)))]] ++ [[.int .u8 (IntKind.u8.wrap ((n : Int).fdiv (256 ^ 0)))]])], []⟩ : Hp) = _
    rw [b0, b1, b2]
    exact wr_eq e bs _ (by rw [numB_len]) (by rw [List.append_assoc, List.append_assoc]; rfl)
  · conv => whnf
    repeat' ((first | refine brP_t (by assumption) ?_ | refine brP_f (by assumption) ?_ | refine brP_t (decide_eq_true (by omega)) ?_ | refine brP_f (decide_eq_false (by omega)) ?_ | refine brP_t (nd_t (by omega)) ?_ | refine brP_f (nd_f (by omega)) ?_ | refine callK_p hm1 ?_ | refine callM_p hm1 rfl ?_ | refine callK_pf rfl hm1 ?_ | refine SemS.loop1 false hm ?_ | (refine gd_mk ?_ ?_; focus (simp [hlen]; omega; done)) | refine wpfS_go ?_ | refine brP_mk (fun h => ?_) (fun h => ?_) | fail) <;> conv => whnf)
    refine ⟨rfl, ?_⟩
    show (⟨[.mrow [.p (.int .i64 e), .os (.par 1) (bs.length + 1 + 1 + 1 + 1)], .arr 1 false (bytesOf bs ++ [[.int .u8 (IntKind.u8.wrap ((n : Int).fdiv (256 ^ 3)))]] ++ [[.int .u8 (IntKind.u8.wrap ((n : Int).fdiv (256 ^ 2)))]] ++ [[.int .u8 (IntKind.u8.wrap ((n : Int).fdiv (256 ^ 1)))]] ++ [[.int .u8 (IntKind.u8.wrap ((n : Int).fdiv (256 ^ 0)))]])], []⟩ : Hp) = _
    rw [b0, b1, b2, b3]
    exact wr_eq e bs _ (by rw [numB_len]) (by rw [List.append_assoc, List.append_assoc, List.append_assoc]; rfl)
/-- What the text's bytes come to. -/
def textB (s : List UInt8) : List UInt8 := UInt8.ofNat s.length :: s
theorem clone1 {bs : List UInt8} (hl : bs.length ≤ 2 ^ 40) : EvR PR G f_bytes_Clone [slv (bytesOf bs)] ⟨[], []⟩ (.c (.os (.loc 0) bs.length)) ⟨[], [.arr 1 false (bytesOf bs)]⟩ := by
  have := clone_ok (P := PR) (G := G) hm (sz := 1) (bytes := 1) c_bytes_Clone (by omega) (es := bytesOf bs) ⟨by rw [bytesOf_len]; omega, by rw [bytesOf_len]; omega⟩ (bytesOf_all bs)
  rwa [bytesOf_len] at this
/-- The same block, its bytes frozen. -/
def wrF (e : Int) (bs : List UInt8) : List Blk := [.mrow [.p (.int .i64 e), .os (.par 1) bs.length], .arr 1 true (bytesOf bs)]
theorem w_done_ok (bs : List UInt8) (hb : bs.length ≤ 2 ^ 40) : EvR PR G f_wire_Writer_Done [.c (.ptr (.par 0) 0)] ⟨wrB 0 bs, []⟩ (.tup [slv (bytesOf bs), iv 0]) ⟨wrF 0 bs, []⟩ := by
  have hfz : freezeAs ⟨wrB 0 bs, []⟩ [.c (.os (.par 1) bs.length)] = some (true, [slv (bytesOf bs)], ⟨wrF 0 bs, []⟩) := by
    show some (decide (bs.length = (bytesOf bs).length) && true, _, _) = _
    rw [decide_eq_true (bytesOf_len bs).symm]; rfl
  refine EvR.of_wpfC false true hm c_wire_Writer_Done rfl rfl ?_
  conv => whnf
  repeat' ((first | refine brP_t (by assumption) ?_ | refine brP_f (by assumption) ?_ | refine brP_t (decide_eq_true (by omega)) ?_ | refine brP_f (decide_eq_false (by omega)) ?_ | refine brP_t (nd_t (by omega)) ?_ | refine brP_f (nd_f (by omega)) ?_ | refine callK_rf hfz (EvR.fr [] (clone1 hb) rfl rfl trivial rfl) ?_ | (refine gd_mk ?_ ?_; focus (rw [bytesOf_len]; simp; done)) | refine wpfS_go ?_ | fail) <;> conv => whnf)
  exact ⟨rfl, rfl⟩
end Go.Ab.S

namespace Go.Ab.S
open Go Go.Ab Go.Proofs
attribute [local irreducible] SemS
set_option maxRecDepth 100000
/-- The reference writer's block. -/
def rwB (e : Int) (bs : List UInt8) : List Blk := [.mrow [.os (.par 1) bs.length, .p (.int .i64 e)], .arr 1 false (bytesOf bs)]
end Go.Ab.S

namespace Go.Ab.S
open Go Go.Ab Go.Proofs
attribute [local irreducible] SemS
set_option maxRecDepth 100000
/-- The number that bytes are. -/
def valB (l : List UInt8) : Nat := l.foldl (fun n c => n * 256 + c.toNat) 0
theorem valB_succ {l : List UInt8} {i : Nat} (h : i < l.length) : valB (l.take (i + 1)) = valB (l.take i) * 256 + l[i].toNat := by
  rw [List.take_succ_eq_append_getElem h, valB, List.foldl_append]; rfl
theorem valB_lt : ∀ (l : List UInt8), valB l < 256 ^ l.length := by
  intro l
  have : ∀ (l : List UInt8) (n k : Nat), n < 256 ^ k → l.foldl (fun n c => n * 256 + c.toNat) n < 256 ^ (k + l.length) := by
    intro l
    induction l with
    | nil => intro n k h; simpa using h
    | cons c l ih =>
      intro n k h
      have hc := c.toNat_lt
      have := ih (n * 256 + c.toNat) (k + 1) (by rw [Nat.pow_succ]; omega)
      rw [List.foldl_cons, List.length_cons, show k + (l.length + 1) = k + 1 + l.length by omega]; exact this
  have := this l 0 0 (by simp)
  rw [Nat.zero_add] at this; exact this
theorem or_byte (n c : Nat) (hn : n < 2 ^ 40) (hc : c < 256) : IntKind.i64.wrap ((BitVec.ofInt IntKind.i64.bits (IntKind.i64.wrap ((n : Int) * 2 ^ (min (8 : Int).toNat IntKind.i64.bits))) ||| BitVec.ofInt IntKind.i64.bits (IntKind.i64.wrap (c : Int))).toNat) = ((n * 256 + c : Nat) : Int) := by
  have e1 : IntKind.i64.wrap ((n : Int) * 2 ^ (min (8 : Int).toNat IntKind.i64.bits)) = ((n * 256 : Nat) : Int) := by
    rw [show (2 : Int) ^ (min (8 : Int).toNat IntKind.i64.bits) = 256 from rfl, wrap64 (by omega)]; omega
  have e2 : IntKind.i64.wrap (c : Int) = (c : Int) := wrap64 (by omega)
  rw [e1, e2]
  have e3 : (BitVec.ofInt IntKind.i64.bits ((n * 256 : Nat) : Int) ||| BitVec.ofInt IntKind.i64.bits (c : Int)).toNat = n * 256 + c := by
    rw [BitVec.toNat_or, BitVec.ofInt_natCast, BitVec.ofInt_natCast, BitVec.toNat_ofNat, BitVec.toNat_ofNat, show IntKind.i64.bits = 64 from rfl, Nat.mod_eq_of_lt (by omega), Nat.mod_eq_of_lt (by omega)]
    have := Nat.shiftLeft_add_eq_or_of_lt (i := 8) (b := c) (by omega) n
    rw [Nat.shiftLeft_eq] at this
    exact this.symm
  rw [e3, wrap64 (by omega)]
/-- A reader's block: the first error, and what is left. -/
def rdB (e : Int) (bs : List UInt8) : List Blk := [.row [.int .i64 e, .sl (bytesOf bs)]]
theorem bytesOf_get {l : List UInt8} {i : Nat} (h : i < l.length) : (bytesOf l)[i]? = some [.int .u8 l[i].toNat] := by
  rw [bytesOf, List.getElem?_map, List.getElem?_eq_getElem h]; rfl
theorem bytesOf_take (l : List UInt8) (n : Nat) : (bytesOf l).take n = bytesOf (l.take n) := by simp [bytesOf, List.map_take]
theorem bytesOf_drop (l : List UInt8) (n : Nat) : (bytesOf l).drop n = bytesOf (l.drop n) := by simp [bytesOf, List.map_drop]
theorem r_fail_ok (e : Int) (bs : List UInt8) (x : Int) : EvR PR G f_wire_fault_fail [.c (.ptr (.par 0) 0), iv x] ⟨rdB e bs, []⟩ (.tup []) ⟨rdB (firstE e x) bs, []⟩ := by
  refine EvR.of_wpf false false hm c_wire_fault_fail rfl ?_
  conv => whnf
  by_cases h : e = 0
  · have hf : firstE e x = x := by unfold firstE; rw [if_pos h]
    rw [hf]
    repeat' ((first | refine brP_t (by assumption) ?_ | refine brP_f (by assumption) ?_ | refine brP_t (decide_eq_true (by omega)) ?_ | refine brP_f (decide_eq_false (by omega)) ?_ | refine brP_t (nd_t (by omega)) ?_ | refine brP_f (nd_f (by omega)) ?_ | refine wpfS_go ?_ | refine brP_mk (fun h => ?_) (fun h => ?_) | fail) <;> conv => whnf)
    exact ⟨rfl, rfl⟩
  · have hf : firstE e x = e := by unfold firstE; rw [if_neg h]
    rw [hf]
    repeat' ((first | refine brP_t (by assumption) ?_ | refine brP_f (by assumption) ?_ | refine brP_t (decide_eq_true (by omega)) ?_ | refine brP_f (decide_eq_false (by omega)) ?_ | refine brP_t (nd_t (by omega)) ?_ | refine brP_f (nd_f (by omega)) ?_ | refine wpfS_go ?_ | refine brP_mk (fun h => ?_) (fun h => ?_) | fail) <;> conv => whnf)
    exact ⟨rfl, rfl⟩
theorem r_Fail_ok (e : Int) (bs : List UInt8) (x : Int) : EvR PR G f_wire_Reader_Fail [.c (.ptr (.par 0) 0), iv x] ⟨rdB e bs, []⟩ (.tup []) ⟨rdB (firstE e x) bs, []⟩ := by
  have hf := r_fail_ok e bs x
  refine EvR.of_wpf false false hm c_wire_Reader_Fail rfl ?_
  conv => whnf
  repeat' ((first | refine brP_t (by assumption) ?_ | refine brP_f (by assumption) ?_ | refine brP_t (decide_eq_true (by omega)) ?_ | refine brP_f (decide_eq_false (by omega)) ?_ | refine brP_t (nd_t (by omega)) ?_ | refine brP_f (nd_f (by omega)) ?_ | refine callK_r (EvR.fr [_] hf rfl rfl ⟨rfl, trivial⟩ rfl) ?_ | refine callM_l (LEv.fr [_] hf rfl rfl ⟨rfl, trivial⟩ rfl rfl) ?_ | refine callK_rt (EvR.fr [_] hf rfl rfl ⟨rfl, trivial⟩ rfl) ?_ | refine callK_rf rfl (EvR.fr [_] hf rfl rfl ⟨rfl, trivial⟩ rfl) ?_ | refine callK_rft rfl (EvR.fr [_] hf rfl rfl ⟨rfl, trivial⟩ rfl) ?_ | refine wpfS_go ?_ | refine brP_mk (fun h => ?_) (fun h => ?_) | fail) <;> conv => whnf)
  exact ⟨rfl, rfl⟩
theorem r_Err_ok (e : Int) (bs : List UInt8) : EvR PR G f_wire_Reader_Err [.c (.ptr (.par 0) 0)] ⟨rdB e bs, []⟩ (iv e) ⟨rdB e bs, []⟩ := by
  refine EvR.of_wpf false false hm c_wire_Reader_Err rfl ?_
  conv => whnf
  repeat' ((first | refine brP_t (by assumption) ?_ | refine brP_f (by assumption) ?_ | refine brP_t (decide_eq_true (by omega)) ?_ | refine brP_f (decide_eq_false (by omega)) ?_ | refine brP_t (nd_t (by omega)) ?_ | refine brP_f (nd_f (by omega)) ?_ | refine wpfS_go ?_ | refine brP_mk (fun h => ?_) (fun h => ?_) | fail) <;> conv => whnf)
  exact ⟨rfl, rfl⟩
def leftR (e : Int) (bs : List UInt8) : Int := if e = 0 then bs.length else 0
theorem r_Left_ok (e : Int) (bs : List UInt8) : EvR PR G f_wire_Reader_Left [.c (.ptr (.par 0) 0)] ⟨rdB e bs, []⟩ (iv (leftR e bs)) ⟨rdB e bs, []⟩ := by
  have hl := bytesOf_len bs
  refine EvR.of_wpf false false hm c_wire_Reader_Left rfl ?_
  conv => whnf
  by_cases h : e = 0
  · have hf : leftR e bs = bs.length := by unfold leftR; rw [if_pos h]
    rw [hf]
    repeat' ((first | refine brP_t (by assumption) ?_ | refine brP_f (by assumption) ?_ | refine brP_t (decide_eq_true (by omega)) ?_ | refine brP_f (decide_eq_false (by omega)) ?_ | refine brP_t (nd_t (by omega)) ?_ | refine brP_f (nd_f (by omega)) ?_ | refine wpfS_go ?_ | refine brP_mk (fun h => ?_) (fun h => ?_) | fail) <;> conv => whnf)
    refine ⟨?_, rfl⟩
    show iv ((bytesOf bs).length : Nat) = _
    rw [hl]
  · have hf : leftR e bs = 0 := by unfold leftR; rw [if_neg h]
    rw [hf]
    repeat' ((first | refine brP_t (by assumption) ?_ | refine brP_f (by assumption) ?_ | refine brP_t (decide_eq_true (by omega)) ?_ | refine brP_f (decide_eq_false (by omega)) ?_ | refine brP_t (nd_t (by omega)) ?_ | refine brP_f (nd_f (by omega)) ?_ | refine wpfS_go ?_ | refine brP_mk (fun h => ?_) (fun h => ?_) | fail) <;> conv => whnf)
    exact ⟨rfl, rfl⟩
theorem NewReader_ok (bs : List UInt8) : EvR PR G f_wire_NewReader [slv (bytesOf bs)] ⟨[], []⟩ (.c (.ptr (.loc 0) 0)) ⟨[], rdB 0 bs⟩ := by
  refine EvR.of_wpf false false hm c_wire_NewReader rfl ?_
  conv => whnf
  repeat' ((first | refine brP_t (by assumption) ?_ | refine brP_f (by assumption) ?_ | refine brP_t (decide_eq_true (by omega)) ?_ | refine brP_f (decide_eq_false (by omega)) ?_ | refine brP_t (nd_t (by omega)) ?_ | refine brP_f (nd_f (by omega)) ?_ | refine wpfS_go ?_ | refine brP_mk (fun h => ?_) (fun h => ?_) | fail) <;> conv => whnf)
  exact ⟨rfl, rfl⟩
theorem r_take_bad (e : Int) (bs : List UInt8) (n : Nat) (h : bs.length < n) : EvR PR G f_wire_Reader_take [.c (.ptr (.par 0) 0), iv n] ⟨rdB e bs, []⟩ (slv []) ⟨rdB (firstE e 4) bs, []⟩ := by
  have hf := r_Fail_ok e bs 4
  have hl := bytesOf_len bs
  have h4 : firstE e 4 ≠ 0 := by unfold firstE; split <;> omega
  generalize firstE e 4 = e' at *
  refine EvR.of_wpf false true hm c_wire_Reader_take rfl ?_
  conv => whnf
  repeat' ((first | refine brP_t (by assumption) ?_ | refine brP_f (by assumption) ?_ | refine brP_t (decide_eq_true (by omega)) ?_ | refine brP_f (decide_eq_false (by omega)) ?_ | refine brP_t (nd_t (by omega)) ?_ | refine brP_f (nd_f (by omega)) ?_ | refine callK_r (EvR.fr [_] hf rfl rfl ⟨rfl, trivial⟩ rfl) ?_ | refine callM_l (LEv.fr [_] hf rfl rfl ⟨rfl, trivial⟩ rfl rfl) ?_ | refine callK_rt (EvR.fr [_] hf rfl rfl ⟨rfl, trivial⟩ rfl) ?_ | refine callK_rf rfl (EvR.fr [_] hf rfl rfl ⟨rfl, trivial⟩ rfl) ?_ | refine callK_rft rfl (EvR.fr [_] hf rfl rfl ⟨rfl, trivial⟩ rfl) ?_ | refine wpfS_go ?_ | refine brP_mk (fun h => ?_) (fun h => ?_) | fail) <;> conv => whnf)
  exact ⟨rfl, rfl⟩
theorem r_take_ok (bs : List UInt8) (n : Nat) (h : n ≤ bs.length) : EvR PR G f_wire_Reader_take [.c (.ptr (.par 0) 0), iv n] ⟨rdB 0 bs, []⟩ (slv (bytesOf (bs.take n))) ⟨rdB 0 (bs.drop n), []⟩ := by
  have hl := bytesOf_len bs
  have hall := bytesOf_all bs
  refine EvR.of_wpf false true hm c_wire_Reader_take rfl ?_
  conv => whnf
  repeat' ((first | refine brP_t (by assumption) ?_ | refine brP_f (by assumption) ?_ | refine brP_t (decide_eq_true (by omega)) ?_ | refine brP_f (decide_eq_false (by omega)) ?_ | refine brP_t (nd_t (by omega)) ?_ | refine brP_f (nd_f (by omega)) ?_ | (refine gd_mk ?_ ?_; focus (simp [hl, hall]; omega; done)) | refine wpfS_go ?_ | refine brP_mk (fun h => ?_) (fun h => ?_) | fail) <;> conv => whnf)
  refine ⟨?_, ?_⟩
  · show slv (List.drop 0 (List.take (n : Int).toNat (bytesOf bs))) = _
    rw [List.drop_zero, Int.toNat_natCast, bytesOf_take]
  · show (⟨[.row [.int .i64 0, .sl (List.drop (n : Int).toNat (List.take (bytesOf bs).length (bytesOf bs)))]], []⟩ : Hp) = _
    rw [List.take_length, Int.toNat_natCast, bytesOf_drop]; rfl
end Go.Ab.S

namespace Go.Ab.S
open Go Go.Ab Go.Proofs
attribute [local irreducible] SemS
set_option maxRecDepth 100000
/-- What reading a number gives, and what is left; the program leaves too few bytes where they are, the document's reader takes them. -/
def numV (e : Int) (bs : List UInt8) (size most : Int) : Int :=
  if e ≠ 0 then 0 else if ¬ (1 ≤ size ∧ size ≤ 4) then 0 else if (bs.length : Int) < size then 0 else if most < valB (bs.take size.toNat) then 0 else valB (bs.take size.toNat)
def numE (e : Int) (bs : List UInt8) (size most : Int) : Int :=
  if e ≠ 0 then e else if ¬ (1 ≤ size ∧ size ≤ 4) then 8 else if (bs.length : Int) < size then 4 else if most < valB (bs.take size.toNat) then 8 else 0
def numL (keep : Bool) (e : Int) (bs : List UInt8) (size : Int) : List UInt8 :=
  if e ≠ 0 then bs else if ¬ (1 ≤ size ∧ size ≤ 4) then bs else if (bs.length : Int) < size then (if keep then bs else []) else bs.drop size.toNat
theorem r_Num_ok (e : Int) (bs : List UInt8) (size most : Int) (hm0 : -9223372036854775808 ≤ most) : EvR PR G f_wire_Reader_Num [.c (.ptr (.par 0) 0), iv size, iv most] ⟨rdB e bs, []⟩ (iv (numV e bs size most)) ⟨rdB (numE e bs size most) (numL true e bs size), []⟩ := by
  refine EvR.of_wpf false false hm c_wire_Reader_Num rfl ?_
  by_cases he : e = 0
  case neg =>
    have e1 : numV e bs size most = 0 := by unfold numV; rw [if_pos he]
    have e2 : numE e bs size most = e := by unfold numE; rw [if_pos he]
    have e3 : numL true e bs size = bs := by unfold numL; rw [if_pos he]
    rw [e1, e2, e3]
    conv => whnf
    repeat' ((first | refine brP_t (by assumption) ?_ | refine brP_f (by assumption) ?_ | refine brP_t (decide_eq_true (by omega)) ?_ | refine brP_f (decide_eq_false (by omega)) ?_ | refine brP_t (nd_t (by omega)) ?_ | refine brP_f (nd_f (by omega)) ?_ | refine wpfS_go ?_ | refine brP_mk (fun h => ?_) (fun h => ?_) | fail) <;> conv => whnf)
    exact ⟨rfl, rfl⟩
  subst he
  by_cases hs : 1 ≤ size ∧ size ≤ 4
  case neg =>
    have e1 : numV 0 bs size most = 0 := by unfold numV; rw [if_neg (by simp), if_pos hs]
    have e2 : numE 0 bs size most = 8 := by unfold numE; rw [if_neg (by simp), if_pos hs]
    have e3 : numL true 0 bs size = bs := by unfold numL; rw [if_neg (by simp), if_pos hs]
    have hf : EvR PR G f_wire_Reader_Fail [.c (.ptr (.par 0) 0), iv 8] ⟨rdB 0 bs, []⟩ (.tup []) ⟨rdB 8 bs, []⟩ := r_Fail_ok 0 bs 8
    rw [e1, e2, e3]
    conv => whnf
    by_cases h1 : size < 1
    · repeat' ((first | refine brP_t (by assumption) ?_ | refine brP_f (by assumption) ?_ | refine brP_t (decide_eq_true (by omega)) ?_ | refine brP_f (decide_eq_false (by omega)) ?_ | refine brP_t (nd_t (by omega)) ?_ | refine brP_f (nd_f (by omega)) ?_ | refine callK_r (EvR.fr [_] hf rfl rfl ⟨rfl, trivial⟩ rfl) ?_ | refine callM_l (LEv.fr [_] hf rfl rfl ⟨rfl, trivial⟩ rfl rfl) ?_ | refine callK_rt (EvR.fr [_] hf rfl rfl ⟨rfl, trivial⟩ rfl) ?_ | refine callK_rf rfl (EvR.fr [_] hf rfl rfl ⟨rfl, trivial⟩ rfl) ?_ | refine callK_rft rfl (EvR.fr [_] hf rfl rfl ⟨rfl, trivial⟩ rfl) ?_ | refine wpfS_go ?_ | refine brP_mk (fun h => ?_) (fun h => ?_) | fail) <;> conv => whnf)
      exact ⟨rfl, rfl⟩
    · repeat' ((first | refine brP_t (by assumption) ?_ | refine brP_f (by assumption) ?_ | refine brP_t (decide_eq_true (by omega)) ?_ | refine brP_f (decide_eq_false (by omega)) ?_ | refine brP_t (nd_t (by omega)) ?_ | refine brP_f (nd_f (by omega)) ?_ | refine callK_r (EvR.fr [_] hf rfl rfl ⟨rfl, trivial⟩ rfl) ?_ | refine callM_l (LEv.fr [_] hf rfl rfl ⟨rfl, trivial⟩ rfl rfl) ?_ | refine callK_rt (EvR.fr [_] hf rfl rfl ⟨rfl, trivial⟩ rfl) ?_ | refine callK_rf rfl (EvR.fr [_] hf rfl rfl ⟨rfl, trivial⟩ rfl) ?_ | refine callK_rft rfl (EvR.fr [_] hf rfl rfl ⟨rfl, trivial⟩ rfl) ?_ | refine wpfS_go ?_ | refine brP_mk (fun h => ?_) (fun h => ?_) | fail) <;> conv => whnf)
      exact ⟨rfl, rfl⟩
  obtain ⟨k, rfl⟩ := Int.eq_ofNat_of_zero_le (show 0 ≤ size by omega)
  by_cases hl : bs.length < k
  case pos =>
    have hl' : (bs.length : Int) < (k : Int) := by omega
    have e1 : numV 0 bs k most = 0 := by unfold numV; rw [if_neg (by simp), if_neg (by omega), if_pos hl']
    have e2 : numE 0 bs k most = 4 := by unfold numE; rw [if_neg (by simp), if_neg (by omega), if_pos hl']
    have e3 : numL true 0 bs k = bs := by unfold numL; rw [if_neg (by simp), if_neg (by omega), if_pos hl']; rfl
    have ht : EvR PR G f_wire_Reader_take [.c (.ptr (.par 0) 0), iv k] ⟨rdB 0 bs, []⟩ (slv []) ⟨rdB 4 bs, []⟩ := r_take_bad 0 bs k hl
    have hf : EvR PR G f_wire_Reader_Fail [.c (.ptr (.par 0) 0), iv 8] ⟨rdB 4 bs, []⟩ (.tup []) ⟨rdB 4 bs, []⟩ := r_Fail_ok 4 bs 8
    rw [e1, e2, e3]
    conv => whnf
    repeat' ((first | refine brP_t (by assumption) ?_ | refine brP_f (by assumption) ?_ | refine brP_t (decide_eq_true (by omega)) ?_ | refine brP_f (decide_eq_false (by omega)) ?_ | refine brP_t (nd_t (by omega)) ?_ | refine brP_f (nd_f (by omega)) ?_ | refine callK_r (EvR.fr [_] ht rfl rfl ⟨rfl, trivial⟩ rfl) ?_ | refine callM_l (LEv.fr [_] ht rfl rfl ⟨rfl, trivial⟩ rfl rfl) ?_ | refine callK_rt (EvR.fr [_] ht rfl rfl ⟨rfl, trivial⟩ rfl) ?_ | refine callK_rf rfl (EvR.fr [_] ht rfl rfl ⟨rfl, trivial⟩ rfl) ?_ | refine callK_rft rfl (EvR.fr [_] ht rfl rfl ⟨rfl, trivial⟩ rfl) ?_ | refine callK_r (EvR.fr [_] hf rfl rfl ⟨rfl, trivial⟩ rfl) ?_ | refine callM_l (LEv.fr [_] hf rfl rfl ⟨rfl, trivial⟩ rfl rfl) ?_ | refine callK_rt (EvR.fr [_] hf rfl rfl ⟨rfl, trivial⟩ rfl) ?_ | refine callK_rf rfl (EvR.fr [_] hf rfl rfl ⟨rfl, trivial⟩ rfl) ?_ | refine callK_rft rfl (EvR.fr [_] hf rfl rfl ⟨rfl, trivial⟩ rfl) ?_ | refine SemS.loop1 false hm ?_ | refine wpfS_go ?_ | refine brP_mk (fun h => ?_) (fun h => ?_) | fail) <;> conv => whnf)
    all_goals exact ⟨rfl, rfl⟩
  have hl2 : ¬ (bs.length : Int) < (k : Int) := by omega
  have ht := r_take_ok bs k (by omega)
  have e3 : numL true 0 bs k = bs.drop k := by unfold numL; rw [if_neg (by simp), if_neg (by omega), if_neg hl2, Int.toNat_natCast]
  have e1 : numV 0 bs k most = if most < valB (bs.take k) then 0 else (valB (bs.take k) : Int) := by unfold numV; rw [if_neg (by simp), if_neg (by omega), if_neg hl2, Int.toNat_natCast]
  have e2 : numE 0 bs k most = if most < valB (bs.take k) then 8 else 0 := by unfold numE; rw [if_neg (by simp), if_neg (by omega), if_neg hl2, Int.toNat_natCast]
  have htl : (bs.take k).length = k := by rw [List.length_take]; omega
  rw [e1, e2, e3]
  clear e1 e2 e3 hl hl2
  generalize bs.take k = xs at *
  generalize bs.drop k = rest at *
  have hxl := bytesOf_len xs
  refine wpf_seq1 ?_
  conv => whnf
  repeat' ((first | refine brP_t (by assumption) ?_ | refine brP_f (by assumption) ?_ | refine brP_t (decide_eq_true (by omega)) ?_ | refine brP_f (decide_eq_false (by omega)) ?_ | refine brP_t (nd_t (by omega)) ?_ | refine brP_f (nd_f (by omega)) ?_ | refine callK_r (EvR.fr [_] ht rfl rfl ⟨rfl, trivial⟩ rfl) ?_ | refine callM_l (LEv.fr [_] ht rfl rfl ⟨rfl, trivial⟩ rfl rfl) ?_ | refine callK_rt (EvR.fr [_] ht rfl rfl ⟨rfl, trivial⟩ rfl) ?_ | refine callK_rf rfl (EvR.fr [_] ht rfl rfl ⟨rfl, trivial⟩ rfl) ?_ | refine callK_rft rfl (EvR.fr [_] ht rfl rfl ⟨rfl, trivial⟩ rfl) ?_ | refine wpfS_seq1 ?_ | refine wpfS_go ?_ | fail) <;> conv => whnf)
  have hvl := valB_lt xs
  have hp4 : 256 ^ xs.length ≤ 256 ^ 4 := Nat.pow_le_pow_right (by omega) (by omega)
  refine SemS.loopF false hm (σ := Nat) (fun i => [(32, iv i), (31, iv xs.length), (30, slv (bytesOf xs)), (7, iv (valB (xs.take i))), (0, .c (.ptr (.par 0) 0)), (2, iv most)]) (fun _ => ⟨rdB 0 rest, []⟩) (fun i => xs.length - i) (fun i => i ≤ xs.length) 0 (Nat.zero_le _) ⟨rfl, by rw [hxl]; rfl, rfl, rfl, rfl, rfl, trivial⟩ rfl ?_
  intro i hi
  refine wpf_seq1 ?_
  conv => whnf
  refine wpfS_seq1 ?_
  conv => whnf
  refine brP_mk (fun h => ?_) (fun h => ?_)
  · have hi' : i < xs.length := by have := of_decide_eq_true h; omega
    clear h
    have hget := bytesOf_get hi'
    have hw2 : IntKind.i64.wrap ((i : Int) + 1) = ((i + 1 : Nat) : Int) := by rw [wrap64 (by omega)]; rfl
    have hv := valB_succ hi'
    have hvi : valB (xs.take i) < 256 ^ 4 := Nat.lt_of_lt_of_le (valB_lt _) (Nat.pow_le_pow_right (by omega) (by rw [List.length_take]; omega))
    have hor := or_byte (valB (xs.take i)) xs[i].toNat (by omega) xs[i].toNat_lt
    generalize xs[i] = c at *
    repeat' ((first | refine brP_t (by assumption) ?_ | refine brP_f (by assumption) ?_ | refine brP_t (decide_eq_true (by omega)) ?_ | refine brP_f (decide_eq_false (by omega)) ?_ | refine brP_t (nd_t (by omega)) ?_ | refine brP_f (nd_f (by omega)) ?_ | ((conv in (opS _ _ _ _) => whnf); rw [Int.toNat_natCast, hget]) | refine wpfS_seq1 ?_ | refine wpfS_go ?_ | fail) <;> conv => whnf)
    rw [hw2, hor, ← hv]
    exact ⟨i + 1, hi', (show xs.length - (i + 1) < xs.length - i by omega), ⟨rfl, rfl, rfl, rfl, rfl, rfl, trivial⟩, rfl⟩
  · have hi' : i = xs.length := by have := of_decide_eq_false h; omega
    subst hi'
    rw [List.take_length]
    clear h
    have hf : EvR PR G f_wire_Reader_Fail [.c (.ptr (.par 0) 0), iv 8] ⟨rdB 0 rest, []⟩ (.tup []) ⟨rdB 8 rest, []⟩ := r_Fail_ok 0 rest 8
    generalize valB xs = n at *
    conv => whnf
    by_cases hmost : most < n
    · rw [if_pos hmost, if_pos hmost]
      repeat' ((first | refine brP_t (by assumption) ?_ | refine brP_f (by assumption) ?_ | refine brP_t (decide_eq_true (by omega)) ?_ | refine brP_f (decide_eq_false (by omega)) ?_ | refine brP_t (nd_t (by omega)) ?_ | refine brP_f (nd_f (by omega)) ?_ | refine callK_r (EvR.fr [_] hf rfl rfl ⟨rfl, trivial⟩ rfl) ?_ | refine callM_l (LEv.fr [_] hf rfl rfl ⟨rfl, trivial⟩ rfl rfl) ?_ | refine callK_rt (EvR.fr [_] hf rfl rfl ⟨rfl, trivial⟩ rfl) ?_ | refine callK_rf rfl (EvR.fr [_] hf rfl rfl ⟨rfl, trivial⟩ rfl) ?_ | refine callK_rft rfl (EvR.fr [_] hf rfl rfl ⟨rfl, trivial⟩ rfl) ?_ | refine wpfS_seq1 ?_ | refine wpfS_go ?_ | fail) <;> conv => whnf)
      exact ⟨rfl, rfl⟩
    · rw [if_neg hmost, if_neg hmost]
      repeat' ((first | refine brP_t (by assumption) ?_ | refine brP_f (by assumption) ?_ | refine brP_t (decide_eq_true (by omega)) ?_ | refine brP_f (decide_eq_false (by omega)) ?_ | refine brP_t (nd_t (by omega)) ?_ | refine brP_f (nd_f (by omega)) ?_ | refine callK_r (EvR.fr [_] hf rfl rfl ⟨rfl, trivial⟩ rfl) ?_ | refine callM_l (LEv.fr [_] hf rfl rfl ⟨rfl, trivial⟩ rfl rfl) ?_ | refine callK_rt (EvR.fr [_] hf rfl rfl ⟨rfl, trivial⟩ rfl) ?_ | refine callK_rf rfl (EvR.fr [_] hf rfl rfl ⟨rfl, trivial⟩ rfl) ?_ | refine callK_rft rfl (EvR.fr [_] hf rfl rfl ⟨rfl, trivial⟩ rfl) ?_ | refine wpfS_seq1 ?_ | refine wpfS_go ?_ | fail) <;> conv => whnf)
      exact ⟨rfl, rfl⟩
/-- What reading a text gives. -/
def txtV (e : Int) (bs : List UInt8) (most : Int) : List UInt8 :=
  if e ≠ 0 then [] else match bs with
    | [] => []
    | c :: r => if most < c.toNat then [] else if r.length < c.toNat then [] else r.take c.toNat
def txtE (e : Int) (bs : List UInt8) (most : Int) : Int :=
  if e ≠ 0 then e else match bs with
    | [] => 4
    | c :: r => if most < c.toNat then 5 else if r.length < c.toNat then 4 else 0
def txtL (keep : Bool) (e : Int) (bs : List UInt8) (most : Int) : List UInt8 :=
  if e ≠ 0 then bs else match bs with
    | [] => []
    | c :: r => if most < c.toNat then r else if r.length < c.toNat then (if keep then r else []) else r.drop c.toNat
end Go.Ab.S

namespace Go.Ab.S
open Go Go.Ab Go.Proofs
attribute [local irreducible] SemS
set_option maxRecDepth 100000
/-- The document's reader: what was read, what is left, the first error. -/
def rrB (e : Int) (pre bs : List UInt8) : List Blk := [.row [.sl (bytesOf (pre ++ bs)), .int .i64 pre.length, .int .i64 e]]
theorem rr_shift (e : Int) (pre : List UInt8) (c : UInt8) (r : List UInt8) : rrB e (pre ++ [c]) r = [.row [.sl (bytesOf (pre ++ c :: r)), .int .i64 ((pre.length + 1 : Nat) : Int), .int .i64 e]] := by
  unfold rrB
  rw [List.append_assoc, List.length_append]; rfl
theorem rr_Byte_bad (e : Int) (pre bs : List UInt8) (he : e ≠ 0) : EvR PR G f_R05_R_Byte [.c (.ptr (.par 0) 0)] ⟨rrB e pre bs, []⟩ (iv 0) ⟨rrB e pre bs, []⟩ := by
  refine EvR.of_wpf false false hm c_R05_R_Byte rfl ?_
  conv => whnf
  repeat' ((first | refine brP_t (by assumption) ?_ | refine brP_f (by assumption) ?_ | refine brP_t (decide_eq_true (by omega)) ?_ | refine brP_f (decide_eq_false (by omega)) ?_ | refine brP_t (nd_t (by omega)) ?_ | refine brP_f (nd_f (by omega)) ?_ | refine wpfS_go ?_ | refine brP_mk (fun h => ?_) (fun h => ?_) | fail) <;> conv => whnf)
  exact ⟨rfl, rfl⟩
theorem rr_Byte_end (pre : List UInt8) : EvR PR G f_R05_R_Byte [.c (.ptr (.par 0) 0)] ⟨rrB 0 pre [], []⟩ (iv 0) ⟨rrB 4 pre [], []⟩ := by
  refine EvR.of_wpf false false hm c_R05_R_Byte rfl ?_
  have hl : (bytesOf (pre ++ [])).length = pre.length := by rw [bytesOf_len, List.append_nil]
  conv => whnf
  repeat' ((first | refine brP_t (by assumption) ?_ | refine brP_f (by assumption) ?_ | refine brP_t (decide_eq_true (by omega)) ?_ | refine brP_f (decide_eq_false (by omega)) ?_ | refine brP_t (nd_t (by omega)) ?_ | refine brP_f (nd_f (by omega)) ?_ | refine wpfS_go ?_ | refine brP_mk (fun h => ?_) (fun h => ?_) | fail) <;> conv => whnf)
  exact ⟨rfl, rfl⟩
theorem rr_Byte_ok (pre : List UInt8) (c : UInt8) (r : List UInt8) (hl : (pre ++ c :: r).length < 2 ^ 62) : EvR PR G f_R05_R_Byte [.c (.ptr (.par 0) 0)] ⟨rrB 0 pre (c :: r), []⟩ (iv c.toNat) ⟨rrB 0 (pre ++ [c]) r, []⟩ := by
  rw [rr_shift]
  refine EvR.of_wpf false false hm c_R05_R_Byte rfl ?_
  have hlen : (bytesOf (pre ++ c :: r)).length = pre.length + r.length + 1 := by rw [bytesOf_len, List.length_append, List.length_cons]; omega
  have hget : (bytesOf (pre ++ c :: r))[pre.length]? = some [.int .u8 c.toNat] := by
    rw [bytesOf_get (by rw [List.length_append, List.length_cons]; omega)]; simp
  have hw : IntKind.i64.wrap ((pre.length : Int) + 1) = ((pre.length + 1 : Nat) : Int) := by rw [wrap64 (by simp at hl; omega)]; rfl
  have hw2 : IntKind.i64.wrap (((pre.length + 1 : Nat) : Int) - 1) = (pre.length : Int) := by rw [wrap64 (by simp at hl; omega)]; omega
  have hc : IntKind.i64.wrap (c.toNat : Int) = c.toNat := wrap64 (by have := c.toNat_lt; omega)
  conv => whnf
  repeat' ((first | refine brP_t (by assumption) ?_ | refine brP_f (by assumption) ?_ | refine brP_t (decide_eq_true (by omega)) ?_ | refine brP_f (decide_eq_false (by omega)) ?_ | refine brP_t (nd_t (by omega)) ?_ | refine brP_f (nd_f (by omega)) ?_ | ((rw [hw])) | ((conv in (opS _ _ _ _) => whnf); rw [hw2, Int.toNat_natCast, hget]) | refine wpfS_go ?_ | refine brP_mk (fun h => ?_) (fun h => ?_) | fail) <;> conv => whnf)
  exact ⟨congrArg iv hc, rfl⟩
theorem rr_Left_ok (e : Int) (pre bs : List UInt8) (hl : (pre ++ bs).length < 2 ^ 62) : EvR PR G f_R05_R_Left [.c (.ptr (.par 0) 0)] ⟨rrB e pre bs, []⟩ (iv (leftR e bs)) ⟨rrB e pre bs, []⟩ := by
  have hlen : (bytesOf (pre ++ bs)).length = pre.length + bs.length := by rw [bytesOf_len, List.length_append]
  have hw : IntKind.i64.wrap (((pre.length + bs.length : Nat) : Int) - pre.length) = bs.length := by rw [wrap64 (by simp at hl; omega)]; omega
  refine EvR.of_wpf false false hm c_R05_R_Left rfl ?_
  conv => whnf
  by_cases h : e = 0
  · have hf : leftR e bs = bs.length := by unfold leftR; rw [if_pos h]
    rw [hf]
    repeat' ((first | refine brP_t (by assumption) ?_ | refine brP_f (by assumption) ?_ | refine brP_t (decide_eq_true (by omega)) ?_ | refine brP_f (decide_eq_false (by omega)) ?_ | refine brP_t (nd_t (by omega)) ?_ | refine brP_f (nd_f (by omega)) ?_ | refine wpfS_go ?_ | refine brP_mk (fun h => ?_) (fun h => ?_) | fail) <;> conv => whnf)
    refine ⟨?_, rfl⟩
    show iv (IntKind.i64.wrap (((bytesOf (pre ++ bs)).length : Nat) - (pre.length : Int))) = _
    rw [hlen, hw]
  · have hf : leftR e bs = 0 := by unfold leftR; rw [if_neg h]
    rw [hf]
    repeat' ((first | refine brP_t (by assumption) ?_ | refine brP_f (by assumption) ?_ | refine brP_t (decide_eq_true (by omega)) ?_ | refine brP_f (decide_eq_false (by omega)) ?_ | refine brP_t (nd_t (by omega)) ?_ | refine brP_f (nd_f (by omega)) ?_ | refine wpfS_go ?_ | refine brP_mk (fun h => ?_) (fun h => ?_) | fail) <;> conv => whnf)
    exact ⟨rfl, rfl⟩
theorem rr_Num_ok (e : Int) (pre bs : List UInt8) (hl : (pre ++ bs).length < 2 ^ 62) (size most : Int) : EvR PR G f_R05_R_Num [.c (.ptr (.par 0) 0), iv size, iv most] ⟨rrB e pre bs, []⟩ (iv (numV e bs size most)) ⟨rrB (numE e bs size most) (pre ++ bs.take (bs.length - (numL false e bs size).length)) (numL false e bs size), []⟩ := by
  refine EvR.of_wpf false false hm c_R05_R_Num rfl ?_
  by_cases he : e = 0
  case neg =>
    have e1 : numV e bs size most = 0 := by unfold numV; rw [if_pos he]
    have e2 : numE e bs size most = e := by unfold numE; rw [if_pos he]
    have e3 : numL false e bs size = bs := by unfold numL; rw [if_pos he]
    rw [e1, e2, e3, show bs.length - bs.length = 0 by omega, List.take_zero, List.append_nil]
    refine wpf_seq1 ?_
    conv => whnf
    repeat' ((first | refine brP_t (by assumption) ?_ | refine brP_f (by assumption) ?_ | refine brP_t (decide_eq_true (by omega)) ?_ | refine brP_f (decide_eq_false (by omega)) ?_ | refine brP_t (nd_t (by omega)) ?_ | refine brP_f (nd_f (by omega)) ?_ | refine wpfS_seq1 ?_ | refine wpfS_go ?_ | fail) <;> conv => whnf)
    by_cases hz : 0 < size
    all_goals
      refine SemS.loop1 false hm ?_
      refine wpf_seq1 ?_
      conv => whnf
      repeat' ((first | refine brP_t (by assumption) ?_ | refine brP_f (by assumption) ?_ | refine brP_t (decide_eq_true (by omega)) ?_ | refine brP_f (decide_eq_false (by omega)) ?_ | refine brP_t (nd_t (by omega)) ?_ | refine brP_f (nd_f (by omega)) ?_ | refine wpfS_seq1 ?_ | refine wpfS_go ?_ | fail) <;> conv => whnf)
      exact ⟨rfl, rfl⟩
  subst he
  by_cases hs : 1 ≤ size ∧ size ≤ 4
  case neg =>
    have e1 : numV 0 bs size most = 0 := by unfold numV; rw [if_neg (by simp), if_pos hs]
    have e2 : numE 0 bs size most = 8 := by unfold numE; rw [if_neg (by simp), if_pos hs]
    have e3 : numL false 0 bs size = bs := by unfold numL; rw [if_neg (by simp), if_pos hs]
    rw [e1, e2, e3, show bs.length - bs.length = 0 by omega, List.take_zero, List.append_nil]
    by_cases h1 : size < 1
    all_goals
      refine wpf_seq1 ?_
      conv => whnf
      repeat' ((first | refine brP_t (by assumption) ?_ | refine brP_f (by assumption) ?_ | refine brP_t (decide_eq_true (by omega)) ?_ | refine brP_f (decide_eq_false (by omega)) ?_ | refine brP_t (nd_t (by omega)) ?_ | refine brP_f (nd_f (by omega)) ?_ | refine wpfS_seq1 ?_ | refine wpfS_go ?_ | fail) <;> conv => whnf)
      refine SemS.loop1 false hm ?_
      refine wpf_seq1 ?_
      conv => whnf
      repeat' ((first | refine brP_t (by assumption) ?_ | refine brP_f (by assumption) ?_ | refine brP_t (decide_eq_true (by omega)) ?_ | refine brP_f (decide_eq_false (by omega)) ?_ | refine brP_t (nd_t (by omega)) ?_ | refine brP_f (nd_f (by omega)) ?_ | refine wpfS_seq1 ?_ | refine wpfS_go ?_ | fail) <;> conv => whnf)
      exact ⟨rfl, rfl⟩
  obtain ⟨k, rfl⟩ := Int.eq_ofNat_of_zero_le (show 0 ≤ size by omega)
  refine wpf_seq1 ?_
  conv => whnf
  repeat' ((first | refine brP_t (by assumption) ?_ | refine brP_f (by assumption) ?_ | refine brP_t (decide_eq_true (by omega)) ?_ | refine brP_f (decide_eq_false (by omega)) ?_ | refine brP_t (nd_t (by omega)) ?_ | refine brP_f (nd_f (by omega)) ?_ | refine wpfS_seq1 ?_ | refine wpfS_go ?_ | fail) <;> conv => whnf)
  have hvl := valB_lt bs
  refine SemS.loopF false hm (σ := Nat × Bool) (fun s => match s.2 with
      | false => [(7, iv (valB (bs.take s.1))), (8, iv s.1), (0, .c (.ptr (.par 0) 0)), (1, iv k), (2, iv most)]
      | true => [(8, iv s.1), (0, .c (.ptr (.par 0) 0)), (1, iv k), (2, iv most), (7, iv (IntKind.i64.wrap (IntKind.i64.wrap (256 * (valB bs : Int)) + 0)))])
    (fun s => match s.2 with
      | false => ⟨rrB 0 (pre ++ bs.take s.1) (bs.drop s.1), []⟩
      | true => ⟨rrB 4 (pre ++ bs) [], []⟩)
    (fun s => match s.2 with | false => 1 + k - s.1 | true => 0)
    (fun s => match s.2 with | false => s.1 ≤ k ∧ s.1 ≤ bs.length | true => bs.length < k ∧ s.1 ≤ k) (0, false) ⟨Nat.zero_le _, Nat.zero_le _⟩ ⟨rfl, rfl, rfl, rfl, rfl, trivial⟩ (by simp) ?_
  rintro ⟨i, b⟩ hi
  cases b with
  | true =>
    obtain ⟨hb, hi⟩ := hi
    have hb' : (bs.length : Int) < (k : Int) := by omega
    have e1 : numV 0 bs k most = 0 := by unfold numV; rw [if_neg (by simp), if_neg (by omega), if_pos hb']
    have e2 : numE 0 bs k most = 4 := by unfold numE; rw [if_neg (by simp), if_neg (by omega), if_pos hb']
    have e3 : numL false 0 bs k = [] := by unfold numL; rw [if_neg (by simp), if_neg (by omega), if_pos hb']; rfl
    rw [e1, e2, e3, List.length_nil, Nat.sub_zero, List.take_length]
    by_cases hz : (i : Int) < k
    all_goals
      refine wpf_seq1 ?_
      conv => whnf
      repeat' ((first | refine brP_t (by assumption) ?_ | refine brP_f (by assumption) ?_ | refine brP_t (decide_eq_true (by omega)) ?_ | refine brP_f (decide_eq_false (by omega)) ?_ | refine brP_t (nd_t (by omega)) ?_ | refine brP_f (nd_f (by omega)) ?_ | refine wpfS_seq1 ?_ | refine wpfS_go ?_ | fail) <;> conv => whnf)
      exact ⟨rfl, rfl⟩
  | false =>
    obtain ⟨hi, hb⟩ := hi
    by_cases hz : (i : Int) < k
    · by_cases hs : i = bs.length
      · subst hs
        have hby := rr_Byte_end (pre ++ bs)
        have hw2 : IntKind.i64.wrap ((bs.length : Int) + 1) = ((bs.length + 1 : Nat) : Int) := by rw [wrap64 (by omega)]; rfl
        show wpf PR G false _ _ [(7, iv (valB (bs.take bs.length))), (8, iv bs.length), (0, .c (.ptr (.par 0) 0)), (1, iv k), (2, iv most)] ⟨rrB 0 (pre ++ bs.take bs.length) (bs.drop bs.length), []⟩ _
        rw [List.take_length, List.drop_length]
        refine wpf_seq1 ?_
        conv => whnf
        repeat' ((first | refine brP_t (by assumption) ?_ | refine brP_f (by assumption) ?_ | refine brP_t (decide_eq_true (by omega)) ?_ | refine brP_f (decide_eq_false (by omega)) ?_ | refine brP_t (nd_t (by omega)) ?_ | refine brP_f (nd_f (by omega)) ?_ | refine callK_r (EvR.fr [_] hby rfl rfl ⟨rfl, trivial⟩ rfl) ?_ | refine callM_l (LEv.fr [_] hby rfl rfl ⟨rfl, trivial⟩ rfl rfl) ?_ | refine callK_rt (EvR.fr [_] hby rfl rfl ⟨rfl, trivial⟩ rfl) ?_ | refine callK_rf rfl (EvR.fr [_] hby rfl rfl ⟨rfl, trivial⟩ rfl) ?_ | refine callK_rft rfl (EvR.fr [_] hby rfl rfl ⟨rfl, trivial⟩ rfl) ?_ | refine wpfS_seq1 ?_ | refine wpfS_go ?_ | fail) <;> conv => whnf)
        rw [hw2]
        exact ⟨(bs.length + 1, true), ⟨by omega, by omega⟩, (show 0 < 1 + k - bs.length by omega), ⟨rfl, rfl, rfl, rfl, rfl, trivial⟩, rfl⟩
      · have hlt : i < bs.length := by omega
        have hw2 : IntKind.i64.wrap ((i : Int) + 1) = ((i + 1 : Nat) : Int) := by rw [wrap64 (by omega)]; rfl
        have hv := valB_succ hlt
        have hvi : valB (bs.take i) < 256 ^ 3 := Nat.lt_of_lt_of_le (valB_lt _) (Nat.pow_le_pow_right (by omega) (by rw [List.length_take]; omega))
        have hd : bs.drop i = bs[i] :: bs.drop (i + 1) := List.drop_eq_getElem_cons hlt
        have htk : bs.take (i + 1) = bs.take i ++ [bs[i]] := List.take_succ_eq_append_getElem hlt
        have hby := rr_Byte_ok (pre ++ bs.take i) bs[i] (bs.drop (i + 1)) (by rw [← hd, List.append_assoc, List.take_append_drop]; exact hl)
        have hct := bs[i].toNat_lt
        have hor : IntKind.i64.wrap (IntKind.i64.wrap (256 * (valB (bs.take i) : Int)) + bs[i].toNat) = (valB (bs.take (i + 1)) : Int) := by
          rw [hv, wrap64 (n := 256 * _) (by omega), wrap64 (by omega)]; omega
        show wpf PR G false _ _ [(7, iv (valB (bs.take i))), (8, iv i), (0, .c (.ptr (.par 0) 0)), (1, iv k), (2, iv most)] ⟨rrB 0 (pre ++ bs.take i) (bs.drop i), []⟩ _
        rw [hd]
        refine wpf_seq1 ?_
        conv => whnf
        repeat' ((first | refine brP_t (by assumption) ?_ | refine brP_f (by assumption) ?_ | refine brP_t (decide_eq_true (by omega)) ?_ | refine brP_f (decide_eq_false (by omega)) ?_ | refine brP_t (nd_t (by omega)) ?_ | refine brP_f (nd_f (by omega)) ?_ | refine callK_r (EvR.fr [_] hby rfl rfl ⟨rfl, trivial⟩ rfl) ?_ | refine callM_l (LEv.fr [_] hby rfl rfl ⟨rfl, trivial⟩ rfl rfl) ?_ | refine callK_rt (EvR.fr [_] hby rfl rfl ⟨rfl, trivial⟩ rfl) ?_ | refine callK_rf rfl (EvR.fr [_] hby rfl rfl ⟨rfl, trivial⟩ rfl) ?_ | refine callK_rft rfl (EvR.fr [_] hby rfl rfl ⟨rfl, trivial⟩ rfl) ?_ | refine wpfS_seq1 ?_ | refine wpfS_go ?_ | fail) <;> conv => whnf)
        rw [hw2]
        refine ⟨(i + 1, false), ⟨by omega, by omega⟩, (show 1 + k - (i + 1) < 1 + k - i by omega), ⟨?_, rfl, rfl, rfl, rfl, trivial⟩, ?_⟩
        · exact congrArg iv hor
        · show _ = (⟨rrB 0 (pre ++ bs.take (i + 1)) (bs.drop (i + 1)), []⟩ : Hp)
          rw [htk, ← List.append_assoc]; rfl
    · have hik : i = k := by omega
      subst hik
      have hb' : ¬ (bs.length : Int) < (i : Int) := by omega
      have e1 : numV 0 bs i most = if most < valB (bs.take i) then 0 else (valB (bs.take i) : Int) := by unfold numV; rw [if_neg (by simp), if_neg (by omega), if_neg hb', Int.toNat_natCast]
      have e2 : numE 0 bs i most = if most < valB (bs.take i) then 8 else 0 := by unfold numE; rw [if_neg (by simp), if_neg (by omega), if_neg hb', Int.toNat_natCast]
      have e3 : numL false 0 bs i = bs.drop i := by unfold numL; rw [if_neg (by simp), if_neg (by omega), if_neg hb', Int.toNat_natCast]
      rw [e1, e2, e3, List.length_drop, show bs.length - (bs.length - i) = i by omega]
      show wpf PR G false _ _ [(7, iv (valB (bs.take i))), (8, iv i), (0, .c (.ptr (.par 0) 0)), (1, iv i), (2, iv most)] ⟨rrB 0 (pre ++ bs.take i) (bs.drop i), []⟩ _
      clear e1 e2 e3
      generalize valB (bs.take i) = n at *
      by_cases hmost : most < n
      · rw [if_pos hmost, if_pos hmost]
        refine wpf_seq1 ?_
        conv => whnf
        repeat' ((first | refine brP_t (by assumption) ?_ | refine brP_f (by assumption) ?_ | refine brP_t (decide_eq_true (by omega)) ?_ | refine brP_f (decide_eq_false (by omega)) ?_ | refine brP_t (nd_t (by omega)) ?_ | refine brP_f (nd_f (by omega)) ?_ | refine wpfS_seq1 ?_ | refine wpfS_go ?_ | fail) <;> conv => whnf)
        exact ⟨rfl, rfl⟩
      · rw [if_neg hmost, if_neg hmost]
        refine wpf_seq1 ?_
        conv => whnf
        repeat' ((first | refine brP_t (by assumption) ?_ | refine brP_f (by assumption) ?_ | refine brP_t (decide_eq_true (by omega)) ?_ | refine brP_f (decide_eq_false (by omega)) ?_ | refine brP_t (nd_t (by omega)) ?_ | refine brP_f (nd_f (by omega)) ?_ | refine wpfS_seq1 ?_ | refine wpfS_go ?_ | fail) <;> conv => whnf)
        exact ⟨rfl, rfl⟩
end Go.Ab.S

namespace Go.Ab.S
open Go Go.Ab Go.Proofs
attribute [local irreducible] SemS
set_option maxRecDepth 100000
end Go.Ab.S

namespace Go.Ab.S
open Go Go.Ab Go.Proofs
attribute [local irreducible] SemS
set_option maxRecDepth 100000
/-- The document's reader, by all bytes and those that are left. -/
def rrX (B : List UInt8) (e : Int) (b : List UInt8) : List Blk := [.row [.sl (bytesOf B), .int .i64 ((B.length - b.length : Nat) : Int), .int .i64 e]]
def Suf (B b : List UInt8) : Prop := ∃ p, p ++ b = B
theorem Suf.refl (B : List UInt8) : Suf B B := ⟨[], rfl⟩
theorem Suf.drop {B b : List UInt8} (h : Suf B b) (n : Nat) : Suf B (b.drop n) := by
  obtain ⟨p, rfl⟩ := h
  exact ⟨p ++ b.take n, by rw [List.append_assoc, List.take_append_drop]⟩
theorem Suf.nil {B b : List UInt8} (h : Suf B b) : Suf B [] := by
  have := h.drop b.length
  rwa [List.drop_length] at this
theorem rrX_eq (e : Int) (p b : List UInt8) : rrX (p ++ b) e b = rrB e p b := by
  unfold rrX rrB
  rw [List.length_append, Nat.add_sub_cancel]
theorem numL_sufx {B b : List UInt8} (h : Suf B b) (keep : Bool) (e size : Int) : Suf B (numL keep e b size) := by
  unfold numL
  split
  · exact h
  · split
    · exact h
    · split
      · split
        · exact h
        · exact h.nil
      · exact h.drop _
theorem txtL_sufx {B b : List UInt8} (h : Suf B b) (keep : Bool) (e most : Int) : Suf B (txtL keep e b most) := by
  unfold txtL
  split
  · exact h
  · cases b with
    | nil => exact h
    | cons c r =>
      have hr : Suf B r := h.drop 1
      show Suf B (if most < c.toNat then r else if r.length < c.toNat then (if keep then r else []) else r.drop c.toNat)
      split
      · exact hr
      · split
        · split
          · exact hr
          · exact hr.nil
        · exact hr.drop _
theorem suf_take {b b' : List UInt8} (h : Suf b b') : b.take (b.length - b'.length) ++ b' = b := by
  obtain ⟨p, rfl⟩ := h
  rw [List.length_append, Nat.add_sub_cancel, List.take_left]
theorem rx_Num_ok {B b : List UInt8} (h : Suf B b) (hl : B.length < 2 ^ 62) (e size most : Int) : EvR PR G f_R05_R_Num [.c (.ptr (.par 0) 0), iv size, iv most] ⟨rrX B e b, []⟩ (iv (numV e b size most)) ⟨rrX B (numE e b size most) (numL false e b size), []⟩ := by
  obtain ⟨p, rfl⟩ := h
  have h1 := rr_Num_ok e p b hl size most
  have h2 := suf_take (numL_sufx (Suf.refl b) false e size)
  have h3 : p ++ b = (p ++ b.take (b.length - (numL false e b size).length)) ++ numL false e b size := by rw [List.append_assoc, h2]
  rw [← rrX_eq, ← rrX_eq, ← h3] at h1
  exact h1
theorem rx_Left_ok {B b : List UInt8} (h : Suf B b) (hl : B.length < 2 ^ 62) (e : Int) : EvR PR G f_R05_R_Left [.c (.ptr (.par 0) 0)] ⟨rrX B e b, []⟩ (iv (leftR e b)) ⟨rrX B e b, []⟩ := by
  obtain ⟨p, rfl⟩ := h
  have h1 := rr_Left_ok e p b hl
  rw [← rrX_eq] at h1
  exact h1
/-- A byte is a number of one byte. -/
theorem rx_Byte_ok {B b : List UInt8} (h : Suf B b) (hl : B.length < 2 ^ 62) (e most : Int) (hmost : 255 ≤ most) : EvR PR G f_R05_R_Byte [.c (.ptr (.par 0) 0)] ⟨rrX B e b, []⟩ (iv (numV e b 1 most)) ⟨rrX B (numE e b 1 most) (numL false e b 1), []⟩ := by
  obtain ⟨p, rfl⟩ := h
  by_cases he : e = 0
  · subst he
    cases b with
    | nil =>
      have h1 := rr_Byte_end p
      have e1 : numV 0 [] 1 most = 0 := rfl
      have e2 : numE 0 [] 1 most = 4 := rfl
      have e3 : numL false 0 [] 1 = [] := rfl
      rw [← rrX_eq, ← rrX_eq] at h1
      rw [e1, e2, e3]
      exact h1
    | cons c r =>
      have hc := c.toNat_lt
      have hv : valB (List.take (1 : Int).toNat (c :: r)) = c.toNat := by simp [valB]
      have f1 : numV 0 (c :: r) 1 most = c.toNat := by unfold numV; rw [if_neg (by simp), if_neg (by omega), if_neg (by simp; omega), hv, if_neg (by omega)]
      have f2 : numE 0 (c :: r) 1 most = 0 := by unfold numE; rw [if_neg (by simp), if_neg (by omega), if_neg (by simp; omega), hv, if_neg (by omega)]
      have f3 : numL false 0 (c :: r) 1 = r := by unfold numL; rw [if_neg (by simp), if_neg (by omega), if_neg (by simp; omega)]; rfl
      have h1 := rr_Byte_ok p c r hl
      rw [f1, f2, f3]
      rw [← rrX_eq, ← rrX_eq, show p ++ [c] ++ r = p ++ c :: r by simp] at h1
      exact h1
  · have h1 := rr_Byte_bad e p b he
    have f1 : numV e b 1 most = 0 := by unfold numV; rw [if_pos he]
    have f2 : numE e b 1 most = e := by unfold numE; rw [if_pos he]
    have f3 : numL false e b 1 = b := by unfold numL; rw [if_pos he]
    rw [f1, f2, f3]
    rw [← rrX_eq] at h1
    exact h1
/-! ### The numbers that are read -/
theorem numV_range {e : Int} {b : List UInt8} {size most : Int} (h : 0 ≤ most) : 0 ≤ numV e b size most ∧ numV e b size most ≤ most := by
  unfold numV
  repeat' split
  all_goals omega
theorem num_same {e : Int} {b b' : List UInt8} (h : e = 0 → b = b') (size most : Int) : numV e b size most = numV e b' size most ∧ numE e b size most = numE e b' size most ∧ (numE e b size most = 0 → numL true e b size = numL false e b' size) := by
  by_cases he : e = 0
  · subst he
    obtain rfl := h rfl
    refine ⟨rfl, rfl, fun h0 => ?_⟩
    unfold numE at h0
    unfold numL
    split
    · rfl
    · rename_i h1
      rw [if_neg h1] at h0
      split
      · rfl
      · rename_i h2
        rw [if_neg h2] at h0
        split
        · rename_i h3; rw [if_pos h3] at h0; omega
        · rfl
  · unfold numV numE
    simp only [if_pos (show e ≠ 0 from he)]
    exact ⟨trivial, trivial, fun h => absurd h he⟩
theorem txt_same {e : Int} {b b' : List UInt8} (h : e = 0 → b = b') (most : Int) : txtV e b most = txtV e b' most ∧ txtE e b most = txtE e b' most ∧ (txtE e b most = 0 → txtL true e b most = txtL false e b' most) := by
  by_cases he : e = 0
  · subst he
    obtain rfl := h rfl
    refine ⟨rfl, rfl, fun h0 => ?_⟩
    cases b with
    | nil => rfl
    | cons c r =>
      have h0 : (if most < c.toNat then (5 : Int) else if r.length < c.toNat then 4 else 0) = 0 := h0
      show (if most < c.toNat then r else if r.length < c.toNat then r else r.drop c.toNat) = (if most < c.toNat then r else if r.length < c.toNat then [] else r.drop c.toNat)
      split
      · rfl
      · rename_i h1
        rw [if_neg h1] at h0
        split
        · rename_i h2; rw [if_pos h2] at h0; omega
        · rfl
  · unfold txtV txtE
    simp only [if_pos (show e ≠ 0 from he)]
    exact ⟨trivial, trivial, fun h => absurd h he⟩
theorem left_same {e : Int} {b b' : List UInt8} (h : e = 0 → b = b') : leftR e b = leftR e b' := by
  unfold leftR
  split
  · rename_i he; rw [h he]
  · rfl
end Go.Ab.S

namespace Go.Ab.S
open Go Go.Ab Go.Proofs
attribute [local irreducible] SemS
set_option maxRecDepth 100000
/-- A reader's state: the first error, and what is left. -/
structure St where
  e : Int
  b : List UInt8
def St.num (keep : Bool) (s : St) (size most : Int) : St := ⟨numE s.e s.b size most, numL keep s.e s.b size⟩
def St.txt (keep : Bool) (s : St) (most : Int) : St := ⟨txtE s.e s.b most, txtL keep s.e s.b most⟩
def St.nv (s : St) (size most : Int) : Int := numV s.e s.b size most
def St.tv (s : St) (most : Int) : List UInt8 := txtV s.e s.b most
def St.fail (s : St) (x : Int) : St := ⟨firstE s.e x, s.b⟩
def St.pr (s : St) : List Blk := rdB s.e s.b
def St.px (B : List UInt8) (s : St) : List Blk := rrX B s.e s.b
theorem pr_num (s : St) (size most : Int) (h : -9223372036854775808 ≤ most) : EvR PR G f_wire_Reader_Num [.c (.ptr (.par 0) 0), iv size, iv most] ⟨s.pr, []⟩ (iv (s.nv size most)) ⟨(s.num true size most).pr, []⟩ := r_Num_ok s.e s.b size most h
theorem pr_err (s : St) : EvR PR G f_wire_Reader_Err [.c (.ptr (.par 0) 0)] ⟨s.pr, []⟩ (iv s.e) ⟨s.pr, []⟩ := r_Err_ok s.e s.b
theorem pr_left (s : St) : EvR PR G f_wire_Reader_Left [.c (.ptr (.par 0) 0)] ⟨s.pr, []⟩ (iv (leftR s.e s.b)) ⟨s.pr, []⟩ := r_Left_ok s.e s.b
theorem pr_fail (s : St) (x : Int) : EvR PR G f_wire_Reader_Fail [.c (.ptr (.par 0) 0), iv x] ⟨s.pr, []⟩ (.tup []) ⟨(s.fail x).pr, []⟩ := r_Fail_ok s.e s.b x
theorem pr_new (B : List UInt8) : EvR PR G f_wire_NewReader [slv (bytesOf B)] ⟨[], []⟩ (.c (.ptr (.loc 0) 0)) ⟨[], (St.mk 0 B).pr⟩ := NewReader_ok B
theorem px_num {B : List UInt8} {s : St} (h : Suf B s.b) (hl : B.length < 2 ^ 62) (size most : Int) : EvR PR G f_R05_R_Num [.c (.ptr (.par 0) 0), iv size, iv most] ⟨s.px B, []⟩ (iv (s.nv size most)) ⟨(s.num false size most).px B, []⟩ := rx_Num_ok h hl s.e size most
theorem px_byte {B : List UInt8} {s : St} (h : Suf B s.b) (hl : B.length < 2 ^ 62) (most : Int) (hmost : 255 ≤ most) : EvR PR G f_R05_R_Byte [.c (.ptr (.par 0) 0)] ⟨s.px B, []⟩ (iv (s.nv 1 most)) ⟨(s.num false 1 most).px B, []⟩ := rx_Byte_ok h hl s.e most hmost
theorem px_left {B : List UInt8} {s : St} (h : Suf B s.b) (hl : B.length < 2 ^ 62) : EvR PR G f_R05_R_Left [.c (.ptr (.par 0) 0)] ⟨s.px B, []⟩ (iv (leftR s.e s.b)) ⟨s.px B, []⟩ := rx_Left_ok h hl s.e
theorem Suf.num {B : List UInt8} {s : St} (h : Suf B s.b) (keep : Bool) (size most : Int) : Suf B (s.num keep size most).b := numL_sufx h keep s.e size
theorem Suf.txt {B : List UInt8} {s : St} (h : Suf B s.b) (keep : Bool) (most : Int) : Suf B (s.txt keep most).b := txtL_sufx h keep s.e most
theorem nv_range {s : St} {size most : Int} (h : 0 ≤ most) : 0 ≤ s.nv size most ∧ s.nv size most ≤ most := numV_range h
theorem nv_u16 {s : St} {size : Int} : IntKind.u16.wrap (s.nv size 65535) = (((s.nv size 65535).toNat : Nat) : Int) := by
  have := nv_range (s := s) (size := size) (most := 65535) (by omega)
  rw [Go.Ab.wrap16 (by omega)]
  omega
theorem nv_u8 {s : St} {size most : Int} (h : 0 ≤ most ∧ most ≤ 255) : IntKind.u8.wrap (s.nv size most) = (((s.nv size most).toNat : Nat) : Int) := by
  have := nv_range (s := s) (size := size) (most := most) (by omega)
  rw [wrap8 (by omega)]
  omega
/-- The program's reader and the document's, side by side. -/
structure SameS (s s' : St) : Prop where
  e : s.e = s'.e
  b : s.e = 0 → s.b = s'.b
theorem SameS.refl (s : St) : SameS s s := ⟨rfl, fun _ => rfl⟩
theorem SameS.nv {s s' : St} (h : SameS s s') (size most : Int) : s.nv size most = s'.nv size most := by
  have := (num_same h.b size most).1
  unfold St.nv
  rw [this, h.e]
theorem SameS.num {s s' : St} (h : SameS s s') (size most : Int) : SameS (s.num true size most) (s'.num false size most) := by
  obtain ⟨-, h2, h3⟩ := num_same h.b size most
  refine ⟨by show numE s.e s.b size most = numE s'.e s'.b size most; rw [h2, h.e], fun h0 => ?_⟩
  show numL true s.e s.b size = numL false s'.e s'.b size
  rw [h3 h0, h.e]
theorem SameS.tv {s s' : St} (h : SameS s s') (most : Int) : s.tv most = s'.tv most := by
  have := (txt_same h.b most).1
  unfold St.tv
  rw [this, h.e]
theorem SameS.txt {s s' : St} (h : SameS s s') (most : Int) : SameS (s.txt true most) (s'.txt false most) := by
  obtain ⟨-, h2, h3⟩ := txt_same h.b most
  refine ⟨by show txtE s.e s.b most = txtE s'.e s'.b most; rw [h2, h.e], fun h0 => ?_⟩
  show txtL true s.e s.b most = txtL false s'.e s'.b most
  rw [h3 h0, h.e]
theorem SameS.fail {s s' : St} (h : SameS s s') (x : Int) : SameS (s.fail x) (s'.fail x) := by
  refine ⟨by show firstE s.e x = firstE s'.e x; rw [h.e], fun h0 => h.b ?_⟩
  have h0 : firstE s.e x = 0 := h0
  unfold firstE at h0
  split at h0
  · assumption
  · exact h0
theorem SameS.left {s s' : St} (h : SameS s s') : leftR s.e s.b = leftR s'.e s'.b := by rw [left_same h.b, h.e]
/-! ### What was written is read -/
theorem valB_numB {n k : Nat} (hk : 1 ≤ k ∧ k ≤ 4) (hn : n < 256 ^ k) : valB (numB n k) = n := by
  have : k = 1 ∨ k = 2 ∨ k = 3 ∨ k = 4 := by omega
  rcases this with rfl | rfl | rfl | rfl
  · simp [valB, numB, List.range_succ]; omega
  · simp [valB, numB, List.range_succ]; omega
  · simp [valB, numB, List.range_succ]; omega
  · simp [valB, numB, List.range_succ]; omega
theorem num_back (keep : Bool) (n k : Nat) (most : Int) (rest : List UInt8) (hk : 1 ≤ k ∧ k ≤ 4) (hn : n < 256 ^ k) (hmost : (n : Int) ≤ most) : (St.mk 0 (numB n k ++ rest)).num keep k most = ⟨0, rest⟩ ∧ (St.mk 0 (numB n k ++ rest)).nv k most = n := by
  have hl : (numB n k).length = k := numB_len
  have ht : (numB n k ++ rest).take (k : Int).toNat = numB n k := by rw [Int.toNat_natCast, List.take_append_of_le_length (by omega), List.take_of_length_le (by omega)]
  have hll : ¬ (((numB n k ++ rest).length : Nat) : Int) < k := by rw [List.length_append]; omega
  have e1 : numV 0 (numB n k ++ rest) k most = n := by unfold numV; rw [if_neg (by simp), if_neg (by omega), if_neg hll, ht, valB_numB hk hn, if_neg (by omega)]
  have e2 : numE 0 (numB n k ++ rest) k most = 0 := by unfold numE; rw [if_neg (by simp), if_neg (by omega), if_neg hll, ht, valB_numB hk hn, if_neg (by omega)]
  have e3 : numL keep 0 (numB n k ++ rest) k = rest := by unfold numL; rw [if_neg (by simp), if_neg (by omega), if_neg hll, Int.toNat_natCast, List.drop_append_of_le_length (by omega), List.drop_of_length_le (by omega), List.nil_append]
  unfold St.num St.nv
  rw [e1, e2, e3]
  exact ⟨rfl, rfl⟩
end Go.Ab.S

namespace Go.Ab.S
open Go Go.Ab Go.Proofs
attribute [local irreducible] SemS
set_option maxRecDepth 100000
theorem okNum_of {n k : Nat} (hk : 1 ≤ k ∧ k ≤ 4) (h : n < 256 ^ k) : okNum n k = true := by
  refine decide_eq_true ⟨by omega, by omega, by omega, ?_⟩
  rw [Int.toNat_natCast]
  have : ((256 ^ k : Nat) : Int) = (256 : Int) ^ k := by rw [Int.natCast_pow]; rfl
  omega
/-- Something written by a writer that is new. -/
theorem fresh_w {g : FuncId} {args : List AV} {v : AV} {bs : List UInt8} (h : EvR PR G g args ⟨wrB 0 [], []⟩ v ⟨wrB 0 bs, []⟩) (ha : args.map (AV.ren (rho [.par 0, .loc 0] 1)) = args) (hi : args.all (inA 2) = true) (hv : v.ren (rho [.par 0, .loc 0] 1) = v) :
    EvR PR G g args ⟨[.mrow [.p (.int .i64 0), .nils]], []⟩ v ⟨[.mrow [.p (.int .i64 0), .os (.loc 0) bs.length]], [.arr 1 false (bytesOf bs)]⟩ := by
  have hf : Fits ⟨[.mrow [.p (.int .i64 0), .os (.loc 0) 0]], [.arr 1 false []]⟩ [.par 0, .loc 0] (wrB 0 []) := Fits.of rfl ⟨rfl, rfl, trivial⟩ rfl
  have h1 := EvR.frame h hf hi
  refine EvR.weakL (Weak.nils (id := .par 0) (j := 1) 1 (by omega) rfl rfl) ?_
  have h2 : EvR PR G g (args.map (AV.ren (rho [.par 0, .loc 0] 1))) ⟨[.mrow [.p (.int .i64 0), .os (.loc 0) 0]], [.arr 1 false []]⟩ (v.ren (rho [.par 0, .loc 0] 1)) ⟨[.mrow [.p (.int .i64 0), .os (.loc 0) bs.length]], [.arr 1 false (bytesOf bs)]⟩ := h1
  rw [ha, hv] at h2
  exact h2
end Go.Ab.S
