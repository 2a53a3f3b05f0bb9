/- Part of a proof; no condition. -/
import Derived.Test.YtmohadlgjokgmaaLW2
set_option linter.unusedSimpArgs false
set_option linter.unusedVariables false
namespace Go.Ab.S
open Go Go.Ab Go.Proofs
attribute [local irreducible] SemS
set_option maxRecDepth 100000
/-- The number that bytes are. -/
def valB (l : List UInt8) : Nat := l.foldl (fun n c => n * 256 + c.toNat) 0
theorem valB_succ {l : List UInt8} {i : Nat} (h : i < l.length) : valB (l.take (i + 1)) = valB (l.take i) * 256 + l[i].toNat := by
  rw [List.take_succ_eq_append_getElem h, valB, List.foldl_append]; rfl
theorem valB_lt : ∀ (l : List UInt8), valB l < 256 ^ l.length := by
  intro l
  have : ∀ (l : List UInt8) (n k : Nat), n < 256 ^ k → l.foldl (fun n c => n * 256 + c.toNat) n < 256 ^ (k + l.length) := by
    intro l
    induction l with
    | nil => intro n k h; simpa using h
    | cons c l ih =>
      intro n k h
      have hc := c.toNat_lt
      have := ih (n * 256 + c.toNat) (k + 1) (by rw [Nat.pow_succ]; omega)
      rw [List.foldl_cons, List.length_cons, show k + (l.length + 1) = k + 1 + l.length by omega]; exact this
  have := this l 0 0 (by simp)
  rw [Nat.zero_add] at this; exact this
theorem or_byte (n c : Nat) (hn : n < 2 ^ 40) (hc : c < 256) : IntKind.i64.wrap ((BitVec.ofInt IntKind.i64.bits (IntKind.i64.wrap ((n : Int) * 2 ^ (min (8 : Int).toNat IntKind.i64.bits))) ||| BitVec.ofInt IntKind.i64.bits (IntKind.i64.wrap (c : Int))).toNat) = ((n * 256 + c : Nat) : Int) := by
  have e1 : IntKind.i64.wrap ((n : Int) * 2 ^ (min (8 : Int).toNat IntKind.i64.bits)) = ((n * 256 : Nat) : Int) := by
    rw [show (2 : Int) ^ (min (8 : Int).toNat IntKind.i64.bits) = 256 from rfl, wrap64 (by omega)]; omega
  have e2 : IntKind.i64.wrap (c : Int) = (c : Int) := wrap64 (by omega)
  rw [e1, e2]
  have e3 : (BitVec.ofInt IntKind.i64.bits ((n * 256 : Nat) : Int) ||| BitVec.ofInt IntKind.i64.bits (c : Int)).toNat = n * 256 + c := by
    rw [BitVec.toNat_or, BitVec.ofInt_natCast, BitVec.ofInt_natCast, BitVec.toNat_ofNat, BitVec.toNat_ofNat, show IntKind.i64.bits = 64 from rfl, Nat.mod_eq_of_lt (by omega), Nat.mod_eq_of_lt (by omega)]
    have := Nat.shiftLeft_add_eq_or_of_lt (i := 8) (b := c) (by omega) n
    rw [Nat.shiftLeft_eq] at this
    exact this.symm
  rw [e3, wrap64 (by omega)]
/-- A reader's block: the first error, and what is left. -/
def rdB (e : Int) (bs : List UInt8) : List Blk := [.row [.int .i64 e, .sl (bytesOf bs)]]
theorem bytesOf_get {l : List UInt8} {i : Nat} (h : i < l.length) : (bytesOf l)[i]? = some [.int .u8 l[i].toNat] := by
  rw [bytesOf, List.getElem?_map, List.getElem?_eq_getElem h]; rfl
theorem bytesOf_take (l : List UInt8) (n : Nat) : (bytesOf l).take n = bytesOf (l.take n) := by simp [bytesOf, List.map_take]
theorem bytesOf_drop (l : List UInt8) (n : Nat) : (bytesOf l).drop n = bytesOf (l.drop n) := by simp [bytesOf, List.map_drop]
theorem r_fail_ok (e : Int) (bs : List UInt8) (x : Int) : EvR PR G f_wire_fault_fail [.c (.ptr (.par 0) 0), iv x] ⟨rdB e bs, []⟩ (.tup []) ⟨rdB (firstE e x) bs, []⟩ := by
  refine EvR.of_wpf false false hm c_wire_fault_fail rfl ?_
  conv => whnf
  by_cases h : e = 0
  · have hf : firstE e x = x := by unfold firstE; rw [if_pos h]
    rw [hf]
    repeat' ((first | refine brP_t (by assumption) ?_ | refine brP_f (by assumption) ?_ | refine brP_t (decide_eq_true (by omega)) ?_ | refine brP_f (decide_eq_false (by omega)) ?_ | refine brP_t (nd_t (by omega)) ?_ | refine brP_f (nd_f (by omega)) ?_ | refine wpfS_go ?_ | refine brP_mk (fun h => ?_) (fun h => ?_) | fail) <;> conv => whnf)
    exact ⟨rfl, rfl⟩
  · have hf : firstE e x = e := by unfold firstE; rw [if_neg h]
    rw [hf]
    repeat' ((first | refine brP_t (by assumption) ?_ | refine brP_f (by assumption) ?_ | refine brP_t (decide_eq_true (by omega)) ?_ | refine brP_f (decide_eq_false (by omega)) ?_ | refine brP_t (nd_t (by omega)) ?_ | refine brP_f (nd_f (by omega)) ?_ | refine wpfS_go ?_ | refine brP_mk (fun h => ?_) (fun h => ?_) | fail) <;> conv => whnf)
    exact ⟨rfl, rfl⟩
theorem r_Fail_ok (e : Int) (bs : List UInt8) (x : Int) : EvR PR G f_wire_Reader_Fail [.c (.ptr (.par 0) 0), iv x] ⟨rdB e bs, []⟩ (.tup []) ⟨rdB (firstE e x) bs, []⟩ := by
  have hf := r_fail_ok e bs x
  refine EvR.of_wpf false false hm c_wire_Reader_Fail rfl ?_
  conv => whnf
  repeat' ((first | refine brP_t (by assumption) ?_ | refine brP_f (by assumption) ?_ | refine brP_t (decide_eq_true (by omega)) ?_ | refine brP_f (decide_eq_false (by omega)) ?_ | refine brP_t (nd_t (by omega)) ?_ | refine brP_f (nd_f (by omega)) ?_ | refine callK_r (EvR.fr [_] hf rfl rfl ⟨rfl, trivial⟩ rfl) ?_ | refine callM_l (LEv.fr [_] hf rfl rfl ⟨rfl, trivial⟩ rfl rfl) ?_ | refine callK_rt (EvR.fr [_] hf rfl rfl ⟨rfl, trivial⟩ rfl) ?_ | refine callK_rf rfl (EvR.fr [_] hf rfl rfl ⟨rfl, trivial⟩ rfl) ?_ | refine callK_rft rfl (EvR.fr [_] hf rfl rfl ⟨rfl, trivial⟩ rfl) ?_ | refine wpfS_go ?_ | refine brP_mk (fun h => ?_) (fun h => ?_) | fail) <;> conv => whnf)
  exact ⟨rfl, rfl⟩
theorem r_Err_ok (e : Int) (bs : List UInt8) : EvR PR G f_wire_Reader_Err [.c (.ptr (.par 0) 0)] ⟨rdB e bs, []⟩ (iv e) ⟨rdB e bs, []⟩ := by
  refine EvR.of_wpf false false hm c_wire_Reader_Err rfl ?_
  conv => whnf
  repeat' ((first | refine brP_t (by assumption) ?_ | refine brP_f (by assumption) ?_ | refine brP_t (decide_eq_true (by omega)) ?_ | refine brP_f (decide_eq_false (by omega)) ?_ | refine brP_t (nd_t (by omega)) ?_ | refine brP_f (nd_f (by omega)) ?_ | refine wpfS_go ?_ | refine brP_mk (fun h => ?_) (fun h => ?_) | fail) <;> conv => whnf)
  exact ⟨rfl, rfl⟩
def leftR (e : Int) (bs : List UInt8) : Int := if e = 0 then bs.length else 0
theorem r_Left_ok (e : Int) (bs : List UInt8) : EvR PR G f_wire_Reader_Left [.c (.ptr (.par 0) 0)] ⟨rdB e bs, []⟩ (iv (leftR e bs)) ⟨rdB e bs, []⟩ := by
  have hl := bytesOf_len bs
  refine EvR.of_wpf false false hm c_wire_Reader_Left rfl ?_
  conv => whnf
  by_cases h : e = 0
  · have hf : leftR e bs = bs.length := by unfold leftR; rw [if_pos h]
    rw [hf]
    repeat' ((first | refine brP_t (by assumption) ?_ | refine brP_f (by assumption) ?_ | refine brP_t (decide_eq_true (by omega)) ?_ | refine brP_f (decide_eq_false (by omega)) ?_ | refine brP_t (nd_t (by omega)) ?_ | refine brP_f (nd_f (by omega)) ?_ | refine wpfS_go ?_ | refine brP_mk (fun h => ?_) (fun h => ?_) | fail) <;> conv => whnf)
    refine ⟨?_, rfl⟩
    show iv ((bytesOf bs).length : Nat) = _
    rw [hl]
  · have hf : leftR e bs = 0 := by unfold leftR; rw [if_neg h]
    rw [hf]
    repeat' ((first | refine brP_t (by assumption) ?_ | refine brP_f (by assumption) ?_ | refine brP_t (decide_eq_true (by omega)) ?_ | refine brP_f (decide_eq_false (by omega)) ?_ | refine brP_t (nd_t (by omega)) ?_ | refine brP_f (nd_f (by omega)) ?_ | refine wpfS_go ?_ | refine brP_mk (fun h => ?_) (fun h => ?_) | fail) <;> conv => whnf)
    exact ⟨rfl, rfl⟩
theorem NewReader_ok (bs : List UInt8) : EvR PR G f_wire_NewReader [slv (bytesOf bs)] ⟨[], []⟩ (.c (.ptr (.loc 0) 0)) ⟨[], rdB 0 bs⟩ := by
  refine EvR.of_wpf false false hm c_wire_NewReader rfl ?_
  conv => whnf
  repeat' ((first | refine brP_t (by assumption) ?_ | refine brP_f (by assumption) ?_ | refine brP_t (decide_eq_true (by omega)) ?_ | refine brP_f (decide_eq_false (by omega)) ?_ | refine brP_t (nd_t (by omega)) ?_ | refine brP_f (nd_f (by omega)) ?_ | refine wpfS_go ?_ | refine brP_mk (fun h => ?_) (fun h => ?_) | fail) <;> conv => whnf)
  exact ⟨rfl, rfl⟩
theorem r_take_bad (e : Int) (bs : List UInt8) (n : Nat) (h : bs.length < n) : EvR PR G f_wire_Reader_take [.c (.ptr (.par 0) 0), iv n] ⟨rdB e bs, []⟩ (slv []) ⟨rdB (firstE e 4) bs, []⟩ := by
  have hf := r_Fail_ok e bs 4
  have hl := bytesOf_len bs
  have h4 : firstE e 4 ≠ 0 := by unfold firstE; split <;> omega
  generalize firstE e 4 = e' at *
  refine EvR.of_wpf false true hm c_wire_Reader_take rfl ?_
  conv => whnf
  repeat' ((first | refine brP_t (by assumption) ?_ | refine brP_f (by assumption) ?_ | refine brP_t (decide_eq_true (by omega)) ?_ | refine brP_f (decide_eq_false (by omega)) ?_ | refine brP_t (nd_t (by omega)) ?_ | refine brP_f (nd_f (by omega)) ?_ | refine callK_r (EvR.fr [_] hf rfl rfl ⟨rfl, trivial⟩ rfl) ?_ | refine callM_l (LEv.fr [_] hf rfl rfl ⟨rfl, trivial⟩ rfl rfl) ?_ | refine callK_rt (EvR.fr [_] hf rfl rfl ⟨rfl, trivial⟩ rfl) ?_ | refine callK_rf rfl (EvR.fr [_] hf rfl rfl ⟨rfl, trivial⟩ rfl) ?_ | refine callK_rft rfl (EvR.fr [_] hf rfl rfl ⟨rfl, trivial⟩ rfl) ?_ | refine wpfS_go ?_ | refine brP_mk (fun h => ?_) (fun h => ?_) | fail) <;> conv => whnf)
  exact ⟨rfl, rfl⟩
theorem r_take_not (e : Int) (bs : List UInt8) (n : Nat) (h : ¬ bs.length < n) (he : e ≠ 0) : EvR PR G f_wire_Reader_take [.c (.ptr (.par 0) 0), iv n] ⟨rdB e bs, []⟩ (slv []) ⟨rdB e bs, []⟩ := by
  have hl := bytesOf_len bs
  refine EvR.of_wpf false true hm c_wire_Reader_take rfl ?_
  conv => whnf
  repeat' ((first | refine brP_t (by assumption) ?_ | refine brP_f (by assumption) ?_ | refine brP_t (decide_eq_true (by omega)) ?_ | refine brP_f (decide_eq_false (by omega)) ?_ | refine brP_t (nd_t (by omega)) ?_ | refine brP_f (nd_f (by omega)) ?_ | refine wpfS_go ?_ | refine brP_mk (fun h => ?_) (fun h => ?_) | fail) <;> conv => whnf)
  exact ⟨rfl, rfl⟩
theorem r_take_ok (bs : List UInt8) (n : Nat) (h : n ≤ bs.length) : EvR PR G f_wire_Reader_take [.c (.ptr (.par 0) 0), iv n] ⟨rdB 0 bs, []⟩ (slv (bytesOf (bs.take n))) ⟨rdB 0 (bs.drop n), []⟩ := by
  have hl := bytesOf_len bs
  have hall := bytesOf_all bs
  refine EvR.of_wpf false true hm c_wire_Reader_take rfl ?_
  conv => whnf
  repeat' ((first | refine brP_t (by assumption) ?_ | refine brP_f (by assumption) ?_ | refine brP_t (decide_eq_true (by omega)) ?_ | refine brP_f (decide_eq_false (by omega)) ?_ | refine brP_t (nd_t (by omega)) ?_ | refine brP_f (nd_f (by omega)) ?_ | (refine gd_mk ?_ ?_; focus (simp [hl, hall]; omega; done)) | refine wpfS_go ?_ | refine brP_mk (fun h => ?_) (fun h => ?_) | fail) <;> conv => whnf)
  refine ⟨?_, ?_⟩
  · show slv (List.drop 0 (List.take (n : Int).toNat (bytesOf bs))) = _
    rw [List.drop_zero, Int.toNat_natCast, bytesOf_take]
  · show (⟨[.row [.int .i64 0, .sl (List.drop (n : Int).toNat (List.take (bytesOf bs).length (bytesOf bs)))]], []⟩ : Hp) = _
    rw [List.take_length, Int.toNat_natCast, bytesOf_drop]; rfl
end Go.Ab.S
