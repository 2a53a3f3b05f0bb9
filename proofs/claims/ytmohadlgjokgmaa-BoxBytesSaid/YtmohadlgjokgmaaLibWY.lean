/- Part of a proof; no condition. -/
import Derived.Test.YtmohadlgjokgmaaLibWX
set_option linter.unusedSimpArgs false
set_option linter.unusedVariables false
namespace Go.Ab.S
open Go Go.Ab Go.Proofs
attribute [local irreducible] SemS
set_option maxRecDepth 100000
/-- A reader's state: the first error, and what is left. -/
structure St where
  e : Int
  b : List UInt8
def St.num (keep : Bool) (s : St) (size most : Int) : St := ⟨numE s.e s.b size most, numL keep s.e s.b size⟩
def St.txt (keep : Bool) (s : St) (most : Int) : St := ⟨txtE s.e s.b most, txtL keep s.e s.b most⟩
def St.nv (s : St) (size most : Int) : Int := numV s.e s.b size most
def St.tv (s : St) (most : Int) : List UInt8 := txtV s.e s.b most
def St.fail (s : St) (x : Int) : St := ⟨firstE s.e x, s.b⟩
def St.pr (s : St) : List Blk := rdB s.e s.b
def St.px (B : List UInt8) (s : St) : List Blk := rrX B s.e s.b
theorem pr_num (s : St) (size most : Int) (h : -9223372036854775808 ≤ most) : EvR PR G f_wire_Reader_Num [.c (.ptr (.par 0) 0), iv size, iv most] ⟨s.pr, []⟩ (iv (s.nv size most)) ⟨(s.num true size most).pr, []⟩ := r_Num_ok s.e s.b size most h
theorem pr_txt (s : St) (most : Int) : EvR PR G f_wire_Reader_Text [.c (.ptr (.par 0) 0), iv most] ⟨s.pr, []⟩ (.c (.p (.str (s.tv most)))) ⟨(s.txt true most).pr, []⟩ := r_Text_ok s.e s.b most
theorem pr_err (s : St) : EvR PR G f_wire_Reader_Err [.c (.ptr (.par 0) 0)] ⟨s.pr, []⟩ (iv s.e) ⟨s.pr, []⟩ := r_Err_ok s.e s.b
theorem pr_left (s : St) : EvR PR G f_wire_Reader_Left [.c (.ptr (.par 0) 0)] ⟨s.pr, []⟩ (iv (leftR s.e s.b)) ⟨s.pr, []⟩ := r_Left_ok s.e s.b
theorem pr_fail (s : St) (x : Int) : EvR PR G f_wire_Reader_Fail [.c (.ptr (.par 0) 0), iv x] ⟨s.pr, []⟩ (.tup []) ⟨(s.fail x).pr, []⟩ := r_Fail_ok s.e s.b x
theorem pr_new (B : List UInt8) : EvR PR G f_wire_NewReader [slv (bytesOf B)] ⟨[], []⟩ (.c (.ptr (.loc 0) 0)) ⟨[], (St.mk 0 B).pr⟩ := NewReader_ok B
theorem px_num {B : List UInt8} {s : St} (h : Suf B s.b) (hl : B.length < 2 ^ 62) (size most : Int) : EvR PR G f_R05_R_Num [.c (.ptr (.par 0) 0), iv size, iv most] ⟨s.px B, []⟩ (iv (s.nv size most)) ⟨(s.num false size most).px B, []⟩ := rx_Num_ok h hl s.e size most
theorem px_byte {B : List UInt8} {s : St} (h : Suf B s.b) (hl : B.length < 2 ^ 62) (most : Int) (hmost : 255 ≤ most) : EvR PR G f_R05_R_Byte [.c (.ptr (.par 0) 0)] ⟨s.px B, []⟩ (iv (s.nv 1 most)) ⟨(s.num false 1 most).px B, []⟩ := rx_Byte_ok h hl s.e most hmost
theorem px_txt {B : List UInt8} {s : St} (h : Suf B s.b) (hl : B.length < 2 ^ 40) (most : Int) : EvR PR G f_R05_R_Text [.c (.ptr (.par 0) 0), iv most] ⟨s.px B, []⟩ (.c (.p (.str (s.tv most)))) ⟨(s.txt false most).px B, []⟩ := rx_Text_ok h hl s.e most
theorem px_left {B : List UInt8} {s : St} (h : Suf B s.b) (hl : B.length < 2 ^ 62) : EvR PR G f_R05_R_Left [.c (.ptr (.par 0) 0)] ⟨s.px B, []⟩ (iv (leftR s.e s.b)) ⟨s.px B, []⟩ := rx_Left_ok h hl s.e
theorem Suf.num {B : List UInt8} {s : St} (h : Suf B s.b) (keep : Bool) (size most : Int) : Suf B (s.num keep size most).b := numL_sufx h keep s.e size
theorem Suf.txt {B : List UInt8} {s : St} (h : Suf B s.b) (keep : Bool) (most : Int) : Suf B (s.txt keep most).b := txtL_sufx h keep s.e most
theorem nv_range {s : St} {size most : Int} (h : 0 ≤ most) : 0 ≤ s.nv size most ∧ s.nv size most ≤ most := numV_range h
theorem nv_u16 {s : St} {size : Int} : IntKind.u16.wrap (s.nv size 65535) = (((s.nv size 65535).toNat : Nat) : Int) := by
  have := nv_range (s := s) (size := size) (most := 65535) (by omega)
  rw [Go.Ab.wrap16 (by omega)]
  omega
theorem nv_u8 {s : St} {size most : Int} (h : 0 ≤ most ∧ most ≤ 255) : IntKind.u8.wrap (s.nv size most) = (((s.nv size most).toNat : Nat) : Int) := by
  have := nv_range (s := s) (size := size) (most := most) (by omega)
  rw [wrap8 (by omega)]
  omega
/-- The program's reader and the document's, side by side. -/
structure SameS (s s' : St) : Prop where
  e : s.e = s'.e
  b : s.e = 0 → s.b = s'.b
theorem SameS.refl (s : St) : SameS s s := ⟨rfl, fun _ => rfl⟩
theorem SameS.nv {s s' : St} (h : SameS s s') (size most : Int) : s.nv size most = s'.nv size most := by
  have := (num_same h.b size most).1
  unfold St.nv
  rw [this, h.e]
theorem SameS.num {s s' : St} (h : SameS s s') (size most : Int) : SameS (s.num true size most) (s'.num false size most) := by
  obtain ⟨-, h2, h3⟩ := num_same h.b size most
  refine ⟨by show numE s.e s.b size most = numE s'.e s'.b size most; rw [h2, h.e], fun h0 => ?_⟩
  show numL true s.e s.b size = numL false s'.e s'.b size
  rw [h3 h0, h.e]
theorem SameS.tv {s s' : St} (h : SameS s s') (most : Int) : s.tv most = s'.tv most := by
  have := (txt_same h.b most).1
  unfold St.tv
  rw [this, h.e]
theorem SameS.txt {s s' : St} (h : SameS s s') (most : Int) : SameS (s.txt true most) (s'.txt false most) := by
  obtain ⟨-, h2, h3⟩ := txt_same h.b most
  refine ⟨by show txtE s.e s.b most = txtE s'.e s'.b most; rw [h2, h.e], fun h0 => ?_⟩
  show txtL true s.e s.b most = txtL false s'.e s'.b most
  rw [h3 h0, h.e]
theorem SameS.fail {s s' : St} (h : SameS s s') (x : Int) : SameS (s.fail x) (s'.fail x) := by
  refine ⟨by show firstE s.e x = firstE s'.e x; rw [h.e], fun h0 => h.b ?_⟩
  have h0 : firstE s.e x = 0 := h0
  unfold firstE at h0
  split at h0
  · assumption
  · exact h0
theorem SameS.left {s s' : St} (h : SameS s s') : leftR s.e s.b = leftR s'.e s'.b := by rw [left_same h.b, h.e]
/-- Once there is an error nothing is read. -/
theorem num_err {s : St} (h : s.e ≠ 0) (keep : Bool) (size most : Int) : s.num keep size most = s ∧ s.nv size most = 0 := by
  unfold St.num St.nv numE numL numV
  rw [if_pos h, if_pos h, if_pos h]
  exact ⟨rfl, rfl⟩
theorem txt_err {s : St} (h : s.e ≠ 0) (keep : Bool) (most : Int) : s.txt keep most = s ∧ s.tv most = [] := by
  unfold St.txt St.tv txtE txtL txtV
  rw [if_pos h, if_pos h, if_pos h]
  exact ⟨rfl, rfl⟩
/-! ### What was written is read -/
theorem valB_numB {n k : Nat} (hk : 1 ≤ k ∧ k ≤ 4) (hn : n < 256 ^ k) : valB (numB n k) = n := by
  have : k = 1 ∨ k = 2 ∨ k = 3 ∨ k = 4 := by omega
  rcases this with rfl | rfl | rfl | rfl
  · simp [valB, numB, List.range_succ]; omega
  · simp [valB, numB, List.range_succ]; omega
  · simp [valB, numB, List.range_succ]; omega
  · simp [valB, numB, List.range_succ]; omega
theorem num_back (keep : Bool) (n k : Nat) (most : Int) (rest : List UInt8) (hk : 1 ≤ k ∧ k ≤ 4) (hn : n < 256 ^ k) (hmost : (n : Int) ≤ most) : (St.mk 0 (numB n k ++ rest)).num keep k most = ⟨0, rest⟩ ∧ (St.mk 0 (numB n k ++ rest)).nv k most = n := by
  have hl : (numB n k).length = k := numB_len
  have ht : (numB n k ++ rest).take (k : Int).toNat = numB n k := by rw [Int.toNat_natCast, List.take_append_of_le_length (by omega), List.take_of_length_le (by omega)]
  have hll : ¬ (((numB n k ++ rest).length : Nat) : Int) < k := by rw [List.length_append]; omega
  have e1 : numV 0 (numB n k ++ rest) k most = n := by unfold numV; rw [if_neg (by simp), if_neg (by omega), if_neg hll, ht, valB_numB hk hn, if_neg (by omega)]
  have e2 : numE 0 (numB n k ++ rest) k most = 0 := by unfold numE; rw [if_neg (by simp), if_neg (by omega), if_neg hll, ht, valB_numB hk hn, if_neg (by omega)]
  have e3 : numL keep 0 (numB n k ++ rest) k = rest := by unfold numL; rw [if_neg (by simp), if_neg (by omega), if_neg hll, Int.toNat_natCast, List.drop_append_of_le_length (by omega), List.drop_of_length_le (by omega), List.nil_append]
  unfold St.num St.nv
  rw [e1, e2, e3]
  exact ⟨rfl, rfl⟩
theorem txt_back (keep : Bool) (t rest : List UInt8) (most : Int) (h : t.length ≤ 255) (hmost : (t.length : Int) ≤ most) : (St.mk 0 (textB t ++ rest)).txt keep most = ⟨0, rest⟩ ∧ (St.mk 0 (textB t ++ rest)).tv most = t := by
  have hc : (UInt8.ofNat t.length).toNat = t.length := by simp; omega
  have e1 : txtV 0 (textB t ++ rest) most = t := by
    show (if most < (UInt8.ofNat t.length).toNat then [] else if (t ++ rest).length < (UInt8.ofNat t.length).toNat then [] else (t ++ rest).take (UInt8.ofNat t.length).toNat) = t
    rw [hc, if_neg (by omega), if_neg (by simp)]; simp
  have e2 : txtE 0 (textB t ++ rest) most = 0 := by
    show (if most < (UInt8.ofNat t.length).toNat then (5 : Int) else if (t ++ rest).length < (UInt8.ofNat t.length).toNat then 4 else 0) = 0
    rw [hc, if_neg (by omega), if_neg (by simp)]
  have e3 : txtL keep 0 (textB t ++ rest) most = rest := by
    show (if most < (UInt8.ofNat t.length).toNat then (t ++ rest) else if (t ++ rest).length < (UInt8.ofNat t.length).toNat then (if keep then (t ++ rest) else []) else (t ++ rest).drop (UInt8.ofNat t.length).toNat) = rest
    rw [hc, if_neg (by omega), if_neg (by simp)]; simp
  unfold St.txt St.tv
  rw [e1, e2, e3]
  exact ⟨rfl, rfl⟩
end Go.Ab.S
