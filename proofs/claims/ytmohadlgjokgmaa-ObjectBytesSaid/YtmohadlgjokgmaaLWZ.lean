/- Part of a proof; no condition. Part of a proof; no condition. Part of a proof; no condition. -/
import Derived.Test.YtmohadlgjokgmaaLW9
set_option linter.unusedSimpArgs false
set_option linter.unusedVariables false
namespace Go.Ab.S
open Go Go.Ab Go.Proofs
attribute [local irreducible] SemS
set_option maxRecDepth 100000
/-- The document's reader, by all bytes and those that are left. -/
def rrX (B : List UInt8) (e : Int) (b : List UInt8) : List Blk := [.row [.sl (bytesOf B), .int .i64 ((B.length - b.length : Nat) : Int), .int .i64 e]]
def Suf (B b : List UInt8) : Prop := ∃ p, p ++ b = B
theorem Suf.refl (B : List UInt8) : Suf B B := ⟨[], rfl⟩
theorem Suf.drop {B b : List UInt8} (h : Suf B b) (n : Nat) : Suf B (b.drop n) := by
  obtain ⟨p, rfl⟩ := h
  exact ⟨p ++ b.take n, by rw [List.append_assoc, List.take_append_drop]⟩
theorem Suf.nil {B b : List UInt8} (h : Suf B b) : Suf B [] := by
  have := h.drop b.length
  rwa [List.drop_length] at this
theorem rrX_eq (e : Int) (p b : List UInt8) : rrX (p ++ b) e b = rrB e p b := by
  unfold rrX rrB
  rw [List.length_append, Nat.add_sub_cancel]
theorem numL_sufx {B b : List UInt8} (h : Suf B b) (keep : Bool) (e size : Int) : Suf B (numL keep e b size) := by
  unfold numL
  split
  · exact h
  · split
    · exact h
    · split
      · split
        · exact h
        · exact h.nil
      · exact h.drop _
theorem txtL_sufx {B b : List UInt8} (h : Suf B b) (keep : Bool) (e most : Int) : Suf B (txtL keep e b most) := by
  unfold txtL
  split
  · exact h
  · cases b with
    | nil => exact h
    | cons c r =>
      have hr : Suf B r := h.drop 1
      show Suf B (if most < c.toNat then r else if r.length < c.toNat then (if keep then r else []) else r.drop c.toNat)
      split
      · exact hr
      · split
        · split
          · exact hr
          · exact hr.nil
        · exact hr.drop _
theorem suf_take {b b' : List UInt8} (h : Suf b b') : b.take (b.length - b'.length) ++ b' = b := by
  obtain ⟨p, rfl⟩ := h
  rw [List.length_append, Nat.add_sub_cancel, List.take_left]
theorem rx_Num_ok {B b : List UInt8} (h : Suf B b) (hl : B.length < 2 ^ 62) (e size most : Int) : EvR PR G f_R05_R_Num [.c (.ptr (.par 0) 0), iv size, iv most] ⟨rrX B e b, []⟩ (iv (numV e b size most)) ⟨rrX B (numE e b size most) (numL false e b size), []⟩ := by
  obtain ⟨p, rfl⟩ := h
  have h1 := rr_Num_ok e p b hl size most
  have h2 := suf_take (numL_sufx (Suf.refl b) false e size)
  have h3 : p ++ b = (p ++ b.take (b.length - (numL false e b size).length)) ++ numL false e b size := by rw [List.append_assoc, h2]
  rw [← rrX_eq, ← rrX_eq, ← h3] at h1
  exact h1
theorem rx_Text_ok {B b : List UInt8} (h : Suf B b) (hl : B.length < 2 ^ 40) (e most : Int) : EvR PR G f_R05_R_Text [.c (.ptr (.par 0) 0), iv most] ⟨rrX B e b, []⟩ (.c (.p (.str (txtV e b most)))) ⟨rrX B (txtE e b most) (txtL false e b most), []⟩ := by
  obtain ⟨p, rfl⟩ := h
  have h1 := rr_Text_ok e p b hl most
  have h2 := suf_take (txtL_sufx (Suf.refl b) false e most)
  have h3 : p ++ b = (p ++ b.take (b.length - (txtL false e b most).length)) ++ txtL false e b most := by rw [List.append_assoc, h2]
  rw [← rrX_eq, ← rrX_eq, ← h3] at h1
  exact h1
theorem rx_Left_ok {B b : List UInt8} (h : Suf B b) (hl : B.length < 2 ^ 62) (e : Int) : EvR PR G f_R05_R_Left [.c (.ptr (.par 0) 0)] ⟨rrX B e b, []⟩ (iv (leftR e b)) ⟨rrX B e b, []⟩ := by
  obtain ⟨p, rfl⟩ := h
  have h1 := rr_Left_ok e p b hl
  rw [← rrX_eq] at h1
  exact h1
/-- A byte is a number of one byte. -/
theorem rx_Byte_ok {B b : List UInt8} (h : Suf B b) (hl : B.length < 2 ^ 62) (e most : Int) (hmost : 255 ≤ most) : EvR PR G f_R05_R_Byte [.c (.ptr (.par 0) 0)] ⟨rrX B e b, []⟩ (iv (numV e b 1 most)) ⟨rrX B (numE e b 1 most) (numL false e b 1), []⟩ := by
  obtain ⟨p, rfl⟩ := h
  by_cases he : e = 0
  · subst he
    cases b with
    | nil =>
      have h1 := rr_Byte_end p
      have e1 : numV 0 [] 1 most = 0 := rfl
      have e2 : numE 0 [] 1 most = 4 := rfl
      have e3 : numL false 0 [] 1 = [] := rfl
      rw [← rrX_eq, ← rrX_eq] at h1
      rw [e1, e2, e3]
      exact h1
    | cons c r =>
      have hc := c.toNat_lt
      have hv : valB (List.take (1 : Int).toNat (c :: r)) = c.toNat := by simp [valB]
      have f1 : numV 0 (c :: r) 1 most = c.toNat := by unfold numV; rw [if_neg (by simp), if_neg (by omega), if_neg (by simp; omega), hv, if_neg (by omega)]
      have f2 : numE 0 (c :: r) 1 most = 0 := by unfold numE; rw [if_neg (by simp), if_neg (by omega), if_neg (by simp; omega), hv, if_neg (by omega)]
      have f3 : numL false 0 (c :: r) 1 = r := by unfold numL; rw [if_neg (by simp), if_neg (by omega), if_neg (by simp; omega)]; rfl
      have h1 := rr_Byte_ok p c r hl
      rw [f1, f2, f3]
      rw [← rrX_eq, ← rrX_eq, show p ++ [c] ++ r = p ++ c :: r by simp] at h1
      exact h1
  · have h1 := rr_Byte_bad e p b he
    have f1 : numV e b 1 most = 0 := by unfold numV; rw [if_pos he]
    have f2 : numE e b 1 most = e := by unfold numE; rw [if_pos he]
    have f3 : numL false e b 1 = b := by unfold numL; rw [if_pos he]
    rw [f1, f2, f3]
    rw [← rrX_eq] at h1
    exact h1
/-! ### The numbers that are read -/
theorem numV_range {e : Int} {b : List UInt8} {size most : Int} (h : 0 ≤ most) : 0 ≤ numV e b size most ∧ numV e b size most ≤ most := by
  unfold numV
  repeat' split
  all_goals omega
theorem num_same {e : Int} {b b' : List UInt8} (h : e = 0 → b = b') (size most : Int) : numV e b size most = numV e b' size most ∧ numE e b size most = numE e b' size most ∧ (numE e b size most = 0 → numL true e b size = numL false e b' size) := by
  by_cases he : e = 0
  · subst he
    obtain rfl := h rfl
    refine ⟨rfl, rfl, fun h0 => ?_⟩
    unfold numE at h0
    unfold numL
    split
    · rfl
    · rename_i h1
      rw [if_neg h1] at h0
      split
      · rfl
      · rename_i h2
        rw [if_neg h2] at h0
        split
        · rename_i h3; rw [if_pos h3] at h0; omega
        · rfl
  · unfold numV numE
    simp only [if_pos (show e ≠ 0 from he)]
    exact ⟨trivial, trivial, fun h => absurd h he⟩
theorem txt_same {e : Int} {b b' : List UInt8} (h : e = 0 → b = b') (most : Int) : txtV e b most = txtV e b' most ∧ txtE e b most = txtE e b' most ∧ (txtE e b most = 0 → txtL true e b most = txtL false e b' most) := by
  by_cases he : e = 0
  · subst he
    obtain rfl := h rfl
    refine ⟨rfl, rfl, fun h0 => ?_⟩
    cases b with
    | nil => rfl
    | cons c r =>
      have h0 : (if most < c.toNat then (5 : Int) else if r.length < c.toNat then 4 else 0) = 0 := h0
      show (if most < c.toNat then r else if r.length < c.toNat then r else r.drop c.toNat) = (if most < c.toNat then r else if r.length < c.toNat then [] else r.drop c.toNat)
      split
      · rfl
      · rename_i h1
        rw [if_neg h1] at h0
        split
        · rename_i h2; rw [if_pos h2] at h0; omega
        · rfl
  · unfold txtV txtE
    simp only [if_pos (show e ≠ 0 from he)]
    exact ⟨trivial, trivial, fun h => absurd h he⟩
theorem left_same {e : Int} {b b' : List UInt8} (h : e = 0 → b = b') : leftR e b = leftR e b' := by
  unfold leftR
  split
  · rename_i he; rw [h he]
  · rfl
end Go.Ab.S

namespace Go.Ab.S
open Go Go.Ab Go.Proofs
attribute [local irreducible] SemS
set_option maxRecDepth 100000
/-- A reader's state: the first error, and what is left. -/
structure St where
  e : Int
  b : List UInt8
def St.num (keep : Bool) (s : St) (size most : Int) : St := ⟨numE s.e s.b size most, numL keep s.e s.b size⟩
def St.txt (keep : Bool) (s : St) (most : Int) : St := ⟨txtE s.e s.b most, txtL keep s.e s.b most⟩
def St.nv (s : St) (size most : Int) : Int := numV s.e s.b size most
def St.tv (s : St) (most : Int) : List UInt8 := txtV s.e s.b most
def St.fail (s : St) (x : Int) : St := ⟨firstE s.e x, s.b⟩
def St.pr (s : St) : List Blk := rdB s.e s.b
def St.px (B : List UInt8) (s : St) : List Blk := rrX B s.e s.b
theorem pr_num (s : St) (size most : Int) (h : -9223372036854775808 ≤ most) : EvR PR G f_wire_Reader_Num [.c (.ptr (.par 0) 0), iv size, iv most] ⟨s.pr, []⟩ (iv (s.nv size most)) ⟨(s.num true size most).pr, []⟩ := r_Num_ok s.e s.b size most h
theorem pr_txt (s : St) (most : Int) : EvR PR G f_wire_Reader_Text [.c (.ptr (.par 0) 0), iv most] ⟨s.pr, []⟩ (.c (.p (.str (s.tv most)))) ⟨(s.txt true most).pr, []⟩ := r_Text_ok s.e s.b most
theorem pr_err (s : St) : EvR PR G f_wire_Reader_Err [.c (.ptr (.par 0) 0)] ⟨s.pr, []⟩ (iv s.e) ⟨s.pr, []⟩ := r_Err_ok s.e s.b
theorem pr_left (s : St) : EvR PR G f_wire_Reader_Left [.c (.ptr (.par 0) 0)] ⟨s.pr, []⟩ (iv (leftR s.e s.b)) ⟨s.pr, []⟩ := r_Left_ok s.e s.b
theorem pr_fail (s : St) (x : Int) : EvR PR G f_wire_Reader_Fail [.c (.ptr (.par 0) 0), iv x] ⟨s.pr, []⟩ (.tup []) ⟨(s.fail x).pr, []⟩ := r_Fail_ok s.e s.b x
theorem px_num {B : List UInt8} {s : St} (h : Suf B s.b) (hl : B.length < 2 ^ 62) (size most : Int) : EvR PR G f_R05_R_Num [.c (.ptr (.par 0) 0), iv size, iv most] ⟨s.px B, []⟩ (iv (s.nv size most)) ⟨(s.num false size most).px B, []⟩ := rx_Num_ok h hl s.e size most
theorem px_byte {B : List UInt8} {s : St} (h : Suf B s.b) (hl : B.length < 2 ^ 62) (most : Int) (hmost : 255 ≤ most) : EvR PR G f_R05_R_Byte [.c (.ptr (.par 0) 0)] ⟨s.px B, []⟩ (iv (s.nv 1 most)) ⟨(s.num false 1 most).px B, []⟩ := rx_Byte_ok h hl s.e most hmost
theorem px_txt {B : List UInt8} {s : St} (h : Suf B s.b) (hl : B.length < 2 ^ 40) (most : Int) : EvR PR G f_R05_R_Text [.c (.ptr (.par 0) 0), iv most] ⟨s.px B, []⟩ (.c (.p (.str (s.tv most)))) ⟨(s.txt false most).px B, []⟩ := rx_Text_ok h hl s.e most
theorem px_left {B : List UInt8} {s : St} (h : Suf B s.b) (hl : B.length < 2 ^ 62) : EvR PR G f_R05_R_Left [.c (.ptr (.par 0) 0)] ⟨s.px B, []⟩ (iv (leftR s.e s.b)) ⟨s.px B, []⟩ := rx_Left_ok h hl s.e
theorem Suf.num {B : List UInt8} {s : St} (h : Suf B s.b) (keep : Bool) (size most : Int) : Suf B (s.num keep size most).b := numL_sufx h keep s.e size
theorem Suf.txt {B : List UInt8} {s : St} (h : Suf B s.b) (keep : Bool) (most : Int) : Suf B (s.txt keep most).b := txtL_sufx h keep s.e most
theorem nv_range {s : St} {size most : Int} (h : 0 ≤ most) : 0 ≤ s.nv size most ∧ s.nv size most ≤ most := numV_range h
theorem nv_u16 {s : St} {size : Int} : IntKind.u16.wrap (s.nv size 65535) = (((s.nv size 65535).toNat : Nat) : Int) := by
  have := nv_range (s := s) (size := size) (most := 65535) (by omega)
  rw [Go.Ab.wrap16 (by omega)]
  omega
/-- The program's reader and the document's, side by side. -/
structure SameS (s s' : St) : Prop where
  e : s.e = s'.e
  b : s.e = 0 → s.b = s'.b
theorem SameS.refl (s : St) : SameS s s := ⟨rfl, fun _ => rfl⟩
theorem SameS.nv {s s' : St} (h : SameS s s') (size most : Int) : s.nv size most = s'.nv size most := by
  have := (num_same h.b size most).1
  unfold St.nv
  rw [this, h.e]
theorem SameS.num {s s' : St} (h : SameS s s') (size most : Int) : SameS (s.num true size most) (s'.num false size most) := by
  obtain ⟨-, h2, h3⟩ := num_same h.b size most
  refine ⟨by show numE s.e s.b size most = numE s'.e s'.b size most; rw [h2, h.e], fun h0 => ?_⟩
  show numL true s.e s.b size = numL false s'.e s'.b size
  rw [h3 h0, h.e]
theorem SameS.tv {s s' : St} (h : SameS s s') (most : Int) : s.tv most = s'.tv most := by
  have := (txt_same h.b most).1
  unfold St.tv
  rw [this, h.e]
theorem SameS.txt {s s' : St} (h : SameS s s') (most : Int) : SameS (s.txt true most) (s'.txt false most) := by
  obtain ⟨-, h2, h3⟩ := txt_same h.b most
  refine ⟨by show txtE s.e s.b most = txtE s'.e s'.b most; rw [h2, h.e], fun h0 => ?_⟩
  show txtL true s.e s.b most = txtL false s'.e s'.b most
  rw [h3 h0, h.e]
theorem SameS.fail {s s' : St} (h : SameS s s') (x : Int) : SameS (s.fail x) (s'.fail x) := by
  refine ⟨by show firstE s.e x = firstE s'.e x; rw [h.e], fun h0 => h.b ?_⟩
  have h0 : firstE s.e x = 0 := h0
  unfold firstE at h0
  split at h0
  · assumption
  · exact h0
theorem SameS.left {s s' : St} (h : SameS s s') : leftR s.e s.b = leftR s'.e s'.b := by rw [left_same h.b, h.e]
/-! ### What was written is read -/
theorem valB_numB {n k : Nat} (hk : 1 ≤ k ∧ k ≤ 4) (hn : n < 256 ^ k) : valB (numB n k) = n := by
  have : k = 1 ∨ k = 2 ∨ k = 3 ∨ k = 4 := by omega
  rcases this with rfl | rfl | rfl | rfl
  · simp [valB, numB, List.range_succ]; omega
  · simp [valB, numB, List.range_succ]; omega
  · simp [valB, numB, List.range_succ]; omega
  · simp [valB, numB, List.range_succ]; omega
theorem num_back (keep : Bool) (n k : Nat) (most : Int) (rest : List UInt8) (hk : 1 ≤ k ∧ k ≤ 4) (hn : n < 256 ^ k) (hmost : (n : Int) ≤ most) : (St.mk 0 (numB n k ++ rest)).num keep k most = ⟨0, rest⟩ ∧ (St.mk 0 (numB n k ++ rest)).nv k most = n := by
  have hl : (numB n k).length = k := numB_len
  have ht : (numB n k ++ rest).take (k : Int).toNat = numB n k := by rw [Int.toNat_natCast, List.take_append_of_le_length (by omega), List.take_of_length_le (by omega)]
  have hll : ¬ (((numB n k ++ rest).length : Nat) : Int) < k := by rw [List.length_append]; omega
  have e1 : numV 0 (numB n k ++ rest) k most = n := by unfold numV; rw [if_neg (by simp), if_neg (by omega), if_neg hll, ht, valB_numB hk hn, if_neg (by omega)]
  have e2 : numE 0 (numB n k ++ rest) k most = 0 := by unfold numE; rw [if_neg (by simp), if_neg (by omega), if_neg hll, ht, valB_numB hk hn, if_neg (by omega)]
  have e3 : numL keep 0 (numB n k ++ rest) k = rest := by unfold numL; rw [if_neg (by simp), if_neg (by omega), if_neg hll, Int.toNat_natCast, List.drop_append_of_le_length (by omega), List.drop_of_length_le (by omega), List.nil_append]
  unfold St.num St.nv
  rw [e1, e2, e3]
  exact ⟨rfl, rfl⟩
theorem txt_back (keep : Bool) (t rest : List UInt8) (most : Int) (h : t.length ≤ 255) (hmost : (t.length : Int) ≤ most) : (St.mk 0 (textB t ++ rest)).txt keep most = ⟨0, rest⟩ ∧ (St.mk 0 (textB t ++ rest)).tv most = t := by
  have hc : (UInt8.ofNat t.length).toNat = t.length := by simp; omega
  have e1 : txtV 0 (textB t ++ rest) most = t := by
    show (if most < (UInt8.ofNat t.length).toNat then [] else if (t ++ rest).length < (UInt8.ofNat t.length).toNat then [] else (t ++ rest).take (UInt8.ofNat t.length).toNat) = t
    rw [hc, if_neg (by omega), if_neg (by simp)]; simp
  have e2 : txtE 0 (textB t ++ rest) most = 0 := by
    show (if most < (UInt8.ofNat t.length).toNat then (5 : Int) else if (t ++ rest).length < (UInt8.ofNat t.length).toNat then 4 else 0) = 0
    rw [hc, if_neg (by omega), if_neg (by simp)]
  have e3 : txtL keep 0 (textB t ++ rest) most = rest := by
    show (if most < (UInt8.ofNat t.length).toNat then (t ++ rest) else if (t ++ rest).length < (UInt8.ofNat t.length).toNat then (if keep then (t ++ rest) else []) else (t ++ rest).drop (UInt8.ofNat t.length).toNat) = rest
    rw [hc, if_neg (by omega), if_neg (by simp)]; simp
  unfold St.txt St.tv
  rw [e1, e2, e3]
  exact ⟨rfl, rfl⟩
end Go.Ab.S

namespace Go.Ab.S
open Go Go.Ab Go.Proofs
attribute [local irreducible] SemS
set_option maxRecDepth 100000
theorem okNum_of {n k : Nat} (hk : 1 ≤ k ∧ k ≤ 4) (h : n < 256 ^ k) : okNum n k = true := by
  refine decide_eq_true ⟨by omega, by omega, by omega, ?_⟩
  rw [Int.toNat_natCast]
  have : ((256 ^ k : Nat) : Int) = (256 : Int) ^ k := by rw [Int.natCast_pow]; rfl
  omega
theorem nv_err {s : St} {keep : Bool} (h : (s.num keep 1 255).e ≠ 0) : s.nv 1 255 = 0 := by
  unfold St.num at h
  unfold St.nv
  have h : numE s.e s.b 1 255 ≠ 0 := h
  unfold numE at h
  unfold numV
  split
  · rfl
  · rename_i h1
    rw [if_neg h1] at h
    split
    · rfl
    · rename_i h2
      rw [if_neg h2] at h
      split
      · rfl
      · rename_i h3
        rw [if_neg h3] at h
        split
        · rfl
        · rename_i h4
          rw [if_neg h4] at h
          exact absurd rfl h
/-- Something written by a writer that is new. -/
theorem fresh_w {g : FuncId} {args : List AV} {v : AV} {bs : List UInt8} (h : EvR PR G g args ⟨wrB 0 [], []⟩ v ⟨wrB 0 bs, []⟩) (ha : args.map (AV.ren (rho [.par 0, .loc 0] 1)) = args) (hi : args.all (inA 2) = true) (hv : v.ren (rho [.par 0, .loc 0] 1) = v) :
    EvR PR G g args ⟨[.mrow [.p (.int .i64 0), .nils]], []⟩ v ⟨[.mrow [.p (.int .i64 0), .os (.loc 0) bs.length]], [.arr 1 false (bytesOf bs)]⟩ := by
  have hf : Fits ⟨[.mrow [.p (.int .i64 0), .os (.loc 0) 0]], [.arr 1 false []]⟩ [.par 0, .loc 0] (wrB 0 []) := Fits.of rfl ⟨rfl, rfl, trivial⟩ rfl
  have h1 := EvR.frame h hf hi
  refine EvR.weakL (Weak.nils (id := .par 0) (j := 1) 1 (by omega) rfl rfl) ?_
  have h2 : EvR PR G g (args.map (AV.ren (rho [.par 0, .loc 0] 1))) ⟨[.mrow [.p (.int .i64 0), .os (.loc 0) 0]], [.arr 1 false []]⟩ (v.ren (rho [.par 0, .loc 0] 1)) ⟨[.mrow [.p (.int .i64 0), .os (.loc 0) bs.length]], [.arr 1 false (bytesOf bs)]⟩ := h1
  rw [ha, hv] at h2
  exact h2
theorem fresh_rw {g : FuncId} {args : List AV} {v : AV} {bs : List UInt8} (h : EvR PR G g args ⟨rwB 0 [], []⟩ v ⟨rwB 0 bs, []⟩) (ha : args.map (AV.ren (rho [.par 0, .loc 0] 1)) = args) (hi : args.all (inA 2) = true) (hv : v.ren (rho [.par 0, .loc 0] 1) = v) :
    EvR PR G g args ⟨[.mrow [.nils, .p (.int .i64 0)]], []⟩ v ⟨[.mrow [.os (.loc 0) bs.length, .p (.int .i64 0)]], [.arr 1 false (bytesOf bs)]⟩ := by
  have hf : Fits ⟨[.mrow [.os (.loc 0) 0, .p (.int .i64 0)]], [.arr 1 false []]⟩ [.par 0, .loc 0] (rwB 0 []) := Fits.of rfl ⟨rfl, rfl, trivial⟩ rfl
  have h1 := EvR.frame h hf hi
  refine EvR.weakL (Weak.nils (id := .par 0) (j := 0) 1 (by omega) rfl rfl) ?_
  have h2 : EvR PR G g (args.map (AV.ren (rho [.par 0, .loc 0] 1))) ⟨[.mrow [.os (.loc 0) 0, .p (.int .i64 0)]], [.arr 1 false []]⟩ (v.ren (rho [.par 0, .loc 0] 1)) ⟨[.mrow [.os (.loc 0) bs.length, .p (.int .i64 0)]], [.arr 1 false (bytesOf bs)]⟩ := h1
  rw [ha, hv] at h2
  exact h2
end Go.Ab.S
