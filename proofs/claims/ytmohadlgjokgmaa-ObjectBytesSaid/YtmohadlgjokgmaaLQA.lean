/- Objects written. No condition. Objects written by the document. No condition. -/
import Derived.Test.YtmohadlgjokgmaaLQ8
set_option linter.unusedSimpArgs false
set_option linter.unusedVariables false
namespace Go.Ab.S
open Go Go.Ab Go.Proofs
attribute [local irreducible] SemS
set_option maxRecDepth 100000
def Ob.flags (o : Ob) : Nat := (if o.swept then 1 else 0) + (if o.dead then 2 else 0)
theorem Ob.flags_lt (o : Ob) : o.flags < 4 := by
  unfold Ob.flags
  split <;> split <;> omega
def Ob.idn (o : Ob) : Idn := ⟨o.ids, o.idi, o.k, o.n⟩
def Ob.bytes (o : Ob) : List UInt8 := o.idn.bytes ++ (numB o.ls 2 ++ (numB o.li 2 ++ (numB o.stamp.toNat 1 ++ (numB o.flags 1 ++ (numB o.ws 2 ++ (numB o.wi 2 ++ (numB o.role.toNat 1 ++ (textB o.buf ++ if o.k = 2 then o.bx.bytes else []))))))))
/-- What an object is that may be written. -/
structure Ob.Wr (o : Ob) : Prop where
  ids : o.ids < 65536
  idi : o.idi < 65536
  k : 1 ≤ o.k ∧ o.k ≤ 3
  n : 0 ≤ o.n ∧ o.n < 4
  ls : o.ls < 65536
  li : o.li < 65536
  stamp : 0 ≤ o.stamp ∧ o.stamp ≤ 255
  ws : o.ws < 65536
  wi : o.wi < 65536
  role : 0 ≤ o.role ∧ o.role ≤ 15
  buf : o.buf.length ≤ 64
  bx : o.k = 2 → o.bx.Good ∧ o.bx.Ok
theorem Ob.wr_of {o : Ob} (h : o.fine = true) (ho : o.Ok) : o.Wr := by
  have hg : o.k = 2 → o.bx.Good := fun hk => by
    unfold Ob.fine Ob.kindB at h
    simp only [Bool.and_eq_true] at h
    have h2 := h.2.2.2.2
    rw [if_neg (by omega), if_pos hk] at h2
    simp only [Bool.and_eq_true] at h2
    exact Bx.fine_iff.1 h2.2.2.2
  unfold Ob.fine Ob.kindB at h
  simp only [Bool.and_eq_true, decide_eq_true_eq] at h
  obtain ⟨h1, h2, h3, -, h5⟩ := h
  obtain ⟨k1, k1', k2⟩ := idB_iff.1 h1
  have hr : (0 ≤ o.role ∧ o.role ≤ 15) ∧ o.buf.length ≤ 64 := by
    by_cases e1 : o.k = 1
    · rw [if_pos e1] at h5
      simp only [Bool.and_eq_true, decide_eq_true_eq] at h5
      omega
    · rw [if_neg e1] at h5
      by_cases e2 : o.k = 2
      · rw [if_pos e2] at h5
        simp only [Bool.and_eq_true, decide_eq_true_eq] at h5
        rw [h5.2.1]
        exact ⟨by omega, Nat.zero_le _⟩
      · rw [if_neg e2] at h5
        simp only [Bool.and_eq_true, decide_eq_true_eq] at h5
        omega
  exact ⟨ho.ids, ho.idi, ⟨k1, k1'⟩, k2, ho.ls, ho.li, ⟨h2, h3⟩, ho.ws, ho.wi, hr.1, hr.2, fun hk => ⟨hg hk, ho.bx⟩⟩
theorem object_flags_ok (o : Ob) : EvP PR G f_object_flags [.agg o.row] (iv (o.flags : Int)) := by
  have hf : o.flags = (if o.swept then 1 else 0) + (if o.dead then 2 else 0) := rfl
  rw [hf]
  obtain ⟨ids, idi, k, n, ls, li, st, sw, ws, wi, role, buf, dead, bx⟩ := o
  refine EvP.of_wpf false hm c_object_flags rfl ?_
  conv => whnf
  dsimp only
  cases sw <;> cases dead
  all_goals
    repeat' ((first | refine brP_t (by assumption) ?_ | refine brP_f (by assumption) ?_ | refine brP_t (decide_eq_true (by omega)) ?_ | refine brP_f (decide_eq_false (by omega)) ?_ | refine brP_t (nd_t (by omega)) ?_ | refine brP_f (nd_f (by omega)) ?_ | refine wpfS_seq1 ?_ | refine wpfS_go ?_ | fail) <;> conv => whnf)
    rfl
theorem object_put_ok (e : Int) (bs : List UInt8) (hb : bs.length ≤ 2 ^ 39) (a b : Nat) (ha : a < 65536) (hbb : b < 65536) : EvR PR G f_object_put [.c (.ptr (.par 0) 0), .agg [.int .u16 a, .int .u16 b]] ⟨wrB e bs, []⟩ (.tup []) ⟨wrB e (bs ++ numB a 2 ++ numB b 2), []⟩ := by
  have w0 : IntKind.i64.wrap (a : Int) = (a : Int) := wrap64 (by omega)
  have w1 : IntKind.i64.wrap (b : Int) = (b : Int) := wrap64 (by omega)
  have c0 := w_num_ok e bs (by omega) a 2 (okNum_of (by omega) (by omega))
  have c1 := w_num_ok e (bs ++ numB a 2) (by rw [List.length_append, numB_len]; omega) b 2 (okNum_of (by omega) (by omega))
  generalize bs ++ numB a 2 ++ numB b 2 = b2 at *
  generalize bs ++ numB a 2 = b1 at *
  refine EvR.of_wpfC false false hm c_object_put rfl rfl ?_
  conv => whnf
  repeat' ((first | refine brP_t (by assumption) ?_ | refine brP_f (by assumption) ?_ | refine brP_t (decide_eq_true (by omega)) ?_ | refine brP_f (decide_eq_false (by omega)) ?_ | refine brP_t (nd_t (by omega)) ?_ | refine brP_f (nd_f (by omega)) ?_ | refine callK_r (EvR.fr [_, _] c0 rfl rfl ⟨rfl, rfl, trivial⟩ rfl) ?_ | refine callM_l (LEv.fr [_, _] c0 rfl rfl ⟨rfl, rfl, trivial⟩ rfl rfl) ?_ | refine callK_rt (EvR.fr [_, _] c0 rfl rfl ⟨rfl, rfl, trivial⟩ rfl) ?_ | refine callK_rf rfl (EvR.fr [_, _] c0 rfl rfl ⟨rfl, rfl, trivial⟩ rfl) ?_ | refine callK_rft rfl (EvR.fr [_, _] c0 rfl rfl ⟨rfl, rfl, trivial⟩ rfl) ?_ | refine callK_r (EvR.fr [_, _] c1 rfl rfl ⟨rfl, rfl, trivial⟩ rfl) ?_ | refine callM_l (LEv.fr [_, _] c1 rfl rfl ⟨rfl, rfl, trivial⟩ rfl rfl) ?_ | refine callK_rt (EvR.fr [_, _] c1 rfl rfl ⟨rfl, rfl, trivial⟩ rfl) ?_ | refine callK_rf rfl (EvR.fr [_, _] c1 rfl rfl ⟨rfl, rfl, trivial⟩ rfl) ?_ | refine callK_rft rfl (EvR.fr [_, _] c1 rfl rfl ⟨rfl, rfl, trivial⟩ rfl) ?_ | ((rw [w0])) | ((rw [w1])) | refine wpfS_seq1 ?_ | refine wpfS_go ?_ | fail) <;> conv => whnf)
  exact ⟨rfl, rfl⟩
/-- The bytes of an object's parts, one behind the other. -/
theorem ob_run (bs : List UInt8) (o : Ob) : bs ++ o.bytes = bs ++ o.idn.bytes ++ numB o.ls 2 ++ numB o.li 2 ++ numB o.stamp.toNat 1 ++ numB o.flags 1 ++ numB o.ws 2 ++ numB o.wi 2 ++ numB o.role.toNat 1 ++ textB o.buf ++ if o.k = 2 then o.bx.bytes else [] := by
  unfold Ob.bytes
  simp only [List.append_assoc]
theorem textB_len (s : List UInt8) : (textB s).length = s.length + 1 := rfl
set_option maxHeartbeats 4000000 in
theorem object_Write_ok (e : Int) (bs : List UInt8) (hb : bs.length ≤ 2 ^ 37) (o : Ob) (ho : o.Wr) : EvR PR G f_object_Write [.c (.ptr (.par 0) 0), .agg o.row] ⟨wrB e bs, []⟩ (.tup []) ⟨wrB e (bs ++ o.bytes), []⟩ := by
  obtain ⟨h1, h2, h3, h4, h5, h6, h7, h8, h9, h10, h11, h12⟩ := ho
  have hfl := o.flags_lt
  have c0 := ident_Write_ok e bs (by omega) o.idn h1 h2 h3 h4
  have c3 := object_flags_ok o
  have c8 := form_mail_ok o
  rw [ob_run]
  generalize o.flags = fl at *
  have l0 : (bs ++ o.idn.bytes).length = bs.length + 6 := by rw [List.length_append, Idn.bytes_len]
  have hid : o.idn = ⟨o.ids, o.idi, o.k, o.n⟩ := rfl
  rw [hid] at c0
  generalize hb0 : bs ++ o.idn.bytes = b0 at *
  rw [show bs ++ (Idn.mk o.ids o.idi o.k o.n).bytes = b0 from hb0] at c0
  obtain ⟨ids, idi, k, n, ls, li, st, sw, ws, wi, role, buf, dead, bx⟩ := o
  dsimp only at *
  obtain ⟨st, rfl⟩ := Int.eq_ofNat_of_zero_le h7.1
  obtain ⟨role, rfl⟩ := Int.eq_ofNat_of_zero_le h10.1
  rw [Int.toNat_natCast, Int.toNat_natCast]
  have c1 := object_put_ok e b0 (by omega) ls li h5 h6
  have l1 : (b0 ++ numB ls 2 ++ numB li 2).length = bs.length + 10 := by simp only [List.length_append, numB_len]; omega
  generalize b0 ++ numB ls 2 ++ numB li 2 = b1 at *
  have c2 := w_num_ok e b1 (by omega) st 1 (okNum_of (by omega) (by omega))
  have l2 : (b1 ++ numB st 1).length = bs.length + 11 := by simp only [List.length_append, numB_len]; omega
  generalize b1 ++ numB st 1 = b2 at *
  have c4 := w_num_ok e b2 (by omega) fl 1 (okNum_of (by omega) (by omega))
  have l3 : (b2 ++ numB fl 1).length = bs.length + 12 := by simp only [List.length_append, numB_len]; omega
  generalize b2 ++ numB fl 1 = b3 at *
  have c5 := object_put_ok e b3 (by omega) ws wi h8 h9
  have l4 : (b3 ++ numB ws 2 ++ numB wi 2).length = bs.length + 16 := by simp only [List.length_append, numB_len]; omega
  generalize b3 ++ numB ws 2 ++ numB wi 2 = b4 at *
  have c6 := w_num_ok e b4 (by omega) role 1 (okNum_of (by omega) (by omega))
  have l5 : (b4 ++ numB role 1).length = bs.length + 17 := by simp only [List.length_append, numB_len]; omega
  generalize b4 ++ numB role 1 = b5 at *
  have c7 := w_text_ok e b5 (by omega) buf (by omega)
  have l6 : (b5 ++ textB buf).length ≤ bs.length + 100 := by simp only [List.length_append, textB_len]; omega
  generalize b5 ++ textB buf = b6 at *
  have hb6 : b6.length ≤ 2 ^ 38 := by omega
  clear l0 l1 l2 l3 l4 l5 l6 hb0 hid
  refine EvR.of_wpfC false false hm c_object_Write rfl rfl ?_
  conv => whnf
  repeat' ((first | refine brP_t (by assumption) ?_ | refine brP_f (by assumption) ?_ | refine brP_t (decide_eq_true (by omega)) ?_ | refine brP_f (decide_eq_false (by omega)) ?_ | refine brP_t (nd_t (by omega)) ?_ | refine brP_f (nd_f (by omega)) ?_ | refine wpfS_seq1 ?_ | refine wpfS_go ?_ | fail) <;> conv => whnf)
  (first | refine callK_r (EvR.fr [_, _] c0 rfl rfl ⟨rfl, rfl, trivial⟩ rfl) ?_ | refine callM_l (LEv.fr [_, _] c0 rfl rfl ⟨rfl, rfl, trivial⟩ rfl rfl) ?_ | refine callK_rt (EvR.fr [_, _] c0 rfl rfl ⟨rfl, rfl, trivial⟩ rfl) ?_ | refine callK_rf rfl (EvR.fr [_, _] c0 rfl rfl ⟨rfl, rfl, trivial⟩ rfl) ?_ | refine callK_rft rfl (EvR.fr [_, _] c0 rfl rfl ⟨rfl, rfl, trivial⟩ rfl) ?_)
  conv => whnf
  repeat' ((first | refine brP_t (by assumption) ?_ | refine brP_f (by assumption) ?_ | refine brP_t (decide_eq_true (by omega)) ?_ | refine brP_f (decide_eq_false (by omega)) ?_ | refine brP_t (nd_t (by omega)) ?_ | refine brP_f (nd_f (by omega)) ?_ | refine wpfS_seq1 ?_ | refine wpfS_go ?_ | fail) <;> conv => whnf)
  (first | refine callK_r (EvR.fr [_, _] c1 rfl rfl ⟨rfl, rfl, trivial⟩ rfl) ?_ | refine callM_l (LEv.fr [_, _] c1 rfl rfl ⟨rfl, rfl, trivial⟩ rfl rfl) ?_ | refine callK_rt (EvR.fr [_, _] c1 rfl rfl ⟨rfl, rfl, trivial⟩ rfl) ?_ | refine callK_rf rfl (EvR.fr [_, _] c1 rfl rfl ⟨rfl, rfl, trivial⟩ rfl) ?_ | refine callK_rft rfl (EvR.fr [_, _] c1 rfl rfl ⟨rfl, rfl, trivial⟩ rfl) ?_)
  conv => whnf
  repeat' ((first | refine brP_t (by assumption) ?_ | refine brP_f (by assumption) ?_ | refine brP_t (decide_eq_true (by omega)) ?_ | refine brP_f (decide_eq_false (by omega)) ?_ | refine brP_t (nd_t (by omega)) ?_ | refine brP_f (nd_f (by omega)) ?_ | refine wpfS_seq1 ?_ | refine wpfS_go ?_ | fail) <;> conv => whnf)
  (first | refine callK_r (EvR.fr [_, _] c2 rfl rfl ⟨rfl, rfl, trivial⟩ rfl) ?_ | refine callM_l (LEv.fr [_, _] c2 rfl rfl ⟨rfl, rfl, trivial⟩ rfl rfl) ?_ | refine callK_rt (EvR.fr [_, _] c2 rfl rfl ⟨rfl, rfl, trivial⟩ rfl) ?_ | refine callK_rf rfl (EvR.fr [_, _] c2 rfl rfl ⟨rfl, rfl, trivial⟩ rfl) ?_ | refine callK_rft rfl (EvR.fr [_, _] c2 rfl rfl ⟨rfl, rfl, trivial⟩ rfl) ?_)
  conv => whnf
  repeat' ((first | refine brP_t (by assumption) ?_ | refine brP_f (by assumption) ?_ | refine brP_t (decide_eq_true (by omega)) ?_ | refine brP_f (decide_eq_false (by omega)) ?_ | refine brP_t (nd_t (by omega)) ?_ | refine brP_f (nd_f (by omega)) ?_ | refine wpfS_seq1 ?_ | refine wpfS_go ?_ | fail) <;> conv => whnf)
  (first | refine callK_p c3 ?_ | refine callM_p c3 rfl ?_ | refine callK_pf rfl c3 ?_ | refine callK_pk rfl c3 ?_)
  conv => whnf
  repeat' ((first | refine brP_t (by assumption) ?_ | refine brP_f (by assumption) ?_ | refine brP_t (decide_eq_true (by omega)) ?_ | refine brP_f (decide_eq_false (by omega)) ?_ | refine brP_t (nd_t (by omega)) ?_ | refine brP_f (nd_f (by omega)) ?_ | refine wpfS_seq1 ?_ | refine wpfS_go ?_ | fail) <;> conv => whnf)
  (first | refine callK_r (EvR.fr [_, _] c4 rfl rfl ⟨rfl, rfl, trivial⟩ rfl) ?_ | refine callM_l (LEv.fr [_, _] c4 rfl rfl ⟨rfl, rfl, trivial⟩ rfl rfl) ?_ | refine callK_rt (EvR.fr [_, _] c4 rfl rfl ⟨rfl, rfl, trivial⟩ rfl) ?_ | refine callK_rf rfl (EvR.fr [_, _] c4 rfl rfl ⟨rfl, rfl, trivial⟩ rfl) ?_ | refine callK_rft rfl (EvR.fr [_, _] c4 rfl rfl ⟨rfl, rfl, trivial⟩ rfl) ?_)
  conv => whnf
  repeat' ((first | refine brP_t (by assumption) ?_ | refine brP_f (by assumption) ?_ | refine brP_t (decide_eq_true (by omega)) ?_ | refine brP_f (decide_eq_false (by omega)) ?_ | refine brP_t (nd_t (by omega)) ?_ | refine brP_f (nd_f (by omega)) ?_ | refine wpfS_seq1 ?_ | refine wpfS_go ?_ | fail) <;> conv => whnf)
  (first | refine callK_r (EvR.fr [_, _] c5 rfl rfl ⟨rfl, rfl, trivial⟩ rfl) ?_ | refine callM_l (LEv.fr [_, _] c5 rfl rfl ⟨rfl, rfl, trivial⟩ rfl rfl) ?_ | refine callK_rt (EvR.fr [_, _] c5 rfl rfl ⟨rfl, rfl, trivial⟩ rfl) ?_ | refine callK_rf rfl (EvR.fr [_, _] c5 rfl rfl ⟨rfl, rfl, trivial⟩ rfl) ?_ | refine callK_rft rfl (EvR.fr [_, _] c5 rfl rfl ⟨rfl, rfl, trivial⟩ rfl) ?_)
  conv => whnf
  repeat' ((first | refine brP_t (by assumption) ?_ | refine brP_f (by assumption) ?_ | refine brP_t (decide_eq_true (by omega)) ?_ | refine brP_f (decide_eq_false (by omega)) ?_ | refine brP_t (nd_t (by omega)) ?_ | refine brP_f (nd_f (by omega)) ?_ | refine wpfS_seq1 ?_ | refine wpfS_go ?_ | fail) <;> conv => whnf)
  (first | refine callK_r (EvR.fr [_, _] c6 rfl rfl ⟨rfl, rfl, trivial⟩ rfl) ?_ | refine callM_l (LEv.fr [_, _] c6 rfl rfl ⟨rfl, rfl, trivial⟩ rfl rfl) ?_ | refine callK_rt (EvR.fr [_, _] c6 rfl rfl ⟨rfl, rfl, trivial⟩ rfl) ?_ | refine callK_rf rfl (EvR.fr [_, _] c6 rfl rfl ⟨rfl, rfl, trivial⟩ rfl) ?_ | refine callK_rft rfl (EvR.fr [_, _] c6 rfl rfl ⟨rfl, rfl, trivial⟩ rfl) ?_)
  conv => whnf
  repeat' ((first | refine brP_t (by assumption) ?_ | refine brP_f (by assumption) ?_ | refine brP_t (decide_eq_true (by omega)) ?_ | refine brP_f (decide_eq_false (by omega)) ?_ | refine brP_t (nd_t (by omega)) ?_ | refine brP_f (nd_f (by omega)) ?_ | refine wpfS_seq1 ?_ | refine wpfS_go ?_ | fail) <;> conv => whnf)
  (first | refine callK_r (EvR.fr [_, _] c7 rfl rfl ⟨rfl, rfl, trivial⟩ rfl) ?_ | refine callM_l (LEv.fr [_, _] c7 rfl rfl ⟨rfl, rfl, trivial⟩ rfl rfl) ?_ | refine callK_rt (EvR.fr [_, _] c7 rfl rfl ⟨rfl, rfl, trivial⟩ rfl) ?_ | refine callK_rf rfl (EvR.fr [_, _] c7 rfl rfl ⟨rfl, rfl, trivial⟩ rfl) ?_ | refine callK_rft rfl (EvR.fr [_, _] c7 rfl rfl ⟨rfl, rfl, trivial⟩ rfl) ?_)
  conv => whnf
  repeat' ((first | refine brP_t (by assumption) ?_ | refine brP_f (by assumption) ?_ | refine brP_t (decide_eq_true (by omega)) ?_ | refine brP_f (decide_eq_false (by omega)) ?_ | refine brP_t (nd_t (by omega)) ?_ | refine brP_f (nd_f (by omega)) ?_ | refine wpfS_seq1 ?_ | refine wpfS_go ?_ | fail) <;> conv => whnf)
  (first | refine callK_p c8 ?_ | refine callM_p c8 rfl ?_ | refine callK_pf rfl c8 ?_ | refine callK_pk rfl c8 ?_)
  conv => whnf
  repeat' ((first | refine brP_t (by assumption) ?_ | refine brP_f (by assumption) ?_ | refine brP_t (decide_eq_true (by omega)) ?_ | refine brP_f (decide_eq_false (by omega)) ?_ | refine brP_t (nd_t (by omega)) ?_ | refine brP_f (nd_f (by omega)) ?_ | refine wpfS_seq1 ?_ | refine wpfS_go ?_ | fail) <;> conv => whnf)
  by_cases hk : k = 2
  · rw [if_pos hk]
    obtain ⟨hg, hok⟩ := h12 hk
    have c9 := box_Write_ok e b6 hb6 bx hg hok
    repeat' ((first | refine brP_t (by assumption) ?_ | refine brP_f (by assumption) ?_ | refine brP_t (decide_eq_true (by omega)) ?_ | refine brP_f (decide_eq_false (by omega)) ?_ | refine brP_t (nd_t (by omega)) ?_ | refine brP_f (nd_f (by omega)) ?_ | refine wpfS_seq1 ?_ | refine wpfS_go ?_ | fail) <;> conv => whnf)
    (first | refine callK_r (EvR.fr [_, _] c9 rfl rfl ⟨rfl, rfl, trivial⟩ rfl) ?_ | refine callM_l (LEv.fr [_, _] c9 rfl rfl ⟨rfl, rfl, trivial⟩ rfl rfl) ?_ | refine callK_rt (EvR.fr [_, _] c9 rfl rfl ⟨rfl, rfl, trivial⟩ rfl) ?_ | refine callK_rf rfl (EvR.fr [_, _] c9 rfl rfl ⟨rfl, rfl, trivial⟩ rfl) ?_ | refine callK_rft rfl (EvR.fr [_, _] c9 rfl rfl ⟨rfl, rfl, trivial⟩ rfl) ?_)
    conv => whnf
    repeat' ((first | refine brP_t (by assumption) ?_ | refine brP_f (by assumption) ?_ | refine brP_t (decide_eq_true (by omega)) ?_ | refine brP_f (decide_eq_false (by omega)) ?_ | refine brP_t (nd_t (by omega)) ?_ | refine brP_f (nd_f (by omega)) ?_ | refine wpfS_seq1 ?_ | refine wpfS_go ?_ | fail) <;> conv => whnf)
    exact ⟨rfl, rfl⟩
  · rw [if_neg hk, List.append_nil]
    repeat' ((first | refine brP_t (by assumption) ?_ | refine brP_f (by assumption) ?_ | refine brP_t (decide_eq_true (by omega)) ?_ | refine brP_f (decide_eq_false (by omega)) ?_ | refine brP_t (nd_t (by omega)) ?_ | refine brP_f (nd_f (by omega)) ?_ | refine wpfS_seq1 ?_ | refine wpfS_go ?_ | fail) <;> conv => whnf)
    exact ⟨rfl, rfl⟩
end Go.Ab.S

namespace Go.Ab.S
open Go Go.Ab Go.Proofs
attribute [local irreducible] SemS
set_option maxRecDepth 100000
theorem q_hi {n : Nat} (h : n < 65536) : IntKind.u8.wrap (IntKind.u16.wrap ((n : Int).tdiv 256)) = ((UInt8.ofNat (n / 256)).toNat : Int) := by
  have e : (n : Int).tdiv 256 = ((n / 256 : Nat) : Int) := by
    rw [Int.tdiv_eq_ediv_of_nonneg (by omega)]; rfl
  rw [e, wrap16 (by omega), wrap8 (by omega), UInt8.toNat_ofNat']
  omega
theorem q_lo {n : Nat} : IntKind.u8.wrap ((n : Int).tmod 256) = ((UInt8.ofNat n).toNat : Int) := by
  have e : (n : Int).tmod 256 = ((n % 256 : Nat) : Int) := by
    rw [Int.tmod_eq_emod_of_nonneg (by omega)]; rfl
  rw [e, wrap8 (by omega), UInt8.toNat_ofNat']
theorem q_id {n : Nat} (h : n < 256) : IntKind.u8.wrap (n : Int) = ((UInt8.ofNat n).toNat : Int) := by
  rw [wrap8 (by omega), UInt8.toNat_ofNat']
  omega
theorem numB2 (n : Nat) : numB n 2 = [UInt8.ofNat (n / 256), UInt8.ofNat n] := by
  show [UInt8.ofNat (n / 256 ^ 1), UInt8.ofNat (n / 256 ^ 0)] = _
  rw [Nat.pow_one, Nat.pow_zero, Nat.div_one]
theorem numB1 (n : Nat) : numB n 1 = [UInt8.ofNat n] := by
  show [UInt8.ofNat (n / 256 ^ 0)] = _
  rw [Nat.pow_zero, Nat.div_one]
theorem R21_Bytes_ok (d : Idn) (h1 : d.s < 65536) (h2 : d.i < 65536) (h3 : 1 ≤ d.k ∧ d.k ≤ 3) (h4 : 0 ≤ d.n ∧ d.n < 4) : EvP PR G f_R21_Bytes [.agg d.row] (slv (bytesOf d.bytes)) := by
  obtain ⟨s, i, k, n⟩ := d
  dsimp only at *
  obtain ⟨k, rfl⟩ := Int.eq_ofNat_of_zero_le (show 0 ≤ k by omega)
  obtain ⟨n, rfl⟩ := Int.eq_ofNat_of_zero_le h4.1
  have hb : slv (bytesOf (Idn.mk s i k n).bytes) = slv [[.int .u8 (IntKind.u8.wrap (IntKind.u16.wrap ((s : Int).tdiv 256)))], [.int .u8 (IntKind.u8.wrap ((s : Int).tmod 256))], [.int .u8 (IntKind.u8.wrap (IntKind.u16.wrap ((i : Int).tdiv 256)))], [.int .u8 (IntKind.u8.wrap ((i : Int).tmod 256))], [.int .u8 (IntKind.u8.wrap k)], [.int .u8 (IntKind.u8.wrap n)]] := by
    rw [q_hi h1, q_hi h2, q_lo, q_lo, q_id (by omega), q_id (by omega)]
    show slv (bytesOf (numB s 2 ++ (numB i 2 ++ (numB k 1 ++ numB n 1)))) = _
    rw [numB2, numB2, numB1, numB1]
    rfl
  rw [hb]
  refine EvP.of_wpf false hm c_R21_Bytes rfl ?_
  conv => whnf
  repeat' ((first | refine brP_t (by assumption) ?_ | refine brP_f (by assumption) ?_ | refine brP_t (decide_eq_true (by omega)) ?_ | refine brP_f (decide_eq_false (by omega)) ?_ | refine brP_t (nd_t (by omega)) ?_ | refine brP_f (nd_f (by omega)) ?_ | refine wpfS_seq1 ?_ | refine wpfS_go ?_ | fail) <;> conv => whnf)
  rfl
set_option maxHeartbeats 4000000 in
theorem R25_Write_ok (e : Int) (bs : List UInt8) (hb : bs.length ≤ 2 ^ 37) (o : Ob) (ho : o.Wr) : EvR PR G f_R25_Write [.c (.ptr (.par 0) 0), .agg o.row] ⟨rwB e bs, []⟩ (.tup []) ⟨rwB e (bs ++ o.bytes), []⟩ := by
  obtain ⟨h1, h2, h3, h4, h5, h6, h7, h8, h9, h10, h11, h12⟩ := ho
  have hfl := o.flags_lt
  have c0 := R21_Bytes_ok o.idn h1 h2 h3 h4
  rw [ob_run]
  have hfe : o.flags = (if o.swept then 1 else 0) + (if o.dead then 2 else 0) := rfl
  generalize o.flags = fl at *
  have l0 : (bs ++ o.idn.bytes).length = bs.length + 6 := by rw [List.length_append, Idn.bytes_len]
  have l00 : o.idn.bytes.length = 6 := o.idn.bytes_len
  have hid : o.idn = ⟨o.ids, o.idi, o.k, o.n⟩ := rfl
  have hrw : ∀ {m : Nat} {R : List (List PV)}, m = bs.length + o.idn.bytes.length → R = bytesOf bs ++ bytesOf o.idn.bytes → (⟨[.mrow [.os (.par 1) m, .p (.int .i64 e)], .arr 1 false R], []⟩ : Hp) = ⟨rwB e (bs ++ o.idn.bytes), []⟩ := fun h1 h2 => rw_eq e bs _ h1 h2
  rw [hid] at c0 hrw l00
  generalize hb0 : bs ++ o.idn.bytes = b0 at *
  rw [show bs ++ (Idn.mk o.ids o.idi o.k o.n).bytes = b0 from hb0] at hrw
  obtain ⟨ids, idi, k, n, ls, li, st, sw, ws, wi, role, buf, dead, bx⟩ := o
  dsimp only at *
  obtain ⟨st, rfl⟩ := Int.eq_ofNat_of_zero_le h7.1
  obtain ⟨role, rfl⟩ := Int.eq_ofNat_of_zero_le h10.1
  rw [Int.toNat_natCast, Int.toNat_natCast]
  have w1 : IntKind.i64.wrap (ls : Int) = (ls : Int) := wrap64 (by omega)
  have w2 : IntKind.i64.wrap (li : Int) = (li : Int) := wrap64 (by omega)
  have w3 : IntKind.i64.wrap (ws : Int) = (ws : Int) := wrap64 (by omega)
  have w4 : IntKind.i64.wrap (wi : Int) = (wi : Int) := wrap64 (by omega)
  have c1 := rw_num_ok e b0 (by omega) ls 2 (okNum_of (by omega) (by omega))
  have l1 : (b0 ++ numB ls 2).length = bs.length + 8 := by simp only [List.length_append, numB_len]; omega
  generalize b0 ++ numB ls 2 = b1 at *
  have c2 := rw_num_ok e b1 (by omega) li 2 (okNum_of (by omega) (by omega))
  have l2 : (b1 ++ numB li 2).length = bs.length + 10 := by simp only [List.length_append, numB_len]; omega
  generalize b1 ++ numB li 2 = b2 at *
  have c3 := rw_num_ok e b2 (by omega) st 1 (okNum_of (by omega) (by omega))
  have l3 : (b2 ++ numB st 1).length = bs.length + 11 := by simp only [List.length_append, numB_len]; omega
  generalize b2 ++ numB st 1 = b3 at *
  have c4 := rw_num_ok e b3 (by omega) fl 1 (okNum_of (by omega) (by omega))
  have l4 : (b3 ++ numB fl 1).length = bs.length + 12 := by simp only [List.length_append, numB_len]; omega
  generalize b3 ++ numB fl 1 = b4 at *
  have c5 := rw_num_ok e b4 (by omega) ws 2 (okNum_of (by omega) (by omega))
  have l5 : (b4 ++ numB ws 2).length = bs.length + 14 := by simp only [List.length_append, numB_len]; omega
  generalize b4 ++ numB ws 2 = b5 at *
  have c6 := rw_num_ok e b5 (by omega) wi 2 (okNum_of (by omega) (by omega))
  have l6 : (b5 ++ numB wi 2).length = bs.length + 16 := by simp only [List.length_append, numB_len]; omega
  generalize b5 ++ numB wi 2 = b6 at *
  have c7 := rw_num_ok e b6 (by omega) role 1 (okNum_of (by omega) (by omega))
  have l7 : (b6 ++ numB role 1).length = bs.length + 17 := by simp only [List.length_append, numB_len]; omega
  generalize b6 ++ numB role 1 = b7 at *
  have c8 := rw_text_ok e b7 (by omega) buf (by omega)
  have l8 : (b7 ++ textB buf).length ≤ bs.length + 100 := by simp only [List.length_append, textB_len]; omega
  generalize b7 ++ textB buf = b8 at *
  have hb8 : b8.length ≤ 2 ^ 38 := by omega
  have hlen := bytesOf_len bs
  have hlen2 := bytesOf_len (Idn.mk ids idi k n).bytes
  have hall := bytesOf_all (Idn.mk ids idi k n).bytes
  generalize hID : (Idn.mk ids idi k n).bytes = ID at *
  have hh := hrw (m := bs.length + (bytesOf ID).length) (R := bytesOf bs ++ bytesOf ID) (by rw [hlen2]) rfl
  rw [← hh] at c1
  clear l0 l1 l2 l3 l4 l5 l6 l7 l8 hb0 hid hh hrw
  refine EvR.of_wpfC false false hm c_R25_Write rfl rfl ?_
  conv => whnf
  repeat' ((first | refine brP_t (by assumption) ?_ | refine brP_f (by assumption) ?_ | refine brP_t (decide_eq_true (by omega)) ?_ | refine brP_f (decide_eq_false (by omega)) ?_ | refine brP_t (nd_t (by omega)) ?_ | refine brP_f (nd_f (by omega)) ?_ | ((rw [w1])) | ((rw [w2])) | (refine gd_mk ?_ ?_; focus (simp [hlen, hlen2, hall, l00]; omega; done)) | refine wpfS_seq1 ?_ | refine wpfS_go ?_ | fail) <;> conv => whnf)
  (first | refine callK_p c0 ?_ | refine callM_p c0 rfl ?_ | refine callK_pf rfl c0 ?_ | refine callK_pk rfl c0 ?_)
  conv => whnf
  repeat' ((first | refine brP_t (by assumption) ?_ | refine brP_f (by assumption) ?_ | refine brP_t (decide_eq_true (by omega)) ?_ | refine brP_f (decide_eq_false (by omega)) ?_ | refine brP_t (nd_t (by omega)) ?_ | refine brP_f (nd_f (by omega)) ?_ | ((rw [w1])) | ((rw [w2])) | (refine gd_mk ?_ ?_; focus (simp [hlen, hlen2, hall, l00]; omega; done)) | refine wpfS_seq1 ?_ | refine wpfS_go ?_ | fail) <;> conv => whnf)
  (first | refine callK_r (EvR.fr [_, _] c1 rfl rfl ⟨rfl, rfl, trivial⟩ rfl) ?_ | refine callM_l (LEv.fr [_, _] c1 rfl rfl ⟨rfl, rfl, trivial⟩ rfl rfl) ?_ | refine callK_rt (EvR.fr [_, _] c1 rfl rfl ⟨rfl, rfl, trivial⟩ rfl) ?_ | refine callK_rf rfl (EvR.fr [_, _] c1 rfl rfl ⟨rfl, rfl, trivial⟩ rfl) ?_ | refine callK_rft rfl (EvR.fr [_, _] c1 rfl rfl ⟨rfl, rfl, trivial⟩ rfl) ?_)
  conv => whnf
  repeat' ((first | refine brP_t (by assumption) ?_ | refine brP_f (by assumption) ?_ | refine brP_t (decide_eq_true (by omega)) ?_ | refine brP_f (decide_eq_false (by omega)) ?_ | refine brP_t (nd_t (by omega)) ?_ | refine brP_f (nd_f (by omega)) ?_ | ((rw [w1])) | ((rw [w2])) | (refine gd_mk ?_ ?_; focus (simp [hlen, hlen2, hall, l00]; omega; done)) | refine wpfS_seq1 ?_ | refine wpfS_go ?_ | fail) <;> conv => whnf)
  (first | refine callK_r (EvR.fr [_, _] c2 rfl rfl ⟨rfl, rfl, trivial⟩ rfl) ?_ | refine callM_l (LEv.fr [_, _] c2 rfl rfl ⟨rfl, rfl, trivial⟩ rfl rfl) ?_ | refine callK_rt (EvR.fr [_, _] c2 rfl rfl ⟨rfl, rfl, trivial⟩ rfl) ?_ | refine callK_rf rfl (EvR.fr [_, _] c2 rfl rfl ⟨rfl, rfl, trivial⟩ rfl) ?_ | refine callK_rft rfl (EvR.fr [_, _] c2 rfl rfl ⟨rfl, rfl, trivial⟩ rfl) ?_)
  conv => whnf
  repeat' ((first | refine brP_t (by assumption) ?_ | refine brP_f (by assumption) ?_ | refine brP_t (decide_eq_true (by omega)) ?_ | refine brP_f (decide_eq_false (by omega)) ?_ | refine brP_t (nd_t (by omega)) ?_ | refine brP_f (nd_f (by omega)) ?_ | ((rw [w1])) | ((rw [w2])) | (refine gd_mk ?_ ?_; focus (simp [hlen, hlen2, hall, l00]; omega; done)) | refine wpfS_seq1 ?_ | refine wpfS_go ?_ | fail) <;> conv => whnf)
  (first | refine callK_r (EvR.fr [_, _] c3 rfl rfl ⟨rfl, rfl, trivial⟩ rfl) ?_ | refine callM_l (LEv.fr [_, _] c3 rfl rfl ⟨rfl, rfl, trivial⟩ rfl rfl) ?_ | refine callK_rt (EvR.fr [_, _] c3 rfl rfl ⟨rfl, rfl, trivial⟩ rfl) ?_ | refine callK_rf rfl (EvR.fr [_, _] c3 rfl rfl ⟨rfl, rfl, trivial⟩ rfl) ?_ | refine callK_rft rfl (EvR.fr [_, _] c3 rfl rfl ⟨rfl, rfl, trivial⟩ rfl) ?_)
  conv => whnf
  repeat' ((first | refine brP_t (by assumption) ?_ | refine brP_f (by assumption) ?_ | refine brP_t (decide_eq_true (by omega)) ?_ | refine brP_f (decide_eq_false (by omega)) ?_ | refine brP_t (nd_t (by omega)) ?_ | refine brP_f (nd_f (by omega)) ?_ | ((rw [w1])) | ((rw [w2])) | (refine gd_mk ?_ ?_; focus (simp [hlen, hlen2, hall, l00]; omega; done)) | refine wpfS_seq1 ?_ | refine wpfS_go ?_ | fail) <;> conv => whnf)
  cases sw <;> cases dead
  all_goals
    subst hfe
    repeat' ((first | refine brP_t (by assumption) ?_ | refine brP_f (by assumption) ?_ | refine brP_t (decide_eq_true (by omega)) ?_ | refine brP_f (decide_eq_false (by omega)) ?_ | refine brP_t (nd_t (by omega)) ?_ | refine brP_f (nd_f (by omega)) ?_ | ((rw [w3])) | ((rw [w4])) | refine wpfS_seq1 ?_ | refine wpfS_go ?_ | fail) <;> conv => whnf)
    (first | refine callK_r (EvR.fr [_, _] c4 rfl rfl ⟨rfl, rfl, trivial⟩ rfl) ?_ | refine callM_l (LEv.fr [_, _] c4 rfl rfl ⟨rfl, rfl, trivial⟩ rfl rfl) ?_ | refine callK_rt (EvR.fr [_, _] c4 rfl rfl ⟨rfl, rfl, trivial⟩ rfl) ?_ | refine callK_rf rfl (EvR.fr [_, _] c4 rfl rfl ⟨rfl, rfl, trivial⟩ rfl) ?_ | refine callK_rft rfl (EvR.fr [_, _] c4 rfl rfl ⟨rfl, rfl, trivial⟩ rfl) ?_)
    conv => whnf
    repeat' ((first | refine brP_t (by assumption) ?_ | refine brP_f (by assumption) ?_ | refine brP_t (decide_eq_true (by omega)) ?_ | refine brP_f (decide_eq_false (by omega)) ?_ | refine brP_t (nd_t (by omega)) ?_ | refine brP_f (nd_f (by omega)) ?_ | ((rw [w3])) | ((rw [w4])) | refine wpfS_seq1 ?_ | refine wpfS_go ?_ | fail) <;> conv => whnf)
    (first | refine callK_r (EvR.fr [_, _] c5 rfl rfl ⟨rfl, rfl, trivial⟩ rfl) ?_ | refine callM_l (LEv.fr [_, _] c5 rfl rfl ⟨rfl, rfl, trivial⟩ rfl rfl) ?_ | refine callK_rt (EvR.fr [_, _] c5 rfl rfl ⟨rfl, rfl, trivial⟩ rfl) ?_ | refine callK_rf rfl (EvR.fr [_, _] c5 rfl rfl ⟨rfl, rfl, trivial⟩ rfl) ?_ | refine callK_rft rfl (EvR.fr [_, _] c5 rfl rfl ⟨rfl, rfl, trivial⟩ rfl) ?_)
    conv => whnf
    repeat' ((first | refine brP_t (by assumption) ?_ | refine brP_f (by assumption) ?_ | refine brP_t (decide_eq_true (by omega)) ?_ | refine brP_f (decide_eq_false (by omega)) ?_ | refine brP_t (nd_t (by omega)) ?_ | refine brP_f (nd_f (by omega)) ?_ | ((rw [w3])) | ((rw [w4])) | refine wpfS_seq1 ?_ | refine wpfS_go ?_ | fail) <;> conv => whnf)
    (first | refine callK_r (EvR.fr [_, _] c6 rfl rfl ⟨rfl, rfl, trivial⟩ rfl) ?_ | refine callM_l (LEv.fr [_, _] c6 rfl rfl ⟨rfl, rfl, trivial⟩ rfl rfl) ?_ | refine callK_rt (EvR.fr [_, _] c6 rfl rfl ⟨rfl, rfl, trivial⟩ rfl) ?_ | refine callK_rf rfl (EvR.fr [_, _] c6 rfl rfl ⟨rfl, rfl, trivial⟩ rfl) ?_ | refine callK_rft rfl (EvR.fr [_, _] c6 rfl rfl ⟨rfl, rfl, trivial⟩ rfl) ?_)
    conv => whnf
    repeat' ((first | refine brP_t (by assumption) ?_ | refine brP_f (by assumption) ?_ | refine brP_t (decide_eq_true (by omega)) ?_ | refine brP_f (decide_eq_false (by omega)) ?_ | refine brP_t (nd_t (by omega)) ?_ | refine brP_f (nd_f (by omega)) ?_ | ((rw [w3])) | ((rw [w4])) | refine wpfS_seq1 ?_ | refine wpfS_go ?_ | fail) <;> conv => whnf)
    (first | refine callK_r (EvR.fr [_, _] c7 rfl rfl ⟨rfl, rfl, trivial⟩ rfl) ?_ | refine callM_l (LEv.fr [_, _] c7 rfl rfl ⟨rfl, rfl, trivial⟩ rfl rfl) ?_ | refine callK_rt (EvR.fr [_, _] c7 rfl rfl ⟨rfl, rfl, trivial⟩ rfl) ?_ | refine callK_rf rfl (EvR.fr [_, _] c7 rfl rfl ⟨rfl, rfl, trivial⟩ rfl) ?_ | refine callK_rft rfl (EvR.fr [_, _] c7 rfl rfl ⟨rfl, rfl, trivial⟩ rfl) ?_)
    conv => whnf
    repeat' ((first | refine brP_t (by assumption) ?_ | refine brP_f (by assumption) ?_ | refine brP_t (decide_eq_true (by omega)) ?_ | refine brP_f (decide_eq_false (by omega)) ?_ | refine brP_t (nd_t (by omega)) ?_ | refine brP_f (nd_f (by omega)) ?_ | ((rw [w3])) | ((rw [w4])) | refine wpfS_seq1 ?_ | refine wpfS_go ?_ | fail) <;> conv => whnf)
    (first | refine callK_r (EvR.fr [_, _] c8 rfl rfl ⟨rfl, rfl, trivial⟩ rfl) ?_ | refine callM_l (LEv.fr [_, _] c8 rfl rfl ⟨rfl, rfl, trivial⟩ rfl rfl) ?_ | refine callK_rt (EvR.fr [_, _] c8 rfl rfl ⟨rfl, rfl, trivial⟩ rfl) ?_ | refine callK_rf rfl (EvR.fr [_, _] c8 rfl rfl ⟨rfl, rfl, trivial⟩ rfl) ?_ | refine callK_rft rfl (EvR.fr [_, _] c8 rfl rfl ⟨rfl, rfl, trivial⟩ rfl) ?_)
    conv => whnf
    repeat' ((first | refine brP_t (by assumption) ?_ | refine brP_f (by assumption) ?_ | refine brP_t (decide_eq_true (by omega)) ?_ | refine brP_f (decide_eq_false (by omega)) ?_ | refine brP_t (nd_t (by omega)) ?_ | refine brP_f (nd_f (by omega)) ?_ | ((rw [w3])) | ((rw [w4])) | refine wpfS_seq1 ?_ | refine wpfS_go ?_ | fail) <;> conv => whnf)
    by_cases hk : k = 2
    · rw [if_pos hk]
      obtain ⟨hg, hok⟩ := h12 hk
      have c9 := R23_Write_ok e b8 hb8 bx hg hok
      repeat' ((first | refine brP_t (by assumption) ?_ | refine brP_f (by assumption) ?_ | refine brP_t (decide_eq_true (by omega)) ?_ | refine brP_f (decide_eq_false (by omega)) ?_ | refine brP_t (nd_t (by omega)) ?_ | refine brP_f (nd_f (by omega)) ?_ | refine wpfS_seq1 ?_ | refine wpfS_go ?_ | fail) <;> conv => whnf)
      (first | refine callK_r (EvR.fr [_, _] c9 rfl rfl ⟨rfl, rfl, trivial⟩ rfl) ?_ | refine callM_l (LEv.fr [_, _] c9 rfl rfl ⟨rfl, rfl, trivial⟩ rfl rfl) ?_ | refine callK_rt (EvR.fr [_, _] c9 rfl rfl ⟨rfl, rfl, trivial⟩ rfl) ?_ | refine callK_rf rfl (EvR.fr [_, _] c9 rfl rfl ⟨rfl, rfl, trivial⟩ rfl) ?_ | refine callK_rft rfl (EvR.fr [_, _] c9 rfl rfl ⟨rfl, rfl, trivial⟩ rfl) ?_)
      conv => whnf
      repeat' ((first | refine brP_t (by assumption) ?_ | refine brP_f (by assumption) ?_ | refine brP_t (decide_eq_true (by omega)) ?_ | refine brP_f (decide_eq_false (by omega)) ?_ | refine brP_t (nd_t (by omega)) ?_ | refine brP_f (nd_f (by omega)) ?_ | refine wpfS_seq1 ?_ | refine wpfS_go ?_ | fail) <;> conv => whnf)
      exact ⟨rfl, rfl⟩
    · rw [if_neg hk, List.append_nil]
      repeat' ((first | refine brP_t (by assumption) ?_ | refine brP_f (by assumption) ?_ | refine brP_t (decide_eq_true (by omega)) ?_ | refine brP_f (decide_eq_false (by omega)) ?_ | refine brP_t (nd_t (by omega)) ?_ | refine brP_f (nd_f (by omega)) ?_ | refine wpfS_seq1 ?_ | refine wpfS_go ?_ | fail) <;> conv => whnf)
      exact ⟨rfl, rfl⟩
end Go.Ab.S
