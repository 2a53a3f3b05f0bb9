/- The program's reader of objects. No condition. -/
import Derived.Test.YtmohadlgjokgmaaLQ6
import Derived.Test.YtmohadlgjokgmaaFwH
set_option linter.unusedSimpArgs false
set_option linter.unusedVariables false
namespace Go.Ab.S
open Go Go.Ab Go.Proofs
attribute [local irreducible] SemS
set_option maxRecDepth 100000
theorem tv_len (s : St) (most : Int) (h : most < 2 ^ 61) : (s.tv most).length < 2 ^ 62 := by
  show (txtV s.e s.b most).length < _
  unfold txtV
  split
  · exact Nat.zero_lt_of_lt (by decide : 0 < 2 ^ 62)
  · split
    · exact Nat.zero_lt_of_lt (by decide : 0 < 2 ^ 62)
    · rename_i c r _
      split
      · exact Nat.zero_lt_of_lt (by decide : 0 < 2 ^ 62)
      · split
        · exact Nat.zero_lt_of_lt (by decide : 0 < 2 ^ 62)
        · rw [List.length_take]; omega
set_option maxHeartbeats 8000000 in
theorem object_Read_ok (s : St) : EvR PR G f_object_Read [.c (.ptr (.par 0) 0)] ⟨s.pr, []⟩ (.agg (Ob.rd true s).1.row) ⟨(Ob.rd true s).2.pr, []⟩ := by
  unfold Ob.rd Ob.rd0
  dsimp only
  have c0 := ident_Read_ok s
  generalize (Idn.rd true s).1 = d at *
  generalize (Idn.rd true s).2 = s1 at *
  have c1 := object_get_ok s1
  generalize s1.num true 2 65535 = s2 at *
  generalize (s1.nv 2 65535).toNat = v1 at *
  generalize (s2.nv 2 65535).toNat = v2 at *
  generalize s2.num true 2 65535 = s3 at *
  have c2 := pr_num s3 1 255 (by omega)
  generalize s3.nv 1 255 = v3 at *
  generalize s3.num true 1 255 = s4 at *
  have c3 := pr_num s4 1 3 (by omega)
  have r4 := nv_range (s := s4) (size := 1) (most := 3) (by omega)
  generalize s4.nv 1 3 = v4 at *
  generalize s4.num true 1 3 = s5 at *
  have c4 := object_get_ok s5
  generalize s5.num true 2 65535 = s6 at *
  generalize (s5.nv 2 65535).toNat = v5 at *
  generalize (s6.nv 2 65535).toNat = v6 at *
  generalize s6.num true 2 65535 = s7 at *
  have c5 := pr_num s7 1 15 (by omega)
  generalize s7.nv 1 15 = v7 at *
  generalize s7.num true 1 15 = s8 at *
  have c6 := pr_txt s8 64
  have hv8 : (s8.tv 64).length < 2 ^ 62 := tv_len s8 64 (by omega)
  generalize s8.tv 64 = v8 at *
  generalize s8.txt true 64 = s9 at *
  obtain ⟨d0, d1, d2, d3⟩ := d
  have k1 : IntKind.i64.wrap (v4.tmod 2) = v4.tmod 2 := wrap64 (by
    have : v4 = 0 ∨ v4 = 1 ∨ v4 = 2 ∨ v4 = 3 := by omega
    rcases this with rfl | rfl | rfl | rfl <;> decide)
  have c7 := form_mail_ok ⟨d0, d1, d2, d3, v1, v2, v3, decide (v4.tmod 2 = 1), v5, v6, v7, v8, decide (1 < v4), Bx.emp⟩
  have c8 := box_Read_ok s9
  have hbl := Bx.rd_len true s9
  generalize hx1 : (Bx.rd true s9).1 = bx at *
  generalize hx2 : (Bx.rd true s9).2 = s10 at *
  have ca := object_Fine_ok ⟨d0, d1, d2, d3, v1, v2, v3, decide (v4.tmod 2 = 1), v5, v6, v7, v8, decide (1 < v4), bx⟩ ⟨Nat.lt_of_le_of_lt hbl (by decide), hv8⟩
  have ca' := object_Fine_ok ⟨d0, d1, d2, d3, v1, v2, v3, decide (v4.tmod 2 = 1), v5, v6, v7, v8, decide (1 < v4), Bx.emp⟩ ⟨by show (0 : Nat) < 2 ^ 61; decide, hv8⟩
  refine EvR.of_wpfZ false false hm c_object_Read rfl ?_
  conv => whnf
  repeat' ((first | refine brP_t (by assumption) ?_ | refine brP_f (by assumption) ?_ | refine brP_t (decide_eq_true (by omega)) ?_ | refine brP_f (decide_eq_false (by omega)) ?_ | refine brP_t (nd_t (by omega)) ?_ | refine brP_f (nd_f (by omega)) ?_ | refine wpfS_seq1 ?_ | refine wpfS_go ?_ | fail) <;> conv => whnf)
  (first | refine callK_r (EvR.fr [_] c0 rfl rfl ⟨rfl, trivial⟩ rfl) ?_ | refine callM_l (LEv.fr [_] c0 rfl rfl ⟨rfl, trivial⟩ rfl rfl) ?_ | refine callK_rt (EvR.fr [_] c0 rfl rfl ⟨rfl, trivial⟩ rfl) ?_ | refine callK_rf rfl (EvR.fr [_] c0 rfl rfl ⟨rfl, trivial⟩ rfl) ?_ | refine callK_rft rfl (EvR.fr [_] c0 rfl rfl ⟨rfl, trivial⟩ rfl) ?_)
  conv => whnf
  repeat' ((first | refine brP_t (by assumption) ?_ | refine brP_f (by assumption) ?_ | refine brP_t (decide_eq_true (by omega)) ?_ | refine brP_f (decide_eq_false (by omega)) ?_ | refine brP_t (nd_t (by omega)) ?_ | refine brP_f (nd_f (by omega)) ?_ | refine wpfS_seq1 ?_ | refine wpfS_go ?_ | fail) <;> conv => whnf)
  (first | refine callK_r (EvR.fr [_] c1 rfl rfl ⟨rfl, trivial⟩ rfl) ?_ | refine callM_l (LEv.fr [_] c1 rfl rfl ⟨rfl, trivial⟩ rfl rfl) ?_ | refine callK_rt (EvR.fr [_] c1 rfl rfl ⟨rfl, trivial⟩ rfl) ?_ | refine callK_rf rfl (EvR.fr [_] c1 rfl rfl ⟨rfl, trivial⟩ rfl) ?_ | refine callK_rft rfl (EvR.fr [_] c1 rfl rfl ⟨rfl, trivial⟩ rfl) ?_)
  conv => whnf
  repeat' ((first | refine brP_t (by assumption) ?_ | refine brP_f (by assumption) ?_ | refine brP_t (decide_eq_true (by omega)) ?_ | refine brP_f (decide_eq_false (by omega)) ?_ | refine brP_t (nd_t (by omega)) ?_ | refine brP_f (nd_f (by omega)) ?_ | refine wpfS_seq1 ?_ | refine wpfS_go ?_ | fail) <;> conv => whnf)
  (first | refine callK_r (EvR.fr [_] c2 rfl rfl ⟨rfl, trivial⟩ rfl) ?_ | refine callM_l (LEv.fr [_] c2 rfl rfl ⟨rfl, trivial⟩ rfl rfl) ?_ | refine callK_rt (EvR.fr [_] c2 rfl rfl ⟨rfl, trivial⟩ rfl) ?_ | refine callK_rf rfl (EvR.fr [_] c2 rfl rfl ⟨rfl, trivial⟩ rfl) ?_ | refine callK_rft rfl (EvR.fr [_] c2 rfl rfl ⟨rfl, trivial⟩ rfl) ?_)
  conv => whnf
  repeat' ((first | refine brP_t (by assumption) ?_ | refine brP_f (by assumption) ?_ | refine brP_t (decide_eq_true (by omega)) ?_ | refine brP_f (decide_eq_false (by omega)) ?_ | refine brP_t (nd_t (by omega)) ?_ | refine brP_f (nd_f (by omega)) ?_ | refine wpfS_seq1 ?_ | refine wpfS_go ?_ | fail) <;> conv => whnf)
  (first | refine callK_r (EvR.fr [_] c3 rfl rfl ⟨rfl, trivial⟩ rfl) ?_ | refine callM_l (LEv.fr [_] c3 rfl rfl ⟨rfl, trivial⟩ rfl rfl) ?_ | refine callK_rt (EvR.fr [_] c3 rfl rfl ⟨rfl, trivial⟩ rfl) ?_ | refine callK_rf rfl (EvR.fr [_] c3 rfl rfl ⟨rfl, trivial⟩ rfl) ?_ | refine callK_rft rfl (EvR.fr [_] c3 rfl rfl ⟨rfl, trivial⟩ rfl) ?_)
  conv => whnf
  repeat' ((first | refine brP_t (by assumption) ?_ | refine brP_f (by assumption) ?_ | refine brP_t (decide_eq_true (by omega)) ?_ | refine brP_f (decide_eq_false (by omega)) ?_ | refine brP_t (nd_t (by omega)) ?_ | refine brP_f (nd_f (by omega)) ?_ | refine wpfS_seq1 ?_ | refine wpfS_go ?_ | fail) <;> conv => whnf)
  (first | refine callK_r (EvR.fr [_] c4 rfl rfl ⟨rfl, trivial⟩ rfl) ?_ | refine callM_l (LEv.fr [_] c4 rfl rfl ⟨rfl, trivial⟩ rfl rfl) ?_ | refine callK_rt (EvR.fr [_] c4 rfl rfl ⟨rfl, trivial⟩ rfl) ?_ | refine callK_rf rfl (EvR.fr [_] c4 rfl rfl ⟨rfl, trivial⟩ rfl) ?_ | refine callK_rft rfl (EvR.fr [_] c4 rfl rfl ⟨rfl, trivial⟩ rfl) ?_)
  conv => whnf
  repeat' ((first | refine brP_t (by assumption) ?_ | refine brP_f (by assumption) ?_ | refine brP_t (decide_eq_true (by omega)) ?_ | refine brP_f (decide_eq_false (by omega)) ?_ | refine brP_t (nd_t (by omega)) ?_ | refine brP_f (nd_f (by omega)) ?_ | refine wpfS_seq1 ?_ | refine wpfS_go ?_ | fail) <;> conv => whnf)
  (first | refine callK_r (EvR.fr [_] c5 rfl rfl ⟨rfl, trivial⟩ rfl) ?_ | refine callM_l (LEv.fr [_] c5 rfl rfl ⟨rfl, trivial⟩ rfl rfl) ?_ | refine callK_rt (EvR.fr [_] c5 rfl rfl ⟨rfl, trivial⟩ rfl) ?_ | refine callK_rf rfl (EvR.fr [_] c5 rfl rfl ⟨rfl, trivial⟩ rfl) ?_ | refine callK_rft rfl (EvR.fr [_] c5 rfl rfl ⟨rfl, trivial⟩ rfl) ?_)
  conv => whnf
  repeat' ((first | refine brP_t (by assumption) ?_ | refine brP_f (by assumption) ?_ | refine brP_t (decide_eq_true (by omega)) ?_ | refine brP_f (decide_eq_false (by omega)) ?_ | refine brP_t (nd_t (by omega)) ?_ | refine brP_f (nd_f (by omega)) ?_ | refine wpfS_seq1 ?_ | refine wpfS_go ?_ | fail) <;> conv => whnf)
  (first | refine callK_r (EvR.fr [_] c6 rfl rfl ⟨rfl, trivial⟩ rfl) ?_ | refine callM_l (LEv.fr [_] c6 rfl rfl ⟨rfl, trivial⟩ rfl rfl) ?_ | refine callK_rt (EvR.fr [_] c6 rfl rfl ⟨rfl, trivial⟩ rfl) ?_ | refine callK_rf rfl (EvR.fr [_] c6 rfl rfl ⟨rfl, trivial⟩ rfl) ?_ | refine callK_rft rfl (EvR.fr [_] c6 rfl rfl ⟨rfl, trivial⟩ rfl) ?_)
  conv => whnf
  repeat' ((first | refine brP_t (by assumption) ?_ | refine brP_f (by assumption) ?_ | refine brP_t (decide_eq_true (by omega)) ?_ | refine brP_f (decide_eq_false (by omega)) ?_ | refine brP_t (nd_t (by omega)) ?_ | refine brP_f (nd_f (by omega)) ?_ | refine wpfS_seq1 ?_ | refine wpfS_go ?_ | fail) <;> conv => whnf)
  (first | refine callK_p c7 ?_ | refine callM_p c7 rfl ?_ | refine callK_pf rfl c7 ?_ | refine callK_pk rfl c7 ?_)
  conv => whnf
  repeat' ((first | refine brP_t (by assumption) ?_ | refine brP_f (by assumption) ?_ | refine brP_t (decide_eq_true (by omega)) ?_ | refine brP_f (decide_eq_false (by omega)) ?_ | refine brP_t (nd_t (by omega)) ?_ | refine brP_f (nd_f (by omega)) ?_ | refine wpfS_seq1 ?_ | refine wpfS_go ?_ | fail) <;> conv => whnf)
  by_cases hk : d2 = 2
  · rw [show Ob.rdB true d2 s9 = (bx, s10) by unfold Ob.rdB; rw [if_pos hk, ← hx1, ← hx2]]
    dsimp only
    unfold Ob.chk
    dsimp only
    have c9 := pr_err s10
    have cb := pr_fail s10 3
    have cc := pr_err (s10.fail 3)
    obtain ⟨e, b⟩ := s10
    repeat' ((first | refine brP_t (by assumption) ?_ | refine brP_f (by assumption) ?_ | refine brP_t (decide_eq_true (by omega)) ?_ | refine brP_f (decide_eq_false (by omega)) ?_ | refine brP_t (nd_t (by omega)) ?_ | refine brP_f (nd_f (by omega)) ?_ | refine wpfS_seq1 ?_ | refine wpfS_go ?_ | fail) <;> conv => whnf)
    (first | refine callK_r (EvR.fr [_] c8 rfl rfl ⟨rfl, trivial⟩ rfl) ?_ | refine callM_l (LEv.fr [_] c8 rfl rfl ⟨rfl, trivial⟩ rfl rfl) ?_ | refine callK_rt (EvR.fr [_] c8 rfl rfl ⟨rfl, trivial⟩ rfl) ?_ | refine callK_rf rfl (EvR.fr [_] c8 rfl rfl ⟨rfl, trivial⟩ rfl) ?_ | refine callK_rft rfl (EvR.fr [_] c8 rfl rfl ⟨rfl, trivial⟩ rfl) ?_)
    conv => whnf
    repeat' ((first | refine brP_t (by assumption) ?_ | refine brP_f (by assumption) ?_ | refine brP_t (decide_eq_true (by omega)) ?_ | refine brP_f (decide_eq_false (by omega)) ?_ | refine brP_t (nd_t (by omega)) ?_ | refine brP_f (nd_f (by omega)) ?_ | refine wpfS_seq1 ?_ | refine wpfS_go ?_ | fail) <;> conv => whnf)
    (first | refine callK_r (EvR.fr [_] c9 rfl rfl ⟨rfl, trivial⟩ rfl) ?_ | refine callM_l (LEv.fr [_] c9 rfl rfl ⟨rfl, trivial⟩ rfl rfl) ?_ | refine callK_rt (EvR.fr [_] c9 rfl rfl ⟨rfl, trivial⟩ rfl) ?_ | refine callK_rf rfl (EvR.fr [_] c9 rfl rfl ⟨rfl, trivial⟩ rfl) ?_ | refine callK_rft rfl (EvR.fr [_] c9 rfl rfl ⟨rfl, trivial⟩ rfl) ?_)
    conv => whnf
    repeat' ((first | refine brP_t (by assumption) ?_ | refine brP_f (by assumption) ?_ | refine brP_t (decide_eq_true (by omega)) ?_ | refine brP_f (decide_eq_false (by omega)) ?_ | refine brP_t (nd_t (by omega)) ?_ | refine brP_f (nd_f (by omega)) ?_ | refine wpfS_seq1 ?_ | refine wpfS_go ?_ | fail) <;> conv => whnf)
    by_cases he : e = 0
    · subst he
      rw [if_pos (show (St.mk 0 b).e = 0 from rfl)]
      have hff : St.fail ⟨0, b⟩ 3 = ⟨3, b⟩ := rfl
      rw [hff] at cb cc
      cases hf : (Ob.mk d0 d1 d2 d3 v1 v2 v3 (decide (v4.tmod 2 = 1)) v5 v6 v7 v8 (decide (1 < v4)) bx).fine with
      | true =>
        rw [hf] at ca
        rw [if_pos rfl]
        repeat' ((first | refine brP_t (by assumption) ?_ | refine brP_f (by assumption) ?_ | refine brP_t (decide_eq_true (by omega)) ?_ | refine brP_f (decide_eq_false (by omega)) ?_ | refine brP_t (nd_t (by omega)) ?_ | refine brP_f (nd_f (by omega)) ?_ | refine wpfS_seq1 ?_ | refine wpfS_go ?_ | fail) <;> conv => whnf)
        (first | refine callK_p ca ?_ | refine callM_p ca rfl ?_ | refine callK_pf rfl ca ?_ | refine callK_pk rfl ca ?_)
        conv => whnf
        repeat' ((first | refine brP_t (by assumption) ?_ | refine brP_f (by assumption) ?_ | refine brP_t (decide_eq_true (by omega)) ?_ | refine brP_f (decide_eq_false (by omega)) ?_ | refine brP_t (nd_t (by omega)) ?_ | refine brP_f (nd_f (by omega)) ?_ | refine wpfS_seq1 ?_ | refine wpfS_go ?_ | fail) <;> conv => whnf)
        (first | refine callK_r (EvR.fr [_] c9 rfl rfl ⟨rfl, trivial⟩ rfl) ?_ | refine callM_l (LEv.fr [_] c9 rfl rfl ⟨rfl, trivial⟩ rfl rfl) ?_ | refine callK_rt (EvR.fr [_] c9 rfl rfl ⟨rfl, trivial⟩ rfl) ?_ | refine callK_rf rfl (EvR.fr [_] c9 rfl rfl ⟨rfl, trivial⟩ rfl) ?_ | refine callK_rft rfl (EvR.fr [_] c9 rfl rfl ⟨rfl, trivial⟩ rfl) ?_)
        conv => whnf
        repeat' ((first | refine brP_t (by assumption) ?_ | refine brP_f (by assumption) ?_ | refine brP_t (decide_eq_true (by omega)) ?_ | refine brP_f (decide_eq_false (by omega)) ?_ | refine brP_t (nd_t (by omega)) ?_ | refine brP_f (nd_f (by omega)) ?_ | refine wpfS_seq1 ?_ | refine wpfS_go ?_ | fail) <;> conv => whnf)
        exact ⟨rfl, rfl⟩
      | false =>
        rw [hf] at ca
        rw [if_neg (by decide)]
        repeat' ((first | refine brP_t (by assumption) ?_ | refine brP_f (by assumption) ?_ | refine brP_t (decide_eq_true (by omega)) ?_ | refine brP_f (decide_eq_false (by omega)) ?_ | refine brP_t (nd_t (by omega)) ?_ | refine brP_f (nd_f (by omega)) ?_ | refine wpfS_seq1 ?_ | refine wpfS_go ?_ | fail) <;> conv => whnf)
        (first | refine callK_p ca ?_ | refine callM_p ca rfl ?_ | refine callK_pf rfl ca ?_ | refine callK_pk rfl ca ?_)
        conv => whnf
        repeat' ((first | refine brP_t (by assumption) ?_ | refine brP_f (by assumption) ?_ | refine brP_t (decide_eq_true (by omega)) ?_ | refine brP_f (decide_eq_false (by omega)) ?_ | refine brP_t (nd_t (by omega)) ?_ | refine brP_f (nd_f (by omega)) ?_ | refine wpfS_seq1 ?_ | refine wpfS_go ?_ | fail) <;> conv => whnf)
        (first | refine callK_r (EvR.fr [_] cb rfl rfl ⟨rfl, trivial⟩ rfl) ?_ | refine callM_l (LEv.fr [_] cb rfl rfl ⟨rfl, trivial⟩ rfl rfl) ?_ | refine callK_rt (EvR.fr [_] cb rfl rfl ⟨rfl, trivial⟩ rfl) ?_ | refine callK_rf rfl (EvR.fr [_] cb rfl rfl ⟨rfl, trivial⟩ rfl) ?_ | refine callK_rft rfl (EvR.fr [_] cb rfl rfl ⟨rfl, trivial⟩ rfl) ?_)
        conv => whnf
        repeat' ((first | refine brP_t (by assumption) ?_ | refine brP_f (by assumption) ?_ | refine brP_t (decide_eq_true (by omega)) ?_ | refine brP_f (decide_eq_false (by omega)) ?_ | refine brP_t (nd_t (by omega)) ?_ | refine brP_f (nd_f (by omega)) ?_ | refine wpfS_seq1 ?_ | refine wpfS_go ?_ | fail) <;> conv => whnf)
        (first | refine callK_r (EvR.fr [_] cc rfl rfl ⟨rfl, trivial⟩ rfl) ?_ | refine callM_l (LEv.fr [_] cc rfl rfl ⟨rfl, trivial⟩ rfl rfl) ?_ | refine callK_rt (EvR.fr [_] cc rfl rfl ⟨rfl, trivial⟩ rfl) ?_ | refine callK_rf rfl (EvR.fr [_] cc rfl rfl ⟨rfl, trivial⟩ rfl) ?_ | refine callK_rft rfl (EvR.fr [_] cc rfl rfl ⟨rfl, trivial⟩ rfl) ?_)
        conv => whnf
        repeat' ((first | refine brP_t (by assumption) ?_ | refine brP_f (by assumption) ?_ | refine brP_t (decide_eq_true (by omega)) ?_ | refine brP_f (decide_eq_false (by omega)) ?_ | refine brP_t (nd_t (by omega)) ?_ | refine brP_f (nd_f (by omega)) ?_ | refine wpfS_seq1 ?_ | refine wpfS_go ?_ | fail) <;> conv => whnf)
        exact ⟨rfl, rfl⟩
    · rw [if_neg (show ¬ (St.mk e b).e = 0 from he)]
      repeat' ((first | refine brP_t (by assumption) ?_ | refine brP_f (by assumption) ?_ | refine brP_t (decide_eq_true (by omega)) ?_ | refine brP_f (decide_eq_false (by omega)) ?_ | refine brP_t (nd_t (by omega)) ?_ | refine brP_f (nd_f (by omega)) ?_ | refine wpfS_seq1 ?_ | refine wpfS_go ?_ | fail) <;> conv => whnf)
      (first | refine callK_r (EvR.fr [_] c9 rfl rfl ⟨rfl, trivial⟩ rfl) ?_ | refine callM_l (LEv.fr [_] c9 rfl rfl ⟨rfl, trivial⟩ rfl rfl) ?_ | refine callK_rt (EvR.fr [_] c9 rfl rfl ⟨rfl, trivial⟩ rfl) ?_ | refine callK_rf rfl (EvR.fr [_] c9 rfl rfl ⟨rfl, trivial⟩ rfl) ?_ | refine callK_rft rfl (EvR.fr [_] c9 rfl rfl ⟨rfl, trivial⟩ rfl) ?_)
      conv => whnf
      repeat' ((first | refine brP_t (by assumption) ?_ | refine brP_f (by assumption) ?_ | refine brP_t (decide_eq_true (by omega)) ?_ | refine brP_f (decide_eq_false (by omega)) ?_ | refine brP_t (nd_t (by omega)) ?_ | refine brP_f (nd_f (by omega)) ?_ | refine wpfS_seq1 ?_ | refine wpfS_go ?_ | fail) <;> conv => whnf)
      exact ⟨rfl, rfl⟩
  · rw [show Ob.rdB true d2 s9 = (Bx.emp, s9) from if_neg hk]
    dsimp only
    unfold Ob.chk
    dsimp only
    have c9 := pr_err s9
    have cb := pr_fail s9 3
    have cc := pr_err (s9.fail 3)
    obtain ⟨e, b⟩ := s9
    repeat' ((first | refine brP_t (by assumption) ?_ | refine brP_f (by assumption) ?_ | refine brP_t (decide_eq_true (by omega)) ?_ | refine brP_f (decide_eq_false (by omega)) ?_ | refine brP_t (nd_t (by omega)) ?_ | refine brP_f (nd_f (by omega)) ?_ | refine wpfS_seq1 ?_ | refine wpfS_go ?_ | fail) <;> conv => whnf)
    (first | refine callK_r (EvR.fr [_] c9 rfl rfl ⟨rfl, trivial⟩ rfl) ?_ | refine callM_l (LEv.fr [_] c9 rfl rfl ⟨rfl, trivial⟩ rfl rfl) ?_ | refine callK_rt (EvR.fr [_] c9 rfl rfl ⟨rfl, trivial⟩ rfl) ?_ | refine callK_rf rfl (EvR.fr [_] c9 rfl rfl ⟨rfl, trivial⟩ rfl) ?_ | refine callK_rft rfl (EvR.fr [_] c9 rfl rfl ⟨rfl, trivial⟩ rfl) ?_)
    conv => whnf
    repeat' ((first | refine brP_t (by assumption) ?_ | refine brP_f (by assumption) ?_ | refine brP_t (decide_eq_true (by omega)) ?_ | refine brP_f (decide_eq_false (by omega)) ?_ | refine brP_t (nd_t (by omega)) ?_ | refine brP_f (nd_f (by omega)) ?_ | refine wpfS_seq1 ?_ | refine wpfS_go ?_ | fail) <;> conv => whnf)
    by_cases he : e = 0
    · subst he
      rw [if_pos (show (St.mk 0 b).e = 0 from rfl)]
      have hff : St.fail ⟨0, b⟩ 3 = ⟨3, b⟩ := rfl
      rw [hff] at cb cc
      cases hf : (Ob.mk d0 d1 d2 d3 v1 v2 v3 (decide (v4.tmod 2 = 1)) v5 v6 v7 v8 (decide (1 < v4)) Bx.emp).fine with
      | true =>
        rw [hf] at ca'
        rw [if_pos rfl]
        repeat' ((first | refine brP_t (by assumption) ?_ | refine brP_f (by assumption) ?_ | refine brP_t (decide_eq_true (by omega)) ?_ | refine brP_f (decide_eq_false (by omega)) ?_ | refine brP_t (nd_t (by omega)) ?_ | refine brP_f (nd_f (by omega)) ?_ | refine wpfS_seq1 ?_ | refine wpfS_go ?_ | fail) <;> conv => whnf)
        (first | refine callK_p ca' ?_ | refine callM_p ca' rfl ?_ | refine callK_pf rfl ca' ?_ | refine callK_pk rfl ca' ?_)
        conv => whnf
        repeat' ((first | refine brP_t (by assumption) ?_ | refine brP_f (by assumption) ?_ | refine brP_t (decide_eq_true (by omega)) ?_ | refine brP_f (decide_eq_false (by omega)) ?_ | refine brP_t (nd_t (by omega)) ?_ | refine brP_f (nd_f (by omega)) ?_ | refine wpfS_seq1 ?_ | refine wpfS_go ?_ | fail) <;> conv => whnf)
        (first | refine callK_r (EvR.fr [_] c9 rfl rfl ⟨rfl, trivial⟩ rfl) ?_ | refine callM_l (LEv.fr [_] c9 rfl rfl ⟨rfl, trivial⟩ rfl rfl) ?_ | refine callK_rt (EvR.fr [_] c9 rfl rfl ⟨rfl, trivial⟩ rfl) ?_ | refine callK_rf rfl (EvR.fr [_] c9 rfl rfl ⟨rfl, trivial⟩ rfl) ?_ | refine callK_rft rfl (EvR.fr [_] c9 rfl rfl ⟨rfl, trivial⟩ rfl) ?_)
        conv => whnf
        repeat' ((first | refine brP_t (by assumption) ?_ | refine brP_f (by assumption) ?_ | refine brP_t (decide_eq_true (by omega)) ?_ | refine brP_f (decide_eq_false (by omega)) ?_ | refine brP_t (nd_t (by omega)) ?_ | refine brP_f (nd_f (by omega)) ?_ | refine wpfS_seq1 ?_ | refine wpfS_go ?_ | fail) <;> conv => whnf)
        exact ⟨rfl, rfl⟩
      | false =>
        rw [hf] at ca'
        rw [if_neg (by decide)]
        repeat' ((first | refine brP_t (by assumption) ?_ | refine brP_f (by assumption) ?_ | refine brP_t (decide_eq_true (by omega)) ?_ | refine brP_f (decide_eq_false (by omega)) ?_ | refine brP_t (nd_t (by omega)) ?_ | refine brP_f (nd_f (by omega)) ?_ | refine wpfS_seq1 ?_ | refine wpfS_go ?_ | fail) <;> conv => whnf)
        (first | refine callK_p ca' ?_ | refine callM_p ca' rfl ?_ | refine callK_pf rfl ca' ?_ | refine callK_pk rfl ca' ?_)
        conv => whnf
        repeat' ((first | refine brP_t (by assumption) ?_ | refine brP_f (by assumption) ?_ | refine brP_t (decide_eq_true (by omega)) ?_ | refine brP_f (decide_eq_false (by omega)) ?_ | refine brP_t (nd_t (by omega)) ?_ | refine brP_f (nd_f (by omega)) ?_ | refine wpfS_seq1 ?_ | refine wpfS_go ?_ | fail) <;> conv => whnf)
        (first | refine callK_r (EvR.fr [_] cb rfl rfl ⟨rfl, trivial⟩ rfl) ?_ | refine callM_l (LEv.fr [_] cb rfl rfl ⟨rfl, trivial⟩ rfl rfl) ?_ | refine callK_rt (EvR.fr [_] cb rfl rfl ⟨rfl, trivial⟩ rfl) ?_ | refine callK_rf rfl (EvR.fr [_] cb rfl rfl ⟨rfl, trivial⟩ rfl) ?_ | refine callK_rft rfl (EvR.fr [_] cb rfl rfl ⟨rfl, trivial⟩ rfl) ?_)
        conv => whnf
        repeat' ((first | refine brP_t (by assumption) ?_ | refine brP_f (by assumption) ?_ | refine brP_t (decide_eq_true (by omega)) ?_ | refine brP_f (decide_eq_false (by omega)) ?_ | refine brP_t (nd_t (by omega)) ?_ | refine brP_f (nd_f (by omega)) ?_ | refine wpfS_seq1 ?_ | refine wpfS_go ?_ | fail) <;> conv => whnf)
        (first | refine callK_r (EvR.fr [_] cc rfl rfl ⟨rfl, trivial⟩ rfl) ?_ | refine callM_l (LEv.fr [_] cc rfl rfl ⟨rfl, trivial⟩ rfl rfl) ?_ | refine callK_rt (EvR.fr [_] cc rfl rfl ⟨rfl, trivial⟩ rfl) ?_ | refine callK_rf rfl (EvR.fr [_] cc rfl rfl ⟨rfl, trivial⟩ rfl) ?_ | refine callK_rft rfl (EvR.fr [_] cc rfl rfl ⟨rfl, trivial⟩ rfl) ?_)
        conv => whnf
        repeat' ((first | refine brP_t (by assumption) ?_ | refine brP_f (by assumption) ?_ | refine brP_t (decide_eq_true (by omega)) ?_ | refine brP_f (decide_eq_false (by omega)) ?_ | refine brP_t (nd_t (by omega)) ?_ | refine brP_f (nd_f (by omega)) ?_ | refine wpfS_seq1 ?_ | refine wpfS_go ?_ | fail) <;> conv => whnf)
        exact ⟨rfl, rfl⟩
    · rw [if_neg (show ¬ (St.mk e b).e = 0 from he)]
      repeat' ((first | refine brP_t (by assumption) ?_ | refine brP_f (by assumption) ?_ | refine brP_t (decide_eq_true (by omega)) ?_ | refine brP_f (decide_eq_false (by omega)) ?_ | refine brP_t (nd_t (by omega)) ?_ | refine brP_f (nd_f (by omega)) ?_ | refine wpfS_seq1 ?_ | refine wpfS_go ?_ | fail) <;> conv => whnf)
      (first | refine callK_r (EvR.fr [_] c9 rfl rfl ⟨rfl, trivial⟩ rfl) ?_ | refine callM_l (LEv.fr [_] c9 rfl rfl ⟨rfl, trivial⟩ rfl rfl) ?_ | refine callK_rt (EvR.fr [_] c9 rfl rfl ⟨rfl, trivial⟩ rfl) ?_ | refine callK_rf rfl (EvR.fr [_] c9 rfl rfl ⟨rfl, trivial⟩ rfl) ?_ | refine callK_rft rfl (EvR.fr [_] c9 rfl rfl ⟨rfl, trivial⟩ rfl) ?_)
      conv => whnf
      repeat' ((first | refine brP_t (by assumption) ?_ | refine brP_f (by assumption) ?_ | refine brP_t (decide_eq_true (by omega)) ?_ | refine brP_f (decide_eq_false (by omega)) ?_ | refine brP_t (nd_t (by omega)) ?_ | refine brP_f (nd_f (by omega)) ?_ | refine wpfS_seq1 ?_ | refine wpfS_go ?_ | fail) <;> conv => whnf)
      exact ⟨rfl, rfl⟩
end Go.Ab.S
