/- Mailboxes read. No condition. Mailboxes written; what is written is read back; both readers alike. No condition. -/
import Derived.Test.YtmohadlgjokgmaaLM5
import Derived.Test.YtmohadlgjokgmaaLK13
set_option linter.unusedSimpArgs false
set_option linter.unusedVariables false
namespace Go.Ab.S
open Go Go.Ab Go.Proofs
attribute [local irreducible] SemS
set_option maxRecDepth 100000
/-- A mailbox, read: what was read, and the reader before the look at it. -/
def Bx.rd0 (keep : Bool) (s : St) : Bx × St :=
  let q := Msg.rdL keep (s.num keep 4 2147483647)
  let a := Msg.rdL keep q.2
  let h := Msg.rdL keep a.2
  (⟨s.nv 4 2147483647, q.1, a.1, h.1⟩, h.2)
/-- The look at what was read. -/
def Bx.chk (r : Bx × St) : Bx × St :=
  if r.2.e = 0 then (if r.1.fine then r else (Bx.emp, ⟨3, r.2.b⟩)) else (Bx.emp, r.2)
def Bx.rd (keep : Bool) (s : St) : Bx × St := Bx.chk (Bx.rd0 keep s)
set_option maxHeartbeats 2000000 in
theorem box_Read_ok (s : St) : EvR PR G f_box_Read [.c (.ptr (.par 0) 0)] ⟨s.pr, []⟩ (.agg (Bx.rd true s).1.row) ⟨(Bx.rd true s).2.pr, []⟩ := by
  unfold Bx.rd Bx.rd0
  dsimp only
  have c0 := pr_num s 4 2147483647 (by omega)
  generalize s.num true 4 2147483647 = s1 at *
  have c1 := message_Read_ok s1
  have l1 := Msg.rdL_len true s1
  generalize (Msg.rdL true s1).1 = q at *
  generalize (Msg.rdL true s1).2 = s2 at *
  have c2 := message_Read_ok s2
  have l2 := Msg.rdL_len true s2
  generalize (Msg.rdL true s2).1 = a at *
  generalize (Msg.rdL true s2).2 = s3 at *
  have c3 := message_Read_ok s3
  have l3 := Msg.rdL_len true s3
  generalize (Msg.rdL true s3).1 = h at *
  generalize (Msg.rdL true s3).2 = s4 at *
  generalize s.nv 4 2147483647 = n at *
  have c4 := pr_err s4
  have hlen : (Bx.mk n q a h).len = q.length + a.length + h.length := rfl
  have c5 := box_Fine_ok ⟨n, q, a, h⟩ (by omega)
  have c6 := pr_fail s4 3
  have c7 := pr_err (s4.fail 3)
  unfold Bx.chk
  dsimp only
  obtain ⟨e, b⟩ := s4
  by_cases he : e = 0
  · subst he
    rw [if_pos (show (St.mk 0 b).e = 0 from rfl)]
    have hff : St.fail ⟨0, b⟩ 3 = ⟨3, b⟩ := rfl
    rw [hff] at c6 c7
    cases hf : (Bx.mk n q a h).fine with
    | true =>
      rw [hf] at c5
      rw [if_pos rfl]
      refine EvR.of_wpfC false false hm c_box_Read rfl rfl ?_
      conv => whnf
      repeat' ((first | refine brP_t (by assumption) ?_ | refine brP_f (by assumption) ?_ | refine brP_t (decide_eq_true (by omega)) ?_ | refine brP_f (decide_eq_false (by omega)) ?_ | refine brP_t (nd_t (by omega)) ?_ | refine brP_f (nd_f (by omega)) ?_ | refine callK_r (EvR.fr [_] c0 rfl rfl ⟨rfl, trivial⟩ rfl) ?_ | refine callM_l (LEv.fr [_] c0 rfl rfl ⟨rfl, trivial⟩ rfl rfl) ?_ | refine callK_rt (EvR.fr [_] c0 rfl rfl ⟨rfl, trivial⟩ rfl) ?_ | refine callK_rf rfl (EvR.fr [_] c0 rfl rfl ⟨rfl, trivial⟩ rfl) ?_ | refine callK_rft rfl (EvR.fr [_] c0 rfl rfl ⟨rfl, trivial⟩ rfl) ?_ | refine callK_r (EvR.fr [_] c1 rfl rfl ⟨rfl, trivial⟩ rfl) ?_ | refine callM_l (LEv.fr [_] c1 rfl rfl ⟨rfl, trivial⟩ rfl rfl) ?_ | refine callK_rt (EvR.fr [_] c1 rfl rfl ⟨rfl, trivial⟩ rfl) ?_ | refine callK_rf rfl (EvR.fr [_] c1 rfl rfl ⟨rfl, trivial⟩ rfl) ?_ | refine callK_rft rfl (EvR.fr [_] c1 rfl rfl ⟨rfl, trivial⟩ rfl) ?_ | refine callK_r (EvR.fr [_] c2 rfl rfl ⟨rfl, trivial⟩ rfl) ?_ | refine callM_l (LEv.fr [_] c2 rfl rfl ⟨rfl, trivial⟩ rfl rfl) ?_ | refine callK_rt (EvR.fr [_] c2 rfl rfl ⟨rfl, trivial⟩ rfl) ?_ | refine callK_rf rfl (EvR.fr [_] c2 rfl rfl ⟨rfl, trivial⟩ rfl) ?_ | refine callK_rft rfl (EvR.fr [_] c2 rfl rfl ⟨rfl, trivial⟩ rfl) ?_ | refine callK_r (EvR.fr [_] c3 rfl rfl ⟨rfl, trivial⟩ rfl) ?_ | refine callM_l (LEv.fr [_] c3 rfl rfl ⟨rfl, trivial⟩ rfl rfl) ?_ | refine callK_rt (EvR.fr [_] c3 rfl rfl ⟨rfl, trivial⟩ rfl) ?_ | refine callK_rf rfl (EvR.fr [_] c3 rfl rfl ⟨rfl, trivial⟩ rfl) ?_ | refine callK_rft rfl (EvR.fr [_] c3 rfl rfl ⟨rfl, trivial⟩ rfl) ?_ | refine callK_r (EvR.fr [_] c4 rfl rfl ⟨rfl, trivial⟩ rfl) ?_ | refine callM_l (LEv.fr [_] c4 rfl rfl ⟨rfl, trivial⟩ rfl rfl) ?_ | refine callK_rt (EvR.fr [_] c4 rfl rfl ⟨rfl, trivial⟩ rfl) ?_ | refine callK_rf rfl (EvR.fr [_] c4 rfl rfl ⟨rfl, trivial⟩ rfl) ?_ | refine callK_rft rfl (EvR.fr [_] c4 rfl rfl ⟨rfl, trivial⟩ rfl) ?_ | refine callK_p c5 ?_ | refine callM_p c5 rfl ?_ | refine callK_pf rfl c5 ?_ | refine callK_pk rfl c5 ?_ | refine wpfS_seq1 ?_ | refine wpfS_go ?_ | fail) <;> conv => whnf)
      exact ⟨rfl, rfl⟩
    | false =>
      rw [hf] at c5
      rw [if_neg (by decide)]
      refine EvR.frz (v := .mg [.p (.int .i64 0), .nils, .nils, .nils]) ?_ rfl
      refine EvR.of_wpfC false false hm c_box_Read rfl rfl ?_
      conv => whnf
      repeat' ((first | refine brP_t (by assumption) ?_ | refine brP_f (by assumption) ?_ | refine brP_t (decide_eq_true (by omega)) ?_ | refine brP_f (decide_eq_false (by omega)) ?_ | refine brP_t (nd_t (by omega)) ?_ | refine brP_f (nd_f (by omega)) ?_ | refine callK_r (EvR.fr [_] c0 rfl rfl ⟨rfl, trivial⟩ rfl) ?_ | refine callM_l (LEv.fr [_] c0 rfl rfl ⟨rfl, trivial⟩ rfl rfl) ?_ | refine callK_rt (EvR.fr [_] c0 rfl rfl ⟨rfl, trivial⟩ rfl) ?_ | refine callK_rf rfl (EvR.fr [_] c0 rfl rfl ⟨rfl, trivial⟩ rfl) ?_ | refine callK_rft rfl (EvR.fr [_] c0 rfl rfl ⟨rfl, trivial⟩ rfl) ?_ | refine callK_r (EvR.fr [_] c1 rfl rfl ⟨rfl, trivial⟩ rfl) ?_ | refine callM_l (LEv.fr [_] c1 rfl rfl ⟨rfl, trivial⟩ rfl rfl) ?_ | refine callK_rt (EvR.fr [_] c1 rfl rfl ⟨rfl, trivial⟩ rfl) ?_ | refine callK_rf rfl (EvR.fr [_] c1 rfl rfl ⟨rfl, trivial⟩ rfl) ?_ | refine callK_rft rfl (EvR.fr [_] c1 rfl rfl ⟨rfl, trivial⟩ rfl) ?_ | refine callK_r (EvR.fr [_] c2 rfl rfl ⟨rfl, trivial⟩ rfl) ?_ | refine callM_l (LEv.fr [_] c2 rfl rfl ⟨rfl, trivial⟩ rfl rfl) ?_ | refine callK_rt (EvR.fr [_] c2 rfl rfl ⟨rfl, trivial⟩ rfl) ?_ | refine callK_rf rfl (EvR.fr [_] c2 rfl rfl ⟨rfl, trivial⟩ rfl) ?_ | refine callK_rft rfl (EvR.fr [_] c2 rfl rfl ⟨rfl, trivial⟩ rfl) ?_ | refine callK_r (EvR.fr [_] c3 rfl rfl ⟨rfl, trivial⟩ rfl) ?_ | refine callM_l (LEv.fr [_] c3 rfl rfl ⟨rfl, trivial⟩ rfl rfl) ?_ | refine callK_rt (EvR.fr [_] c3 rfl rfl ⟨rfl, trivial⟩ rfl) ?_ | refine callK_rf rfl (EvR.fr [_] c3 rfl rfl ⟨rfl, trivial⟩ rfl) ?_ | refine callK_rft rfl (EvR.fr [_] c3 rfl rfl ⟨rfl, trivial⟩ rfl) ?_ | refine callK_r (EvR.fr [_] c4 rfl rfl ⟨rfl, trivial⟩ rfl) ?_ | refine callM_l (LEv.fr [_] c4 rfl rfl ⟨rfl, trivial⟩ rfl rfl) ?_ | refine callK_rt (EvR.fr [_] c4 rfl rfl ⟨rfl, trivial⟩ rfl) ?_ | refine callK_rf rfl (EvR.fr [_] c4 rfl rfl ⟨rfl, trivial⟩ rfl) ?_ | refine callK_rft rfl (EvR.fr [_] c4 rfl rfl ⟨rfl, trivial⟩ rfl) ?_ | refine callK_p c5 ?_ | refine callM_p c5 rfl ?_ | refine callK_pf rfl c5 ?_ | refine callK_pk rfl c5 ?_ | refine callK_r (EvR.fr [_] c6 rfl rfl ⟨rfl, trivial⟩ rfl) ?_ | refine callM_l (LEv.fr [_] c6 rfl rfl ⟨rfl, trivial⟩ rfl rfl) ?_ | refine callK_rt (EvR.fr [_] c6 rfl rfl ⟨rfl, trivial⟩ rfl) ?_ | refine callK_rf rfl (EvR.fr [_] c6 rfl rfl ⟨rfl, trivial⟩ rfl) ?_ | refine callK_rft rfl (EvR.fr [_] c6 rfl rfl ⟨rfl, trivial⟩ rfl) ?_ | refine callK_r (EvR.fr [_] c7 rfl rfl ⟨rfl, trivial⟩ rfl) ?_ | refine callM_l (LEv.fr [_] c7 rfl rfl ⟨rfl, trivial⟩ rfl rfl) ?_ | refine callK_rt (EvR.fr [_] c7 rfl rfl ⟨rfl, trivial⟩ rfl) ?_ | refine callK_rf rfl (EvR.fr [_] c7 rfl rfl ⟨rfl, trivial⟩ rfl) ?_ | refine callK_rft rfl (EvR.fr [_] c7 rfl rfl ⟨rfl, trivial⟩ rfl) ?_ | refine wpfS_seq1 ?_ | refine wpfS_go ?_ | fail) <;> conv => whnf)
      exact ⟨rfl, rfl⟩
  · rw [if_neg (show ¬ (St.mk e b).e = 0 from he)]
    refine EvR.frz (v := .mg [.p (.int .i64 0), .nils, .nils, .nils]) ?_ rfl
    refine EvR.of_wpfC false false hm c_box_Read rfl rfl ?_
    conv => whnf
    repeat' ((first | refine brP_t (by assumption) ?_ | refine brP_f (by assumption) ?_ | refine brP_t (decide_eq_true (by omega)) ?_ | refine brP_f (decide_eq_false (by omega)) ?_ | refine brP_t (nd_t (by omega)) ?_ | refine brP_f (nd_f (by omega)) ?_ | refine callK_r (EvR.fr [_] c0 rfl rfl ⟨rfl, trivial⟩ rfl) ?_ | refine callM_l (LEv.fr [_] c0 rfl rfl ⟨rfl, trivial⟩ rfl rfl) ?_ | refine callK_rt (EvR.fr [_] c0 rfl rfl ⟨rfl, trivial⟩ rfl) ?_ | refine callK_rf rfl (EvR.fr [_] c0 rfl rfl ⟨rfl, trivial⟩ rfl) ?_ | refine callK_rft rfl (EvR.fr [_] c0 rfl rfl ⟨rfl, trivial⟩ rfl) ?_ | refine callK_r (EvR.fr [_] c1 rfl rfl ⟨rfl, trivial⟩ rfl) ?_ | refine callM_l (LEv.fr [_] c1 rfl rfl ⟨rfl, trivial⟩ rfl rfl) ?_ | refine callK_rt (EvR.fr [_] c1 rfl rfl ⟨rfl, trivial⟩ rfl) ?_ | refine callK_rf rfl (EvR.fr [_] c1 rfl rfl ⟨rfl, trivial⟩ rfl) ?_ | refine callK_rft rfl (EvR.fr [_] c1 rfl rfl ⟨rfl, trivial⟩ rfl) ?_ | refine callK_r (EvR.fr [_] c2 rfl rfl ⟨rfl, trivial⟩ rfl) ?_ | refine callM_l (LEv.fr [_] c2 rfl rfl ⟨rfl, trivial⟩ rfl rfl) ?_ | refine callK_rt (EvR.fr [_] c2 rfl rfl ⟨rfl, trivial⟩ rfl) ?_ | refine callK_rf rfl (EvR.fr [_] c2 rfl rfl ⟨rfl, trivial⟩ rfl) ?_ | refine callK_rft rfl (EvR.fr [_] c2 rfl rfl ⟨rfl, trivial⟩ rfl) ?_ | refine callK_r (EvR.fr [_] c3 rfl rfl ⟨rfl, trivial⟩ rfl) ?_ | refine callM_l (LEv.fr [_] c3 rfl rfl ⟨rfl, trivial⟩ rfl rfl) ?_ | refine callK_rt (EvR.fr [_] c3 rfl rfl ⟨rfl, trivial⟩ rfl) ?_ | refine callK_rf rfl (EvR.fr [_] c3 rfl rfl ⟨rfl, trivial⟩ rfl) ?_ | refine callK_rft rfl (EvR.fr [_] c3 rfl rfl ⟨rfl, trivial⟩ rfl) ?_ | refine callK_r (EvR.fr [_] c4 rfl rfl ⟨rfl, trivial⟩ rfl) ?_ | refine callM_l (LEv.fr [_] c4 rfl rfl ⟨rfl, trivial⟩ rfl rfl) ?_ | refine callK_rt (EvR.fr [_] c4 rfl rfl ⟨rfl, trivial⟩ rfl) ?_ | refine callK_rf rfl (EvR.fr [_] c4 rfl rfl ⟨rfl, trivial⟩ rfl) ?_ | refine callK_rft rfl (EvR.fr [_] c4 rfl rfl ⟨rfl, trivial⟩ rfl) ?_ | refine wpfS_seq1 ?_ | refine wpfS_go ?_ | fail) <;> conv => whnf)
    exact ⟨rfl, rfl⟩
theorem Msg.rdL_sufx {B : List UInt8} {s : St} (h : Suf B s.b) : Suf B (Msg.rdL false s).2.b := Msg.rdL_suf h
set_option maxHeartbeats 2000000 in
theorem R23_Read_ok (B : List UInt8) (hB : B.length < 2 ^ 40) (s : St) (hs : Suf B s.b) : EvR PR G f_R23_Read [.c (.ptr (.par 0) 0)] ⟨s.px B, []⟩ (.agg (Bx.rd false s).1.row) ⟨(Bx.rd false s).2.px B, []⟩ := by
  unfold Bx.rd Bx.rd0
  dsimp only
  have c0 := px_num hs (by omega) 4 2147483647
  have s1' := hs.num false 4 2147483647
  generalize s.num false 4 2147483647 = s1 at *
  have c1 := R22_Read_ok B hB s1 s1'
  have l1 := Msg.rdL_len false s1
  have s2' := Msg.rdL_sufx s1'
  generalize (Msg.rdL false s1).1 = q at *
  generalize (Msg.rdL false s1).2 = s2 at *
  have c2 := R22_Read_ok B hB s2 s2'
  have l2 := Msg.rdL_len false s2
  have s3' := Msg.rdL_sufx s2'
  generalize (Msg.rdL false s2).1 = a at *
  generalize (Msg.rdL false s2).2 = s3 at *
  have c3 := R22_Read_ok B hB s3 s3'
  have l3 := Msg.rdL_len false s3
  generalize (Msg.rdL false s3).1 = h at *
  generalize (Msg.rdL false s3).2 = s4 at *
  generalize s.nv 4 2147483647 = n at *
  have hlen : (Bx.mk n q a h).len = q.length + a.length + h.length := rfl
  have c5 := R23_Fine_ok ⟨n, q, a, h⟩ (by omega)
  unfold Bx.chk
  dsimp only
  obtain ⟨e, b⟩ := s4
  by_cases he : e = 0
  · subst he
    rw [if_pos (show (St.mk 0 b).e = 0 from rfl)]
    cases hf : (Bx.mk n q a h).fine with
    | true =>
      rw [hf] at c5
      rw [if_pos rfl]
      refine EvR.of_wpfC false false hm c_R23_Read rfl rfl ?_
      conv => whnf
      repeat' ((first | refine brP_t (by assumption) ?_ | refine brP_f (by assumption) ?_ | refine brP_t (decide_eq_true (by omega)) ?_ | refine brP_f (decide_eq_false (by omega)) ?_ | refine brP_t (nd_t (by omega)) ?_ | refine brP_f (nd_f (by omega)) ?_ | refine callK_r (EvR.fr [_] c0 rfl rfl ⟨rfl, trivial⟩ rfl) ?_ | refine callM_l (LEv.fr [_] c0 rfl rfl ⟨rfl, trivial⟩ rfl rfl) ?_ | refine callK_rt (EvR.fr [_] c0 rfl rfl ⟨rfl, trivial⟩ rfl) ?_ | refine callK_rf rfl (EvR.fr [_] c0 rfl rfl ⟨rfl, trivial⟩ rfl) ?_ | refine callK_rft rfl (EvR.fr [_] c0 rfl rfl ⟨rfl, trivial⟩ rfl) ?_ | refine callK_r (EvR.fr [_] c1 rfl rfl ⟨rfl, trivial⟩ rfl) ?_ | refine callM_l (LEv.fr [_] c1 rfl rfl ⟨rfl, trivial⟩ rfl rfl) ?_ | refine callK_rt (EvR.fr [_] c1 rfl rfl ⟨rfl, trivial⟩ rfl) ?_ | refine callK_rf rfl (EvR.fr [_] c1 rfl rfl ⟨rfl, trivial⟩ rfl) ?_ | refine callK_rft rfl (EvR.fr [_] c1 rfl rfl ⟨rfl, trivial⟩ rfl) ?_ | refine callK_r (EvR.fr [_] c2 rfl rfl ⟨rfl, trivial⟩ rfl) ?_ | refine callM_l (LEv.fr [_] c2 rfl rfl ⟨rfl, trivial⟩ rfl rfl) ?_ | refine callK_rt (EvR.fr [_] c2 rfl rfl ⟨rfl, trivial⟩ rfl) ?_ | refine callK_rf rfl (EvR.fr [_] c2 rfl rfl ⟨rfl, trivial⟩ rfl) ?_ | refine callK_rft rfl (EvR.fr [_] c2 rfl rfl ⟨rfl, trivial⟩ rfl) ?_ | refine callK_r (EvR.fr [_] c3 rfl rfl ⟨rfl, trivial⟩ rfl) ?_ | refine callM_l (LEv.fr [_] c3 rfl rfl ⟨rfl, trivial⟩ rfl rfl) ?_ | refine callK_rt (EvR.fr [_] c3 rfl rfl ⟨rfl, trivial⟩ rfl) ?_ | refine callK_rf rfl (EvR.fr [_] c3 rfl rfl ⟨rfl, trivial⟩ rfl) ?_ | refine callK_rft rfl (EvR.fr [_] c3 rfl rfl ⟨rfl, trivial⟩ rfl) ?_ | refine callK_p c5 ?_ | refine callM_p c5 rfl ?_ | refine callK_pf rfl c5 ?_ | refine callK_pk rfl c5 ?_ | refine wpfS_seq1 ?_ | refine wpfS_go ?_ | fail) <;> conv => whnf)
      exact ⟨rfl, rfl⟩
    | false =>
      rw [hf] at c5
      rw [if_neg (by decide)]
      refine EvR.frz (v := .mg [.p (.int .i64 0), .nils, .nils, .nils]) ?_ rfl
      refine EvR.of_wpfC false false hm c_R23_Read rfl rfl ?_
      conv => whnf
      repeat' ((first | refine brP_t (by assumption) ?_ | refine brP_f (by assumption) ?_ | refine brP_t (decide_eq_true (by omega)) ?_ | refine brP_f (decide_eq_false (by omega)) ?_ | refine brP_t (nd_t (by omega)) ?_ | refine brP_f (nd_f (by omega)) ?_ | refine callK_r (EvR.fr [_] c0 rfl rfl ⟨rfl, trivial⟩ rfl) ?_ | refine callM_l (LEv.fr [_] c0 rfl rfl ⟨rfl, trivial⟩ rfl rfl) ?_ | refine callK_rt (EvR.fr [_] c0 rfl rfl ⟨rfl, trivial⟩ rfl) ?_ | refine callK_rf rfl (EvR.fr [_] c0 rfl rfl ⟨rfl, trivial⟩ rfl) ?_ | refine callK_rft rfl (EvR.fr [_] c0 rfl rfl ⟨rfl, trivial⟩ rfl) ?_ | refine callK_r (EvR.fr [_] c1 rfl rfl ⟨rfl, trivial⟩ rfl) ?_ | refine callM_l (LEv.fr [_] c1 rfl rfl ⟨rfl, trivial⟩ rfl rfl) ?_ | refine callK_rt (EvR.fr [_] c1 rfl rfl ⟨rfl, trivial⟩ rfl) ?_ | refine callK_rf rfl (EvR.fr [_] c1 rfl rfl ⟨rfl, trivial⟩ rfl) ?_ | refine callK_rft rfl (EvR.fr [_] c1 rfl rfl ⟨rfl, trivial⟩ rfl) ?_ | refine callK_r (EvR.fr [_] c2 rfl rfl ⟨rfl, trivial⟩ rfl) ?_ | refine callM_l (LEv.fr [_] c2 rfl rfl ⟨rfl, trivial⟩ rfl rfl) ?_ | refine callK_rt (EvR.fr [_] c2 rfl rfl ⟨rfl, trivial⟩ rfl) ?_ | refine callK_rf rfl (EvR.fr [_] c2 rfl rfl ⟨rfl, trivial⟩ rfl) ?_ | refine callK_rft rfl (EvR.fr [_] c2 rfl rfl ⟨rfl, trivial⟩ rfl) ?_ | refine callK_r (EvR.fr [_] c3 rfl rfl ⟨rfl, trivial⟩ rfl) ?_ | refine callM_l (LEv.fr [_] c3 rfl rfl ⟨rfl, trivial⟩ rfl rfl) ?_ | refine callK_rt (EvR.fr [_] c3 rfl rfl ⟨rfl, trivial⟩ rfl) ?_ | refine callK_rf rfl (EvR.fr [_] c3 rfl rfl ⟨rfl, trivial⟩ rfl) ?_ | refine callK_rft rfl (EvR.fr [_] c3 rfl rfl ⟨rfl, trivial⟩ rfl) ?_ | refine callK_p c5 ?_ | refine callM_p c5 rfl ?_ | refine callK_pf rfl c5 ?_ | refine callK_pk rfl c5 ?_ | refine wpfS_seq1 ?_ | refine wpfS_go ?_ | fail) <;> conv => whnf)
      exact ⟨rfl, rfl⟩
  · rw [if_neg (show ¬ (St.mk e b).e = 0 from he)]
    refine EvR.frz (v := .mg [.p (.int .i64 0), .nils, .nils, .nils]) ?_ rfl
    refine EvR.of_wpfC false false hm c_R23_Read rfl rfl ?_
    conv => whnf
    repeat' ((first | refine brP_t (by assumption) ?_ | refine brP_f (by assumption) ?_ | refine brP_t (decide_eq_true (by omega)) ?_ | refine brP_f (decide_eq_false (by omega)) ?_ | refine brP_t (nd_t (by omega)) ?_ | refine brP_f (nd_f (by omega)) ?_ | refine callK_r (EvR.fr [_] c0 rfl rfl ⟨rfl, trivial⟩ rfl) ?_ | refine callM_l (LEv.fr [_] c0 rfl rfl ⟨rfl, trivial⟩ rfl rfl) ?_ | refine callK_rt (EvR.fr [_] c0 rfl rfl ⟨rfl, trivial⟩ rfl) ?_ | refine callK_rf rfl (EvR.fr [_] c0 rfl rfl ⟨rfl, trivial⟩ rfl) ?_ | refine callK_rft rfl (EvR.fr [_] c0 rfl rfl ⟨rfl, trivial⟩ rfl) ?_ | refine callK_r (EvR.fr [_] c1 rfl rfl ⟨rfl, trivial⟩ rfl) ?_ | refine callM_l (LEv.fr [_] c1 rfl rfl ⟨rfl, trivial⟩ rfl rfl) ?_ | refine callK_rt (EvR.fr [_] c1 rfl rfl ⟨rfl, trivial⟩ rfl) ?_ | refine callK_rf rfl (EvR.fr [_] c1 rfl rfl ⟨rfl, trivial⟩ rfl) ?_ | refine callK_rft rfl (EvR.fr [_] c1 rfl rfl ⟨rfl, trivial⟩ rfl) ?_ | refine callK_r (EvR.fr [_] c2 rfl rfl ⟨rfl, trivial⟩ rfl) ?_ | refine callM_l (LEv.fr [_] c2 rfl rfl ⟨rfl, trivial⟩ rfl rfl) ?_ | refine callK_rt (EvR.fr [_] c2 rfl rfl ⟨rfl, trivial⟩ rfl) ?_ | refine callK_rf rfl (EvR.fr [_] c2 rfl rfl ⟨rfl, trivial⟩ rfl) ?_ | refine callK_rft rfl (EvR.fr [_] c2 rfl rfl ⟨rfl, trivial⟩ rfl) ?_ | refine callK_r (EvR.fr [_] c3 rfl rfl ⟨rfl, trivial⟩ rfl) ?_ | refine callM_l (LEv.fr [_] c3 rfl rfl ⟨rfl, trivial⟩ rfl rfl) ?_ | refine callK_rt (EvR.fr [_] c3 rfl rfl ⟨rfl, trivial⟩ rfl) ?_ | refine callK_rf rfl (EvR.fr [_] c3 rfl rfl ⟨rfl, trivial⟩ rfl) ?_ | refine callK_rft rfl (EvR.fr [_] c3 rfl rfl ⟨rfl, trivial⟩ rfl) ?_ | refine wpfS_seq1 ?_ | refine wpfS_go ?_ | fail) <;> conv => whnf)
    exact ⟨rfl, rfl⟩
end Go.Ab.S

namespace Go.Ab.S
open Go Go.Ab Go.Proofs
attribute [local irreducible] SemS
set_option maxRecDepth 100000
def Bx.bytes (b : Bx) : List UInt8 := numB b.next.toNat 4 ++ (msgsB b.q ++ (msgsB b.a ++ msgsB b.h))
theorem msgsB_len {l : List Msg} (h : ∀ m ∈ l, m.fine = true) : (msgsB l).length ≤ 1 + 45 * l.length := by
  have := flat_len (l := l) fun m hm => (Msg.fine_iff.1 (h m hm)).2.2.2.2.2.2
  unfold msgsB
  rw [List.length_append, numB_len]
  omega
theorem Bx.Good.fines {b : Bx} (hg : b.Good) : (∀ m ∈ b.q, m.fine = true) ∧ (∀ m ∈ b.a, m.fine = true) ∧ (∀ m ∈ b.h, m.fine = true) := by
  refine ⟨fun m h => (hg.ms m ?_).1, fun m h => (hg.ms m ?_).1, fun m h => (hg.ms m ?_).1⟩ <;> simp [Bx.all, h]
theorem Bx.Good.bytes_len {b : Bx} (hg : b.Good) : b.bytes.length ≤ 400 := by
  obtain ⟨h1, h2, h3⟩ := hg.fines
  have := msgsB_len h1
  have := msgsB_len h2
  have := msgsB_len h3
  have hl := hg.len
  have hlen : b.len = b.q.length + b.a.length + b.h.length := rfl
  unfold Bx.bytes
  rw [List.length_append, List.length_append, List.length_append, numB_len]
  omega
set_option maxHeartbeats 1000000 in
theorem box_Write_ok (e : Int) (bs : List UInt8) (hb : bs.length ≤ 2 ^ 38) (b : Bx) (hg : b.Good) (ho : b.Ok) : EvR PR G f_box_Write [.c (.ptr (.par 0) 0), .agg b.row] ⟨wrB e bs, []⟩ (.tup []) ⟨wrB e (bs ++ b.bytes), []⟩ := by
  obtain ⟨f1, f2, f3⟩ := hg.fines
  have m1 := msgsB_len f1
  have m2 := msgsB_len f2
  have hl := hg.len
  have hlen : b.len = b.q.length + b.a.length + b.h.length := rfl
  have hlo := hg.lo
  have hhi := hg.hi
  have hq := ho.q
  have ha := ho.a
  have hh := ho.h
  obtain ⟨n, q, a, h⟩ := b
  dsimp only at *
  obtain ⟨n, rfl⟩ := Int.eq_ofNat_of_zero_le hlo
  have c0 := w_num_ok e bs (by omega) n 4 (okNum_of (by omega) (by omega))
  have c1 := message_Write_ok e (bs ++ numB n 4) (by rw [List.length_append, numB_len]; omega) q (by omega) fun m hm => ⟨hq m hm, f1 m hm⟩
  have c2 := message_Write_ok e (bs ++ numB n 4 ++ msgsB q) (by rw [List.length_append, List.length_append, numB_len]; omega) a (by omega) fun m hm => ⟨ha m hm, f2 m hm⟩
  have c3 := message_Write_ok e (bs ++ numB n 4 ++ msgsB q ++ msgsB a) (by rw [List.length_append, List.length_append, List.length_append, numB_len]; omega) h (by omega) fun m hm => ⟨hh m hm, f3 m hm⟩
  have hfin : bs ++ (Bx.mk n q a h).bytes = bs ++ numB n 4 ++ msgsB q ++ msgsB a ++ msgsB h := by
    show bs ++ (numB n 4 ++ (msgsB q ++ (msgsB a ++ msgsB h))) = _
    simp only [List.append_assoc]
  rw [hfin]
  clear hfin
  generalize bs ++ numB n 4 ++ msgsB q ++ msgsB a ++ msgsB h = b4 at *
  generalize bs ++ numB n 4 ++ msgsB q ++ msgsB a = b3 at *
  generalize bs ++ numB n 4 ++ msgsB q = b2 at *
  generalize bs ++ numB n 4 = b1 at *
  refine EvR.of_wpfC false false hm c_box_Write rfl rfl ?_
  conv => whnf
  repeat' ((first | refine brP_t (by assumption) ?_ | refine brP_f (by assumption) ?_ | refine brP_t (decide_eq_true (by omega)) ?_ | refine brP_f (decide_eq_false (by omega)) ?_ | refine brP_t (nd_t (by omega)) ?_ | refine brP_f (nd_f (by omega)) ?_ | refine callK_r (EvR.fr [_, _] c0 rfl rfl ⟨rfl, rfl, trivial⟩ rfl) ?_ | refine callM_l (LEv.fr [_, _] c0 rfl rfl ⟨rfl, rfl, trivial⟩ rfl rfl) ?_ | refine callK_rt (EvR.fr [_, _] c0 rfl rfl ⟨rfl, rfl, trivial⟩ rfl) ?_ | refine callK_rf rfl (EvR.fr [_, _] c0 rfl rfl ⟨rfl, rfl, trivial⟩ rfl) ?_ | refine callK_rft rfl (EvR.fr [_, _] c0 rfl rfl ⟨rfl, rfl, trivial⟩ rfl) ?_ | refine callK_r (EvR.fr [_, _] c1 rfl rfl ⟨rfl, rfl, trivial⟩ rfl) ?_ | refine callM_l (LEv.fr [_, _] c1 rfl rfl ⟨rfl, rfl, trivial⟩ rfl rfl) ?_ | refine callK_rt (EvR.fr [_, _] c1 rfl rfl ⟨rfl, rfl, trivial⟩ rfl) ?_ | refine callK_rf rfl (EvR.fr [_, _] c1 rfl rfl ⟨rfl, rfl, trivial⟩ rfl) ?_ | refine callK_rft rfl (EvR.fr [_, _] c1 rfl rfl ⟨rfl, rfl, trivial⟩ rfl) ?_ | refine callK_r (EvR.fr [_, _] c2 rfl rfl ⟨rfl, rfl, trivial⟩ rfl) ?_ | refine callM_l (LEv.fr [_, _] c2 rfl rfl ⟨rfl, rfl, trivial⟩ rfl rfl) ?_ | refine callK_rt (EvR.fr [_, _] c2 rfl rfl ⟨rfl, rfl, trivial⟩ rfl) ?_ | refine callK_rf rfl (EvR.fr [_, _] c2 rfl rfl ⟨rfl, rfl, trivial⟩ rfl) ?_ | refine callK_rft rfl (EvR.fr [_, _] c2 rfl rfl ⟨rfl, rfl, trivial⟩ rfl) ?_ | refine callK_r (EvR.fr [_, _] c3 rfl rfl ⟨rfl, rfl, trivial⟩ rfl) ?_ | refine callM_l (LEv.fr [_, _] c3 rfl rfl ⟨rfl, rfl, trivial⟩ rfl rfl) ?_ | refine callK_rt (EvR.fr [_, _] c3 rfl rfl ⟨rfl, rfl, trivial⟩ rfl) ?_ | refine callK_rf rfl (EvR.fr [_, _] c3 rfl rfl ⟨rfl, rfl, trivial⟩ rfl) ?_ | refine callK_rft rfl (EvR.fr [_, _] c3 rfl rfl ⟨rfl, rfl, trivial⟩ rfl) ?_ | refine wpfS_seq1 ?_ | refine wpfS_go ?_ | fail) <;> conv => whnf)
  exact ⟨rfl, rfl⟩
set_option maxHeartbeats 1000000 in
theorem R23_Write_ok (e : Int) (bs : List UInt8) (hb : bs.length ≤ 2 ^ 38) (b : Bx) (hg : b.Good) (ho : b.Ok) : EvR PR G f_R23_Write [.c (.ptr (.par 0) 0), .agg b.row] ⟨rwB e bs, []⟩ (.tup []) ⟨rwB e (bs ++ b.bytes), []⟩ := by
  obtain ⟨f1, f2, f3⟩ := hg.fines
  have m1 := msgsB_len f1
  have m2 := msgsB_len f2
  have hl := hg.len
  have hlen : b.len = b.q.length + b.a.length + b.h.length := rfl
  have hlo := hg.lo
  have hhi := hg.hi
  have hq := ho.q
  have ha := ho.a
  have hh := ho.h
  obtain ⟨n, q, a, h⟩ := b
  dsimp only at *
  obtain ⟨n, rfl⟩ := Int.eq_ofNat_of_zero_le hlo
  have c0 := rw_num_ok e bs (by omega) n 4 (okNum_of (by omega) (by omega))
  have c1 := R22_Write_ok e (bs ++ numB n 4) (by rw [List.length_append, numB_len]; omega) q (by omega) fun m hm => ⟨hq m hm, f1 m hm⟩
  have c2 := R22_Write_ok e (bs ++ numB n 4 ++ msgsB q) (by rw [List.length_append, List.length_append, numB_len]; omega) a (by omega) fun m hm => ⟨ha m hm, f2 m hm⟩
  have c3 := R22_Write_ok e (bs ++ numB n 4 ++ msgsB q ++ msgsB a) (by rw [List.length_append, List.length_append, List.length_append, numB_len]; omega) h (by omega) fun m hm => ⟨hh m hm, f3 m hm⟩
  have hfin : bs ++ (Bx.mk n q a h).bytes = bs ++ numB n 4 ++ msgsB q ++ msgsB a ++ msgsB h := by
    show bs ++ (numB n 4 ++ (msgsB q ++ (msgsB a ++ msgsB h))) = _
    simp only [List.append_assoc]
  rw [hfin]
  clear hfin
  generalize bs ++ numB n 4 ++ msgsB q ++ msgsB a ++ msgsB h = b4 at *
  generalize bs ++ numB n 4 ++ msgsB q ++ msgsB a = b3 at *
  generalize bs ++ numB n 4 ++ msgsB q = b2 at *
  generalize bs ++ numB n 4 = b1 at *
  refine EvR.of_wpfC false false hm c_R23_Write rfl rfl ?_
  conv => whnf
  repeat' ((first | refine brP_t (by assumption) ?_ | refine brP_f (by assumption) ?_ | refine brP_t (decide_eq_true (by omega)) ?_ | refine brP_f (decide_eq_false (by omega)) ?_ | refine brP_t (nd_t (by omega)) ?_ | refine brP_f (nd_f (by omega)) ?_ | refine callK_r (EvR.fr [_, _] c0 rfl rfl ⟨rfl, rfl, trivial⟩ rfl) ?_ | refine callM_l (LEv.fr [_, _] c0 rfl rfl ⟨rfl, rfl, trivial⟩ rfl rfl) ?_ | refine callK_rt (EvR.fr [_, _] c0 rfl rfl ⟨rfl, rfl, trivial⟩ rfl) ?_ | refine callK_rf rfl (EvR.fr [_, _] c0 rfl rfl ⟨rfl, rfl, trivial⟩ rfl) ?_ | refine callK_rft rfl (EvR.fr [_, _] c0 rfl rfl ⟨rfl, rfl, trivial⟩ rfl) ?_ | refine callK_r (EvR.fr [_, _] c1 rfl rfl ⟨rfl, rfl, trivial⟩ rfl) ?_ | refine callM_l (LEv.fr [_, _] c1 rfl rfl ⟨rfl, rfl, trivial⟩ rfl rfl) ?_ | refine callK_rt (EvR.fr [_, _] c1 rfl rfl ⟨rfl, rfl, trivial⟩ rfl) ?_ | refine callK_rf rfl (EvR.fr [_, _] c1 rfl rfl ⟨rfl, rfl, trivial⟩ rfl) ?_ | refine callK_rft rfl (EvR.fr [_, _] c1 rfl rfl ⟨rfl, rfl, trivial⟩ rfl) ?_ | refine callK_r (EvR.fr [_, _] c2 rfl rfl ⟨rfl, rfl, trivial⟩ rfl) ?_ | refine callM_l (LEv.fr [_, _] c2 rfl rfl ⟨rfl, rfl, trivial⟩ rfl rfl) ?_ | refine callK_rt (EvR.fr [_, _] c2 rfl rfl ⟨rfl, rfl, trivial⟩ rfl) ?_ | refine callK_rf rfl (EvR.fr [_, _] c2 rfl rfl ⟨rfl, rfl, trivial⟩ rfl) ?_ | refine callK_rft rfl (EvR.fr [_, _] c2 rfl rfl ⟨rfl, rfl, trivial⟩ rfl) ?_ | refine callK_r (EvR.fr [_, _] c3 rfl rfl ⟨rfl, rfl, trivial⟩ rfl) ?_ | refine callM_l (LEv.fr [_, _] c3 rfl rfl ⟨rfl, rfl, trivial⟩ rfl rfl) ?_ | refine callK_rt (EvR.fr [_, _] c3 rfl rfl ⟨rfl, rfl, trivial⟩ rfl) ?_ | refine callK_rf rfl (EvR.fr [_, _] c3 rfl rfl ⟨rfl, rfl, trivial⟩ rfl) ?_ | refine callK_rft rfl (EvR.fr [_, _] c3 rfl rfl ⟨rfl, rfl, trivial⟩ rfl) ?_ | refine wpfS_seq1 ?_ | refine wpfS_go ?_ | fail) <;> conv => whnf)
  exact ⟨rfl, rfl⟩
theorem Bx.rd_same {s s' : St} (h : SameS s s') : (Bx.rd true s).1 = (Bx.rd false s').1 ∧ SameS (Bx.rd true s).2 (Bx.rd false s').2 := by
  have k0 := h.nv 4 2147483647
  obtain ⟨e1, k1⟩ := Msg.rdL_same (h.num 4 2147483647)
  obtain ⟨e2, k2⟩ := Msg.rdL_same k1
  obtain ⟨e3, k3⟩ := Msg.rdL_same k2
  have hb : (Bx.rd0 true s).1 = (Bx.rd0 false s').1 := by
    show Bx.mk _ _ _ _ = Bx.mk _ _ _ _
    rw [k0, e1, e2, e3]
  have hs : SameS (Bx.rd0 true s).2 (Bx.rd0 false s').2 := k3
  unfold Bx.rd Bx.chk
  rw [← hs.e, ← hb]
  by_cases he : (Bx.rd0 true s).2.e = 0
  · rw [if_pos he, if_pos he]
    by_cases hf : (Bx.rd0 true s).1.fine = true
    · rw [if_pos hf, if_pos hf]; exact ⟨hb, hs⟩
    · rw [if_neg hf, if_neg hf]; exact ⟨rfl, rfl, fun h => absurd (show (3 : Int) = 0 from h) (by decide)⟩
  · rw [if_neg he, if_neg he]; exact ⟨rfl, hs⟩
theorem Bx.rd_suf {B : List UInt8} {s : St} (h : Suf B s.b) : Suf B (Bx.rd false s).2.b := by
  have hs : Suf B (Bx.rd0 false s).2.b := Msg.rdL_suf (Msg.rdL_suf (Msg.rdL_suf (h.num false 4 2147483647)))
  unfold Bx.rd Bx.chk
  split
  · split
    · exact hs
    · exact hs
  · exact hs
/-- What a reader gives back is never long. -/
theorem Bx.rd_len (keep : Bool) (s : St) : (Bx.rd keep s).1.len ≤ 1000 := by
  have l1 := Msg.rdL_len keep (s.num keep 4 2147483647)
  have l2 := Msg.rdL_len keep (Msg.rdL keep (s.num keep 4 2147483647)).2
  have l3 := Msg.rdL_len keep (Msg.rdL keep (Msg.rdL keep (s.num keep 4 2147483647)).2).2
  have hl : (Bx.rd0 keep s).1.len ≤ 1000 := Nat.le_trans (Nat.add_le_add (Nat.add_le_add l1 l2) l3) (by decide)
  unfold Bx.rd Bx.chk
  split
  · split
    · exact hl
    · exact Nat.zero_le _
  · exact Nat.zero_le _
theorem Bx.rd_back (keep : Bool) (b : Bx) (rest : List UInt8) (hg : b.Good) (ho : b.Ok) : Bx.rd keep ⟨0, b.bytes ++ rest⟩ = (b, ⟨0, rest⟩) := by
  obtain ⟨f1, f2, f3⟩ := hg.fines
  have hf : b.fine = true := Bx.fine_iff.2 hg
  have hl := hg.len
  have hlen : b.len = b.q.length + b.a.length + b.h.length := rfl
  have hlo := hg.lo
  have hhi := hg.hi
  have hq := ho.q
  have ha := ho.a
  have hh := ho.h
  obtain ⟨n, q, a, h⟩ := b
  dsimp only at *
  obtain ⟨n, rfl⟩ := Int.eq_ofNat_of_zero_le hlo
  have hw : (Bx.mk n q a h).bytes ++ rest = numB n 4 ++ (msgsB q ++ (msgsB a ++ (msgsB h ++ rest))) := by
    show (numB n 4 ++ (msgsB q ++ (msgsB a ++ msgsB h))) ++ rest = _
    simp only [List.append_assoc]
  rw [hw]
  obtain ⟨a1, b1⟩ := num_back keep n 4 2147483647 (msgsB q ++ (msgsB a ++ (msgsB h ++ rest))) (by omega) (by omega) (by omega)
  have a1 : St.num keep ⟨0, _⟩ (4 : Int) 2147483647 = _ := a1
  have b1 : St.nv ⟨0, _⟩ (4 : Int) 2147483647 = _ := b1
  have r1 := Msg.rdL_back keep q (msgsB a ++ (msgsB h ++ rest)) (by omega) fun m hm => ⟨hq m hm, f1 m hm⟩
  have r2 := Msg.rdL_back keep a (msgsB h ++ rest) (by omega) fun m hm => ⟨ha m hm, f2 m hm⟩
  have r3 := Msg.rdL_back keep h rest (by omega) fun m hm => ⟨hh m hm, f3 m hm⟩
  have h0 : Bx.rd0 keep ⟨0, numB n 4 ++ (msgsB q ++ (msgsB a ++ (msgsB h ++ rest)))⟩ = (⟨n, q, a, h⟩, ⟨0, rest⟩) := by
    unfold Bx.rd0
    dsimp only
    rw [a1, b1, r1]
    dsimp only
    rw [r2]
    dsimp only
    rw [r3]
  unfold Bx.rd
  rw [h0]
  unfold Bx.chk
  dsimp only
  rw [if_pos rfl, if_pos hf]
end Go.Ab.S
