/- Identities read and written. No condition. Identities written and read back; labels of objects read and written. No condition. Objects read. No condition. -/
import Derived.Test.YtmohadlgjokgmaaLQ2
import Derived.Test.YtmohadlgjokgmaaLO3
set_option linter.unusedSimpArgs false
set_option linter.unusedVariables false
namespace Go.Ab.S
open Go Go.Ab Go.Proofs
attribute [local irreducible] SemS
set_option maxRecDepth 100000
/-- An identity. -/
structure Idn where
  s : Nat
  i : Nat
  k : Int
  n : Int
def Idn.row (d : Idn) : List PV := [.int .u16 d.s, .int .u16 d.i, .int .i64 d.k, .int .i64 d.n]
def Idn.emp : Idn := ⟨0, 0, 0, 0⟩
def Idn.rd0 (keep : Bool) (s : St) : Idn × St :=
  let s1 := s.num keep 2 65535
  let s2 := s1.num keep 2 65535
  let s3 := s2.num keep 1 3
  (⟨(s.nv 2 65535).toNat, (s1.nv 2 65535).toNat, s2.nv 1 3, s3.nv 1 3⟩, s3.num keep 1 3)
def Idn.chk (r : Idn × St) : Idn × St :=
  if r.2.e = 0 then (if r.1.k = 0 then (Idn.emp, ⟨8, r.2.b⟩) else r) else (Idn.emp, r.2)
def Idn.rd (keep : Bool) (s : St) : Idn × St := Idn.chk (Idn.rd0 keep s)
set_option maxHeartbeats 2000000 in
theorem ident_Read_ok (s : St) : EvR PR G f_ident_Read [.c (.ptr (.par 0) 0)] ⟨s.pr, []⟩ (.agg (Idn.rd true s).1.row) ⟨(Idn.rd true s).2.pr, []⟩ := by
  unfold Idn.rd Idn.rd0
  dsimp only
  have c0 := pr_num s 2 65535 (by omega)
  have u0 := nv_u16 (s := s) (size := 2)
  generalize s.num true 2 65535 = s1 at *
  have c1 := pr_num s1 2 65535 (by omega)
  have u1 := nv_u16 (s := s1) (size := 2)
  generalize s1.num true 2 65535 = s2 at *
  have c2 := pr_num s2 1 3 (by omega)
  have r2 := nv_range (s := s2) (size := 1) (most := 3) (by omega)
  generalize s2.num true 1 3 = s3 at *
  have c3 := pr_num s3 1 3 (by omega)
  have r3 := nv_range (s := s3) (size := 1) (most := 3) (by omega)
  generalize s3.num true 1 3 = s4 at *
  generalize s.nv 2 65535 = v0 at *
  generalize s1.nv 2 65535 = v1 at *
  generalize s2.nv 1 3 = v2 at *
  generalize s3.nv 1 3 = v3 at *
  have c4 := ident_Fine_ok v0.toNat v1.toNat v2 v3
  have c5 := pr_fail s4 8
  have c6 := pr_err s4
  have c7 := pr_err (s4.fail 8)
  obtain ⟨e, b⟩ := s4
  unfold Idn.chk
  dsimp only
  have hid : idB v2 v3 = !decide (v2 = 0) := by
    by_cases h : v2 = 0
    · subst h; rfl
    · have : 1 ≤ v2 ∧ v2 ≤ 3 := by omega
      have h1 : idB v2 v3 = (decide (1 ≤ v2) && (decide (v2 ≤ 3) && (decide (0 ≤ v3) && decide (v3 < 4)))) := rfl
      rw [h1, decide_eq_true this.1, decide_eq_true this.2, decide_eq_true r3.1, decide_eq_true (show v3 < 4 by omega), decide_eq_false h]
      rfl
  rw [hid] at c4
  clear hid
  by_cases he : e = 0
  · subst he
    rw [if_pos (show (St.mk 0 b).e = 0 from rfl)]
    have hff : St.fail ⟨0, b⟩ 8 = ⟨8, b⟩ := rfl
    rw [hff] at c5 c7
    by_cases hv : v2 = 0
    · rw [decide_eq_true hv] at c4
      rw [if_pos hv]
      refine EvR.of_wpfC false false hm c_ident_Read rfl rfl ?_
      conv => whnf
      repeat' ((first | refine brP_t (by assumption) ?_ | refine brP_f (by assumption) ?_ | refine brP_t (decide_eq_true (by omega)) ?_ | refine brP_f (decide_eq_false (by omega)) ?_ | refine brP_t (nd_t (by omega)) ?_ | refine brP_f (nd_f (by omega)) ?_ | refine callK_r (EvR.fr [_] c0 rfl rfl ⟨rfl, trivial⟩ rfl) ?_ | refine callM_l (LEv.fr [_] c0 rfl rfl ⟨rfl, trivial⟩ rfl rfl) ?_ | refine callK_rt (EvR.fr [_] c0 rfl rfl ⟨rfl, trivial⟩ rfl) ?_ | refine callK_rf rfl (EvR.fr [_] c0 rfl rfl ⟨rfl, trivial⟩ rfl) ?_ | refine callK_rft rfl (EvR.fr [_] c0 rfl rfl ⟨rfl, trivial⟩ rfl) ?_ | refine callK_r (EvR.fr [_] c1 rfl rfl ⟨rfl, trivial⟩ rfl) ?_ | refine callM_l (LEv.fr [_] c1 rfl rfl ⟨rfl, trivial⟩ rfl rfl) ?_ | refine callK_rt (EvR.fr [_] c1 rfl rfl ⟨rfl, trivial⟩ rfl) ?_ | refine callK_rf rfl (EvR.fr [_] c1 rfl rfl ⟨rfl, trivial⟩ rfl) ?_ | refine callK_rft rfl (EvR.fr [_] c1 rfl rfl ⟨rfl, trivial⟩ rfl) ?_ | refine callK_r (EvR.fr [_] c2 rfl rfl ⟨rfl, trivial⟩ rfl) ?_ | refine callM_l (LEv.fr [_] c2 rfl rfl ⟨rfl, trivial⟩ rfl rfl) ?_ | refine callK_rt (EvR.fr [_] c2 rfl rfl ⟨rfl, trivial⟩ rfl) ?_ | refine callK_rf rfl (EvR.fr [_] c2 rfl rfl ⟨rfl, trivial⟩ rfl) ?_ | refine callK_rft rfl (EvR.fr [_] c2 rfl rfl ⟨rfl, trivial⟩ rfl) ?_ | refine callK_r (EvR.fr [_] c3 rfl rfl ⟨rfl, trivial⟩ rfl) ?_ | refine callM_l (LEv.fr [_] c3 rfl rfl ⟨rfl, trivial⟩ rfl rfl) ?_ | refine callK_rt (EvR.fr [_] c3 rfl rfl ⟨rfl, trivial⟩ rfl) ?_ | refine callK_rf rfl (EvR.fr [_] c3 rfl rfl ⟨rfl, trivial⟩ rfl) ?_ | refine callK_rft rfl (EvR.fr [_] c3 rfl rfl ⟨rfl, trivial⟩ rfl) ?_ | ((rw [u0])) | ((rw [u1])) | refine callK_p c4 ?_ | refine callM_p c4 rfl ?_ | refine callK_pf rfl c4 ?_ | refine callK_r (EvR.fr [_] c5 rfl rfl ⟨rfl, trivial⟩ rfl) ?_ | refine callM_l (LEv.fr [_] c5 rfl rfl ⟨rfl, trivial⟩ rfl rfl) ?_ | refine callK_rt (EvR.fr [_] c5 rfl rfl ⟨rfl, trivial⟩ rfl) ?_ | refine callK_rf rfl (EvR.fr [_] c5 rfl rfl ⟨rfl, trivial⟩ rfl) ?_ | refine callK_rft rfl (EvR.fr [_] c5 rfl rfl ⟨rfl, trivial⟩ rfl) ?_ | refine callK_r (EvR.fr [_] c6 rfl rfl ⟨rfl, trivial⟩ rfl) ?_ | refine callM_l (LEv.fr [_] c6 rfl rfl ⟨rfl, trivial⟩ rfl rfl) ?_ | refine callK_rt (EvR.fr [_] c6 rfl rfl ⟨rfl, trivial⟩ rfl) ?_ | refine callK_rf rfl (EvR.fr [_] c6 rfl rfl ⟨rfl, trivial⟩ rfl) ?_ | refine callK_rft rfl (EvR.fr [_] c6 rfl rfl ⟨rfl, trivial⟩ rfl) ?_ | refine callK_r (EvR.fr [_] c7 rfl rfl ⟨rfl, trivial⟩ rfl) ?_ | refine callM_l (LEv.fr [_] c7 rfl rfl ⟨rfl, trivial⟩ rfl rfl) ?_ | refine callK_rt (EvR.fr [_] c7 rfl rfl ⟨rfl, trivial⟩ rfl) ?_ | refine callK_rf rfl (EvR.fr [_] c7 rfl rfl ⟨rfl, trivial⟩ rfl) ?_ | refine callK_rft rfl (EvR.fr [_] c7 rfl rfl ⟨rfl, trivial⟩ rfl) ?_ | refine wpfS_seq1 ?_ | refine wpfS_go ?_ | fail) <;> conv => whnf)
      exact ⟨rfl, rfl⟩
    · rw [decide_eq_false hv] at c4
      rw [if_neg hv]
      refine EvR.of_wpfC false false hm c_ident_Read rfl rfl ?_
      conv => whnf
      repeat' ((first | refine brP_t (by assumption) ?_ | refine brP_f (by assumption) ?_ | refine brP_t (decide_eq_true (by omega)) ?_ | refine brP_f (decide_eq_false (by omega)) ?_ | refine brP_t (nd_t (by omega)) ?_ | refine brP_f (nd_f (by omega)) ?_ | refine callK_r (EvR.fr [_] c0 rfl rfl ⟨rfl, trivial⟩ rfl) ?_ | refine callM_l (LEv.fr [_] c0 rfl rfl ⟨rfl, trivial⟩ rfl rfl) ?_ | refine callK_rt (EvR.fr [_] c0 rfl rfl ⟨rfl, trivial⟩ rfl) ?_ | refine callK_rf rfl (EvR.fr [_] c0 rfl rfl ⟨rfl, trivial⟩ rfl) ?_ | refine callK_rft rfl (EvR.fr [_] c0 rfl rfl ⟨rfl, trivial⟩ rfl) ?_ | refine callK_r (EvR.fr [_] c1 rfl rfl ⟨rfl, trivial⟩ rfl) ?_ | refine callM_l (LEv.fr [_] c1 rfl rfl ⟨rfl, trivial⟩ rfl rfl) ?_ | refine callK_rt (EvR.fr [_] c1 rfl rfl ⟨rfl, trivial⟩ rfl) ?_ | refine callK_rf rfl (EvR.fr [_] c1 rfl rfl ⟨rfl, trivial⟩ rfl) ?_ | refine callK_rft rfl (EvR.fr [_] c1 rfl rfl ⟨rfl, trivial⟩ rfl) ?_ | refine callK_r (EvR.fr [_] c2 rfl rfl ⟨rfl, trivial⟩ rfl) ?_ | refine callM_l (LEv.fr [_] c2 rfl rfl ⟨rfl, trivial⟩ rfl rfl) ?_ | refine callK_rt (EvR.fr [_] c2 rfl rfl ⟨rfl, trivial⟩ rfl) ?_ | refine callK_rf rfl (EvR.fr [_] c2 rfl rfl ⟨rfl, trivial⟩ rfl) ?_ | refine callK_rft rfl (EvR.fr [_] c2 rfl rfl ⟨rfl, trivial⟩ rfl) ?_ | refine callK_r (EvR.fr [_] c3 rfl rfl ⟨rfl, trivial⟩ rfl) ?_ | refine callM_l (LEv.fr [_] c3 rfl rfl ⟨rfl, trivial⟩ rfl rfl) ?_ | refine callK_rt (EvR.fr [_] c3 rfl rfl ⟨rfl, trivial⟩ rfl) ?_ | refine callK_rf rfl (EvR.fr [_] c3 rfl rfl ⟨rfl, trivial⟩ rfl) ?_ | refine callK_rft rfl (EvR.fr [_] c3 rfl rfl ⟨rfl, trivial⟩ rfl) ?_ | ((rw [u0])) | ((rw [u1])) | refine callK_p c4 ?_ | refine callM_p c4 rfl ?_ | refine callK_pf rfl c4 ?_ | refine callK_r (EvR.fr [_] c5 rfl rfl ⟨rfl, trivial⟩ rfl) ?_ | refine callM_l (LEv.fr [_] c5 rfl rfl ⟨rfl, trivial⟩ rfl rfl) ?_ | refine callK_rt (EvR.fr [_] c5 rfl rfl ⟨rfl, trivial⟩ rfl) ?_ | refine callK_rf rfl (EvR.fr [_] c5 rfl rfl ⟨rfl, trivial⟩ rfl) ?_ | refine callK_rft rfl (EvR.fr [_] c5 rfl rfl ⟨rfl, trivial⟩ rfl) ?_ | refine callK_r (EvR.fr [_] c6 rfl rfl ⟨rfl, trivial⟩ rfl) ?_ | refine callM_l (LEv.fr [_] c6 rfl rfl ⟨rfl, trivial⟩ rfl rfl) ?_ | refine callK_rt (EvR.fr [_] c6 rfl rfl ⟨rfl, trivial⟩ rfl) ?_ | refine callK_rf rfl (EvR.fr [_] c6 rfl rfl ⟨rfl, trivial⟩ rfl) ?_ | refine callK_rft rfl (EvR.fr [_] c6 rfl rfl ⟨rfl, trivial⟩ rfl) ?_ | refine callK_r (EvR.fr [_] c7 rfl rfl ⟨rfl, trivial⟩ rfl) ?_ | refine callM_l (LEv.fr [_] c7 rfl rfl ⟨rfl, trivial⟩ rfl rfl) ?_ | refine callK_rt (EvR.fr [_] c7 rfl rfl ⟨rfl, trivial⟩ rfl) ?_ | refine callK_rf rfl (EvR.fr [_] c7 rfl rfl ⟨rfl, trivial⟩ rfl) ?_ | refine callK_rft rfl (EvR.fr [_] c7 rfl rfl ⟨rfl, trivial⟩ rfl) ?_ | refine wpfS_seq1 ?_ | refine wpfS_go ?_ | fail) <;> conv => whnf)
      exact ⟨rfl, rfl⟩
  · rw [if_neg (show ¬ (St.mk e b).e = 0 from he)]
    have hff : St.fail ⟨e, b⟩ 8 = ⟨e, b⟩ := by
      unfold St.fail firstE
      rw [if_neg he]
    rw [hff] at c5 c7
    by_cases hv : v2 = 0
    · rw [decide_eq_true hv] at c4
      refine EvR.of_wpfC false false hm c_ident_Read rfl rfl ?_
      conv => whnf
      repeat' ((first | refine brP_t (by assumption) ?_ | refine brP_f (by assumption) ?_ | refine brP_t (decide_eq_true (by omega)) ?_ | refine brP_f (decide_eq_false (by omega)) ?_ | refine brP_t (nd_t (by omega)) ?_ | refine brP_f (nd_f (by omega)) ?_ | refine callK_r (EvR.fr [_] c0 rfl rfl ⟨rfl, trivial⟩ rfl) ?_ | refine callM_l (LEv.fr [_] c0 rfl rfl ⟨rfl, trivial⟩ rfl rfl) ?_ | refine callK_rt (EvR.fr [_] c0 rfl rfl ⟨rfl, trivial⟩ rfl) ?_ | refine callK_rf rfl (EvR.fr [_] c0 rfl rfl ⟨rfl, trivial⟩ rfl) ?_ | refine callK_rft rfl (EvR.fr [_] c0 rfl rfl ⟨rfl, trivial⟩ rfl) ?_ | refine callK_r (EvR.fr [_] c1 rfl rfl ⟨rfl, trivial⟩ rfl) ?_ | refine callM_l (LEv.fr [_] c1 rfl rfl ⟨rfl, trivial⟩ rfl rfl) ?_ | refine callK_rt (EvR.fr [_] c1 rfl rfl ⟨rfl, trivial⟩ rfl) ?_ | refine callK_rf rfl (EvR.fr [_] c1 rfl rfl ⟨rfl, trivial⟩ rfl) ?_ | refine callK_rft rfl (EvR.fr [_] c1 rfl rfl ⟨rfl, trivial⟩ rfl) ?_ | refine callK_r (EvR.fr [_] c2 rfl rfl ⟨rfl, trivial⟩ rfl) ?_ | refine callM_l (LEv.fr [_] c2 rfl rfl ⟨rfl, trivial⟩ rfl rfl) ?_ | refine callK_rt (EvR.fr [_] c2 rfl rfl ⟨rfl, trivial⟩ rfl) ?_ | refine callK_rf rfl (EvR.fr [_] c2 rfl rfl ⟨rfl, trivial⟩ rfl) ?_ | refine callK_rft rfl (EvR.fr [_] c2 rfl rfl ⟨rfl, trivial⟩ rfl) ?_ | refine callK_r (EvR.fr [_] c3 rfl rfl ⟨rfl, trivial⟩ rfl) ?_ | refine callM_l (LEv.fr [_] c3 rfl rfl ⟨rfl, trivial⟩ rfl rfl) ?_ | refine callK_rt (EvR.fr [_] c3 rfl rfl ⟨rfl, trivial⟩ rfl) ?_ | refine callK_rf rfl (EvR.fr [_] c3 rfl rfl ⟨rfl, trivial⟩ rfl) ?_ | refine callK_rft rfl (EvR.fr [_] c3 rfl rfl ⟨rfl, trivial⟩ rfl) ?_ | ((rw [u0])) | ((rw [u1])) | refine callK_p c4 ?_ | refine callM_p c4 rfl ?_ | refine callK_pf rfl c4 ?_ | refine callK_r (EvR.fr [_] c5 rfl rfl ⟨rfl, trivial⟩ rfl) ?_ | refine callM_l (LEv.fr [_] c5 rfl rfl ⟨rfl, trivial⟩ rfl rfl) ?_ | refine callK_rt (EvR.fr [_] c5 rfl rfl ⟨rfl, trivial⟩ rfl) ?_ | refine callK_rf rfl (EvR.fr [_] c5 rfl rfl ⟨rfl, trivial⟩ rfl) ?_ | refine callK_rft rfl (EvR.fr [_] c5 rfl rfl ⟨rfl, trivial⟩ rfl) ?_ | refine callK_r (EvR.fr [_] c6 rfl rfl ⟨rfl, trivial⟩ rfl) ?_ | refine callM_l (LEv.fr [_] c6 rfl rfl ⟨rfl, trivial⟩ rfl rfl) ?_ | refine callK_rt (EvR.fr [_] c6 rfl rfl ⟨rfl, trivial⟩ rfl) ?_ | refine callK_rf rfl (EvR.fr [_] c6 rfl rfl ⟨rfl, trivial⟩ rfl) ?_ | refine callK_rft rfl (EvR.fr [_] c6 rfl rfl ⟨rfl, trivial⟩ rfl) ?_ | refine wpfS_seq1 ?_ | refine wpfS_go ?_ | fail) <;> conv => whnf)
      exact ⟨rfl, rfl⟩
    · rw [decide_eq_false hv] at c4
      refine EvR.of_wpfC false false hm c_ident_Read rfl rfl ?_
      conv => whnf
      repeat' ((first | refine brP_t (by assumption) ?_ | refine brP_f (by assumption) ?_ | refine brP_t (decide_eq_true (by omega)) ?_ | refine brP_f (decide_eq_false (by omega)) ?_ | refine brP_t (nd_t (by omega)) ?_ | refine brP_f (nd_f (by omega)) ?_ | refine callK_r (EvR.fr [_] c0 rfl rfl ⟨rfl, trivial⟩ rfl) ?_ | refine callM_l (LEv.fr [_] c0 rfl rfl ⟨rfl, trivial⟩ rfl rfl) ?_ | refine callK_rt (EvR.fr [_] c0 rfl rfl ⟨rfl, trivial⟩ rfl) ?_ | refine callK_rf rfl (EvR.fr [_] c0 rfl rfl ⟨rfl, trivial⟩ rfl) ?_ | refine callK_rft rfl (EvR.fr [_] c0 rfl rfl ⟨rfl, trivial⟩ rfl) ?_ | refine callK_r (EvR.fr [_] c1 rfl rfl ⟨rfl, trivial⟩ rfl) ?_ | refine callM_l (LEv.fr [_] c1 rfl rfl ⟨rfl, trivial⟩ rfl rfl) ?_ | refine callK_rt (EvR.fr [_] c1 rfl rfl ⟨rfl, trivial⟩ rfl) ?_ | refine callK_rf rfl (EvR.fr [_] c1 rfl rfl ⟨rfl, trivial⟩ rfl) ?_ | refine callK_rft rfl (EvR.fr [_] c1 rfl rfl ⟨rfl, trivial⟩ rfl) ?_ | refine callK_r (EvR.fr [_] c2 rfl rfl ⟨rfl, trivial⟩ rfl) ?_ | refine callM_l (LEv.fr [_] c2 rfl rfl ⟨rfl, trivial⟩ rfl rfl) ?_ | refine callK_rt (EvR.fr [_] c2 rfl rfl ⟨rfl, trivial⟩ rfl) ?_ | refine callK_rf rfl (EvR.fr [_] c2 rfl rfl ⟨rfl, trivial⟩ rfl) ?_ | refine callK_rft rfl (EvR.fr [_] c2 rfl rfl ⟨rfl, trivial⟩ rfl) ?_ | refine callK_r (EvR.fr [_] c3 rfl rfl ⟨rfl, trivial⟩ rfl) ?_ | refine callM_l (LEv.fr [_] c3 rfl rfl ⟨rfl, trivial⟩ rfl rfl) ?_ | refine callK_rt (EvR.fr [_] c3 rfl rfl ⟨rfl, trivial⟩ rfl) ?_ | refine callK_rf rfl (EvR.fr [_] c3 rfl rfl ⟨rfl, trivial⟩ rfl) ?_ | refine callK_rft rfl (EvR.fr [_] c3 rfl rfl ⟨rfl, trivial⟩ rfl) ?_ | ((rw [u0])) | ((rw [u1])) | refine callK_p c4 ?_ | refine callM_p c4 rfl ?_ | refine callK_pf rfl c4 ?_ | refine callK_r (EvR.fr [_] c6 rfl rfl ⟨rfl, trivial⟩ rfl) ?_ | refine callM_l (LEv.fr [_] c6 rfl rfl ⟨rfl, trivial⟩ rfl rfl) ?_ | refine callK_rt (EvR.fr [_] c6 rfl rfl ⟨rfl, trivial⟩ rfl) ?_ | refine callK_rf rfl (EvR.fr [_] c6 rfl rfl ⟨rfl, trivial⟩ rfl) ?_ | refine callK_rft rfl (EvR.fr [_] c6 rfl rfl ⟨rfl, trivial⟩ rfl) ?_ | refine wpfS_seq1 ?_ | refine wpfS_go ?_ | fail) <;> conv => whnf)
      exact ⟨rfl, rfl⟩
set_option maxHeartbeats 2000000 in
theorem R21_Read_ok (B : List UInt8) (hB : B.length < 2 ^ 40) (s : St) (hs : Suf B s.b) : EvR PR G f_R21_Read [.c (.ptr (.par 0) 0)] ⟨s.px B, []⟩ (.agg (Idn.rd false s).1.row) ⟨(Idn.rd false s).2.px B, []⟩ := by
  unfold Idn.rd Idn.rd0
  dsimp only
  have c0 := px_num hs (by omega) 2 65535
  have s1' := hs.num false 2 65535
  have u0 := nv_u16 (s := s) (size := 2)
  generalize s.num false 2 65535 = s1 at *
  have c1 := px_num s1' (by omega) 2 65535
  have s2' := s1'.num false 2 65535
  have u1 := nv_u16 (s := s1) (size := 2)
  generalize s1.num false 2 65535 = s2 at *
  have c2 := px_num s2' (by omega) 1 3
  have s3' := s2'.num false 1 3
  generalize s2.num false 1 3 = s3 at *
  have c3 := px_num s3' (by omega) 1 3
  generalize s3.num false 1 3 = s4 at *
  generalize s.nv 2 65535 = v0 at *
  generalize s1.nv 2 65535 = v1 at *
  generalize s2.nv 1 3 = v2 at *
  generalize s3.nv 1 3 = v3 at *
  obtain ⟨e, b⟩ := s4
  unfold Idn.chk
  dsimp only
  refine EvR.of_wpfC false false hm c_R21_Read rfl rfl ?_
  conv => whnf
  by_cases he : e = 0
  · subst he
    rw [if_pos (show (St.mk 0 b).e = 0 from rfl)]
    by_cases hv : v2 = 0
    · rw [if_pos hv]
      repeat' ((first | refine brP_t (by assumption) ?_ | refine brP_f (by assumption) ?_ | refine brP_t (decide_eq_true (by omega)) ?_ | refine brP_f (decide_eq_false (by omega)) ?_ | refine brP_t (nd_t (by omega)) ?_ | refine brP_f (nd_f (by omega)) ?_ | refine callK_r (EvR.fr [_] c0 rfl rfl ⟨rfl, trivial⟩ rfl) ?_ | refine callM_l (LEv.fr [_] c0 rfl rfl ⟨rfl, trivial⟩ rfl rfl) ?_ | refine callK_rt (EvR.fr [_] c0 rfl rfl ⟨rfl, trivial⟩ rfl) ?_ | refine callK_rf rfl (EvR.fr [_] c0 rfl rfl ⟨rfl, trivial⟩ rfl) ?_ | refine callK_rft rfl (EvR.fr [_] c0 rfl rfl ⟨rfl, trivial⟩ rfl) ?_ | refine callK_r (EvR.fr [_] c1 rfl rfl ⟨rfl, trivial⟩ rfl) ?_ | refine callM_l (LEv.fr [_] c1 rfl rfl ⟨rfl, trivial⟩ rfl rfl) ?_ | refine callK_rt (EvR.fr [_] c1 rfl rfl ⟨rfl, trivial⟩ rfl) ?_ | refine callK_rf rfl (EvR.fr [_] c1 rfl rfl ⟨rfl, trivial⟩ rfl) ?_ | refine callK_rft rfl (EvR.fr [_] c1 rfl rfl ⟨rfl, trivial⟩ rfl) ?_ | refine callK_r (EvR.fr [_] c2 rfl rfl ⟨rfl, trivial⟩ rfl) ?_ | refine callM_l (LEv.fr [_] c2 rfl rfl ⟨rfl, trivial⟩ rfl rfl) ?_ | refine callK_rt (EvR.fr [_] c2 rfl rfl ⟨rfl, trivial⟩ rfl) ?_ | refine callK_rf rfl (EvR.fr [_] c2 rfl rfl ⟨rfl, trivial⟩ rfl) ?_ | refine callK_rft rfl (EvR.fr [_] c2 rfl rfl ⟨rfl, trivial⟩ rfl) ?_ | refine callK_r (EvR.fr [_] c3 rfl rfl ⟨rfl, trivial⟩ rfl) ?_ | refine callM_l (LEv.fr [_] c3 rfl rfl ⟨rfl, trivial⟩ rfl rfl) ?_ | refine callK_rt (EvR.fr [_] c3 rfl rfl ⟨rfl, trivial⟩ rfl) ?_ | refine callK_rf rfl (EvR.fr [_] c3 rfl rfl ⟨rfl, trivial⟩ rfl) ?_ | refine callK_rft rfl (EvR.fr [_] c3 rfl rfl ⟨rfl, trivial⟩ rfl) ?_ | ((rw [u0])) | ((rw [u1])) | refine wpfS_seq1 ?_ | refine wpfS_go ?_ | fail) <;> conv => whnf)
      exact ⟨rfl, rfl⟩
    · rw [if_neg hv]
      repeat' ((first | refine brP_t (by assumption) ?_ | refine brP_f (by assumption) ?_ | refine brP_t (decide_eq_true (by omega)) ?_ | refine brP_f (decide_eq_false (by omega)) ?_ | refine brP_t (nd_t (by omega)) ?_ | refine brP_f (nd_f (by omega)) ?_ | refine callK_r (EvR.fr [_] c0 rfl rfl ⟨rfl, trivial⟩ rfl) ?_ | refine callM_l (LEv.fr [_] c0 rfl rfl ⟨rfl, trivial⟩ rfl rfl) ?_ | refine callK_rt (EvR.fr [_] c0 rfl rfl ⟨rfl, trivial⟩ rfl) ?_ | refine callK_rf rfl (EvR.fr [_] c0 rfl rfl ⟨rfl, trivial⟩ rfl) ?_ | refine callK_rft rfl (EvR.fr [_] c0 rfl rfl ⟨rfl, trivial⟩ rfl) ?_ | refine callK_r (EvR.fr [_] c1 rfl rfl ⟨rfl, trivial⟩ rfl) ?_ | refine callM_l (LEv.fr [_] c1 rfl rfl ⟨rfl, trivial⟩ rfl rfl) ?_ | refine callK_rt (EvR.fr [_] c1 rfl rfl ⟨rfl, trivial⟩ rfl) ?_ | refine callK_rf rfl (EvR.fr [_] c1 rfl rfl ⟨rfl, trivial⟩ rfl) ?_ | refine callK_rft rfl (EvR.fr [_] c1 rfl rfl ⟨rfl, trivial⟩ rfl) ?_ | refine callK_r (EvR.fr [_] c2 rfl rfl ⟨rfl, trivial⟩ rfl) ?_ | refine callM_l (LEv.fr [_] c2 rfl rfl ⟨rfl, trivial⟩ rfl rfl) ?_ | refine callK_rt (EvR.fr [_] c2 rfl rfl ⟨rfl, trivial⟩ rfl) ?_ | refine callK_rf rfl (EvR.fr [_] c2 rfl rfl ⟨rfl, trivial⟩ rfl) ?_ | refine callK_rft rfl (EvR.fr [_] c2 rfl rfl ⟨rfl, trivial⟩ rfl) ?_ | refine callK_r (EvR.fr [_] c3 rfl rfl ⟨rfl, trivial⟩ rfl) ?_ | refine callM_l (LEv.fr [_] c3 rfl rfl ⟨rfl, trivial⟩ rfl rfl) ?_ | refine callK_rt (EvR.fr [_] c3 rfl rfl ⟨rfl, trivial⟩ rfl) ?_ | refine callK_rf rfl (EvR.fr [_] c3 rfl rfl ⟨rfl, trivial⟩ rfl) ?_ | refine callK_rft rfl (EvR.fr [_] c3 rfl rfl ⟨rfl, trivial⟩ rfl) ?_ | ((rw [u0])) | ((rw [u1])) | refine wpfS_seq1 ?_ | refine wpfS_go ?_ | fail) <;> conv => whnf)
      exact ⟨rfl, rfl⟩
  · rw [if_neg (show ¬ (St.mk e b).e = 0 from he)]
    repeat' ((first | refine brP_t (by assumption) ?_ | refine brP_f (by assumption) ?_ | refine brP_t (decide_eq_true (by omega)) ?_ | refine brP_f (decide_eq_false (by omega)) ?_ | refine brP_t (nd_t (by omega)) ?_ | refine brP_f (nd_f (by omega)) ?_ | refine callK_r (EvR.fr [_] c0 rfl rfl ⟨rfl, trivial⟩ rfl) ?_ | refine callM_l (LEv.fr [_] c0 rfl rfl ⟨rfl, trivial⟩ rfl rfl) ?_ | refine callK_rt (EvR.fr [_] c0 rfl rfl ⟨rfl, trivial⟩ rfl) ?_ | refine callK_rf rfl (EvR.fr [_] c0 rfl rfl ⟨rfl, trivial⟩ rfl) ?_ | refine callK_rft rfl (EvR.fr [_] c0 rfl rfl ⟨rfl, trivial⟩ rfl) ?_ | refine callK_r (EvR.fr [_] c1 rfl rfl ⟨rfl, trivial⟩ rfl) ?_ | refine callM_l (LEv.fr [_] c1 rfl rfl ⟨rfl, trivial⟩ rfl rfl) ?_ | refine callK_rt (EvR.fr [_] c1 rfl rfl ⟨rfl, trivial⟩ rfl) ?_ | refine callK_rf rfl (EvR.fr [_] c1 rfl rfl ⟨rfl, trivial⟩ rfl) ?_ | refine callK_rft rfl (EvR.fr [_] c1 rfl rfl ⟨rfl, trivial⟩ rfl) ?_ | refine callK_r (EvR.fr [_] c2 rfl rfl ⟨rfl, trivial⟩ rfl) ?_ | refine callM_l (LEv.fr [_] c2 rfl rfl ⟨rfl, trivial⟩ rfl rfl) ?_ | refine callK_rt (EvR.fr [_] c2 rfl rfl ⟨rfl, trivial⟩ rfl) ?_ | refine callK_rf rfl (EvR.fr [_] c2 rfl rfl ⟨rfl, trivial⟩ rfl) ?_ | refine callK_rft rfl (EvR.fr [_] c2 rfl rfl ⟨rfl, trivial⟩ rfl) ?_ | refine callK_r (EvR.fr [_] c3 rfl rfl ⟨rfl, trivial⟩ rfl) ?_ | refine callM_l (LEv.fr [_] c3 rfl rfl ⟨rfl, trivial⟩ rfl rfl) ?_ | refine callK_rt (EvR.fr [_] c3 rfl rfl ⟨rfl, trivial⟩ rfl) ?_ | refine callK_rf rfl (EvR.fr [_] c3 rfl rfl ⟨rfl, trivial⟩ rfl) ?_ | refine callK_rft rfl (EvR.fr [_] c3 rfl rfl ⟨rfl, trivial⟩ rfl) ?_ | ((rw [u0])) | ((rw [u1])) | refine wpfS_seq1 ?_ | refine wpfS_go ?_ | fail) <;> conv => whnf)
    exact ⟨rfl, rfl⟩
end Go.Ab.S

namespace Go.Ab.S
open Go Go.Ab Go.Proofs
attribute [local irreducible] SemS
set_option maxRecDepth 100000
theorem Idn.rd_same {s s' : St} (h : SameS s s') : (Idn.rd true s).1 = (Idn.rd false s').1 ∧ SameS (Idn.rd true s).2 (Idn.rd false s').2 := by
  have n0 := h.nv 2 65535
  have h1 := h.num 2 65535
  have n1 := h1.nv 2 65535
  have h2 := h1.num 2 65535
  have n2 := h2.nv 1 3
  have h3 := h2.num 1 3
  have n3 := h3.nv 1 3
  have hb : (Idn.rd0 true s).1 = (Idn.rd0 false s').1 := by
    show Idn.mk _ _ _ _ = Idn.mk _ _ _ _
    rw [n0, n1, n2, n3]
  have hs : SameS (Idn.rd0 true s).2 (Idn.rd0 false s').2 := h3.num 1 3
  unfold Idn.rd Idn.chk
  rw [← hs.e, ← hb]
  by_cases he : (Idn.rd0 true s).2.e = 0
  · rw [if_pos he, if_pos he]
    by_cases hf : (Idn.rd0 true s).1.k = 0
    · rw [if_pos hf, if_pos hf]; exact ⟨rfl, rfl, fun h => absurd (show (8 : Int) = 0 from h) (by decide)⟩
    · rw [if_neg hf, if_neg hf]; exact ⟨hb, hs⟩
  · rw [if_neg he, if_neg he]; exact ⟨rfl, hs⟩
theorem Idn.rd_suf {B : List UInt8} {s : St} (h : Suf B s.b) : Suf B (Idn.rd false s).2.b := by
  have hs : Suf B (Idn.rd0 false s).2.b := (((h.num false 2 65535).num false 2 65535).num false 1 3).num false 1 3
  unfold Idn.rd Idn.chk
  split
  · split
    · exact hs
    · exact hs
  · exact hs
def Idn.bytes (d : Idn) : List UInt8 := numB d.s 2 ++ (numB d.i 2 ++ (numB d.k.toNat 1 ++ numB d.n.toNat 1))
theorem Idn.bytes_len (d : Idn) : d.bytes.length = 6 := by
  unfold Idn.bytes
  simp only [List.length_append, numB_len]
theorem Idn.rd_back (keep : Bool) (d : Idn) (rest : List UInt8) (hs : d.s < 65536) (hi : d.i < 65536) (hk : 1 ≤ d.k ∧ d.k ≤ 3) (hn : 0 ≤ d.n ∧ d.n < 4) : Idn.rd keep ⟨0, d.bytes ++ rest⟩ = (d, ⟨0, rest⟩) := by
  obtain ⟨s, i, k, n⟩ := d
  dsimp only at hs hi hk hn
  obtain ⟨k, rfl⟩ := Int.eq_ofNat_of_zero_le (show 0 ≤ k by omega)
  obtain ⟨n, rfl⟩ := Int.eq_ofNat_of_zero_le hn.1
  have hw : (Idn.mk s i k n).bytes ++ rest = numB s 2 ++ (numB i 2 ++ (numB k 1 ++ (numB n 1 ++ rest))) := by
    show (numB s 2 ++ (numB i 2 ++ (numB k 1 ++ numB n 1))) ++ rest = _
    simp only [List.append_assoc]
  rw [hw]
  obtain ⟨a1, b1⟩ := num_back keep s 2 65535 (numB i 2 ++ (numB k 1 ++ (numB n 1 ++ rest))) (by omega) (by omega) (by omega)
  obtain ⟨a2, b2⟩ := num_back keep i 2 65535 (numB k 1 ++ (numB n 1 ++ rest)) (by omega) (by omega) (by omega)
  obtain ⟨a3, b3⟩ := num_back keep k 1 3 (numB n 1 ++ rest) (by omega) (by omega) (by omega)
  obtain ⟨a4, b4⟩ := num_back keep n 1 3 rest (by omega) (by omega) (by omega)
  have a1 : St.num keep ⟨0, _⟩ (2 : Int) 65535 = _ := a1
  have b1 : St.nv ⟨0, _⟩ (2 : Int) 65535 = _ := b1
  have a2 : St.num keep ⟨0, _⟩ (2 : Int) 65535 = _ := a2
  have b2 : St.nv ⟨0, _⟩ (2 : Int) 65535 = _ := b2
  have a3 : St.num keep ⟨0, _⟩ (1 : Int) 3 = _ := a3
  have b3 : St.nv ⟨0, _⟩ (1 : Int) 3 = _ := b3
  have a4 : St.num keep ⟨0, _⟩ (1 : Int) 3 = _ := a4
  have b4 : St.nv ⟨0, _⟩ (1 : Int) 3 = _ := b4
  have h0 : Idn.rd0 keep ⟨0, numB s 2 ++ (numB i 2 ++ (numB k 1 ++ (numB n 1 ++ rest)))⟩ = (⟨s, i, k, n⟩, ⟨0, rest⟩) := by
    unfold Idn.rd0
    dsimp only
    rw [a1, b1, a2, b2, a3, b3, a4, b4]
    rfl
  unfold Idn.rd
  rw [h0]
  unfold Idn.chk
  dsimp only
  rw [if_pos rfl, if_neg (by omega)]
set_option maxHeartbeats 1000000 in
theorem ident_Write_ok (e : Int) (bs : List UInt8) (hb : bs.length ≤ 2 ^ 38) (d : Idn) (hs : d.s < 65536) (hi : d.i < 65536) (hk : 1 ≤ d.k ∧ d.k ≤ 3) (hn : 0 ≤ d.n ∧ d.n < 4) : EvR PR G f_ident_Write [.c (.ptr (.par 0) 0), .agg d.row] ⟨wrB e bs, []⟩ (.tup []) ⟨wrB e (bs ++ d.bytes), []⟩ := by
  obtain ⟨s, i, k, n⟩ := d
  dsimp only at hs hi hk hn
  obtain ⟨k, rfl⟩ := Int.eq_ofNat_of_zero_le (show 0 ≤ k by omega)
  obtain ⟨n, rfl⟩ := Int.eq_ofNat_of_zero_le hn.1
  have w0 : IntKind.i64.wrap (s : Int) = (s : Int) := wrap64 (by omega)
  have w1 : IntKind.i64.wrap (i : Int) = (i : Int) := wrap64 (by omega)
  have c0 := w_num_ok e bs (by omega) s 2 (okNum_of (by omega) (by omega))
  have c1 := w_num_ok e (bs ++ numB s 2) (by rw [List.length_append, numB_len]; omega) i 2 (okNum_of (by omega) (by omega))
  have c2 := w_num_ok e (bs ++ numB s 2 ++ numB i 2) (by rw [List.length_append, List.length_append, numB_len, numB_len]; omega) k 1 (okNum_of (by omega) (by omega))
  have c3 := w_num_ok e (bs ++ numB s 2 ++ numB i 2 ++ numB k 1) (by rw [List.length_append, List.length_append, List.length_append, numB_len, numB_len, numB_len]; omega) n 1 (okNum_of (by omega) (by omega))
  have hfin : bs ++ (Idn.mk s i k n).bytes = bs ++ numB s 2 ++ numB i 2 ++ numB k 1 ++ numB n 1 := by
    show bs ++ (numB s 2 ++ (numB i 2 ++ (numB k 1 ++ numB n 1))) = _
    simp only [List.append_assoc]
  rw [hfin]
  clear hfin
  generalize bs ++ numB s 2 ++ numB i 2 ++ numB k 1 ++ numB n 1 = b4 at *
  generalize bs ++ numB s 2 ++ numB i 2 ++ numB k 1 = b3 at *
  generalize bs ++ numB s 2 ++ numB i 2 = b2 at *
  generalize bs ++ numB s 2 = b1 at *
  refine EvR.of_wpfC false false hm c_ident_Write rfl rfl ?_
  conv => whnf
  repeat' ((first | refine brP_t (by assumption) ?_ | refine brP_f (by assumption) ?_ | refine brP_t (decide_eq_true (by omega)) ?_ | refine brP_f (decide_eq_false (by omega)) ?_ | refine brP_t (nd_t (by omega)) ?_ | refine brP_f (nd_f (by omega)) ?_ | refine callK_r (EvR.fr [_, _] c0 rfl rfl ⟨rfl, rfl, trivial⟩ rfl) ?_ | refine callM_l (LEv.fr [_, _] c0 rfl rfl ⟨rfl, rfl, trivial⟩ rfl rfl) ?_ | refine callK_rt (EvR.fr [_, _] c0 rfl rfl ⟨rfl, rfl, trivial⟩ rfl) ?_ | refine callK_rf rfl (EvR.fr [_, _] c0 rfl rfl ⟨rfl, rfl, trivial⟩ rfl) ?_ | refine callK_rft rfl (EvR.fr [_, _] c0 rfl rfl ⟨rfl, rfl, trivial⟩ rfl) ?_ | refine callK_r (EvR.fr [_, _] c1 rfl rfl ⟨rfl, rfl, trivial⟩ rfl) ?_ | refine callM_l (LEv.fr [_, _] c1 rfl rfl ⟨rfl, rfl, trivial⟩ rfl rfl) ?_ | refine callK_rt (EvR.fr [_, _] c1 rfl rfl ⟨rfl, rfl, trivial⟩ rfl) ?_ | refine callK_rf rfl (EvR.fr [_, _] c1 rfl rfl ⟨rfl, rfl, trivial⟩ rfl) ?_ | refine callK_rft rfl (EvR.fr [_, _] c1 rfl rfl ⟨rfl, rfl, trivial⟩ rfl) ?_ | refine callK_r (EvR.fr [_, _] c2 rfl rfl ⟨rfl, rfl, trivial⟩ rfl) ?_ | refine callM_l (LEv.fr [_, _] c2 rfl rfl ⟨rfl, rfl, trivial⟩ rfl rfl) ?_ | refine callK_rt (EvR.fr [_, _] c2 rfl rfl ⟨rfl, rfl, trivial⟩ rfl) ?_ | refine callK_rf rfl (EvR.fr [_, _] c2 rfl rfl ⟨rfl, rfl, trivial⟩ rfl) ?_ | refine callK_rft rfl (EvR.fr [_, _] c2 rfl rfl ⟨rfl, rfl, trivial⟩ rfl) ?_ | refine callK_r (EvR.fr [_, _] c3 rfl rfl ⟨rfl, rfl, trivial⟩ rfl) ?_ | refine callM_l (LEv.fr [_, _] c3 rfl rfl ⟨rfl, rfl, trivial⟩ rfl rfl) ?_ | refine callK_rt (EvR.fr [_, _] c3 rfl rfl ⟨rfl, rfl, trivial⟩ rfl) ?_ | refine callK_rf rfl (EvR.fr [_, _] c3 rfl rfl ⟨rfl, rfl, trivial⟩ rfl) ?_ | refine callK_rft rfl (EvR.fr [_, _] c3 rfl rfl ⟨rfl, rfl, trivial⟩ rfl) ?_ | ((rw [w0])) | ((rw [w1])) | refine wpfS_seq1 ?_ | refine wpfS_go ?_ | fail) <;> conv => whnf)
  exact ⟨rfl, rfl⟩
end Go.Ab.S

namespace Go.Ab.S
open Go Go.Ab Go.Proofs
attribute [local irreducible] SemS
set_option maxRecDepth 100000
theorem object_get_ok (s : St) : EvR PR G f_object_get [.c (.ptr (.par 0) 0)] ⟨s.pr, []⟩ (.agg [.int .u16 (s.nv 2 65535).toNat, .int .u16 ((s.num true 2 65535).nv 2 65535).toNat]) ⟨((s.num true 2 65535).num true 2 65535).pr, []⟩ := by
  have c0 := pr_num s 2 65535 (by omega)
  have u0 := nv_u16 (s := s) (size := 2)
  generalize s.num true 2 65535 = s1 at *
  have c1 := pr_num s1 2 65535 (by omega)
  have u1 := nv_u16 (s := s1) (size := 2)
  generalize s1.num true 2 65535 = s2 at *
  generalize s.nv 2 65535 = v0 at *
  generalize s1.nv 2 65535 = v1 at *
  refine EvR.of_wpfC false false hm c_object_get rfl rfl ?_
  conv => whnf
  repeat' ((first | refine brP_t (by assumption) ?_ | refine brP_f (by assumption) ?_ | refine brP_t (decide_eq_true (by omega)) ?_ | refine brP_f (decide_eq_false (by omega)) ?_ | refine brP_t (nd_t (by omega)) ?_ | refine brP_f (nd_f (by omega)) ?_ | refine callK_r (EvR.fr [_] c0 rfl rfl ⟨rfl, trivial⟩ rfl) ?_ | refine callM_l (LEv.fr [_] c0 rfl rfl ⟨rfl, trivial⟩ rfl rfl) ?_ | refine callK_rt (EvR.fr [_] c0 rfl rfl ⟨rfl, trivial⟩ rfl) ?_ | refine callK_rf rfl (EvR.fr [_] c0 rfl rfl ⟨rfl, trivial⟩ rfl) ?_ | refine callK_rft rfl (EvR.fr [_] c0 rfl rfl ⟨rfl, trivial⟩ rfl) ?_ | refine callK_r (EvR.fr [_] c1 rfl rfl ⟨rfl, trivial⟩ rfl) ?_ | refine callM_l (LEv.fr [_] c1 rfl rfl ⟨rfl, trivial⟩ rfl rfl) ?_ | refine callK_rt (EvR.fr [_] c1 rfl rfl ⟨rfl, trivial⟩ rfl) ?_ | refine callK_rf rfl (EvR.fr [_] c1 rfl rfl ⟨rfl, trivial⟩ rfl) ?_ | refine callK_rft rfl (EvR.fr [_] c1 rfl rfl ⟨rfl, trivial⟩ rfl) ?_ | ((rw [u0])) | ((rw [u1])) | refine wpfS_seq1 ?_ | refine wpfS_go ?_ | fail) <;> conv => whnf)
  exact ⟨rfl, rfl⟩
def Ob.emp : Ob := ⟨0, 0, 0, 0, 0, 0, 0, false, 0, 0, 0, [], false, Bx.emp⟩
/-- The mailbox of an object of the kind that has one. -/
def Ob.rdB (keep : Bool) (k : Int) (s : St) : Bx × St := if k = 2 then Bx.rd keep s else (Bx.emp, s)
/-- An object, read, before the look at it. -/
def Ob.rd0 (keep : Bool) (s : St) : Ob × St :=
  let d := Idn.rd keep s
  let s2 := d.2.num keep 2 65535
  let s3 := s2.num keep 2 65535
  let s4 := s3.num keep 1 255
  let s5 := s4.num keep 1 3
  let s6 := s5.num keep 2 65535
  let s7 := s6.num keep 2 65535
  let s8 := s7.num keep 1 15
  let x := Ob.rdB keep d.1.k (s8.txt keep 64)
  (⟨d.1.s, d.1.i, d.1.k, d.1.n, (d.2.nv 2 65535).toNat, (s2.nv 2 65535).toNat, s3.nv 1 255, decide ((s4.nv 1 3).tmod 2 = 1), (s5.nv 2 65535).toNat, (s6.nv 2 65535).toNat, s7.nv 1 15, s8.tv 64, decide (1 < s4.nv 1 3), x.1⟩, x.2)
def Ob.chk (r : Ob × St) : Ob × St :=
  if r.2.e = 0 then (if r.1.fine then r else (Ob.emp, ⟨3, r.2.b⟩)) else (Ob.emp, r.2)
def Ob.rd (keep : Bool) (s : St) : Ob × St := Ob.chk (Ob.rd0 keep s)
end Go.Ab.S
