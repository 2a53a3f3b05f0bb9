/- Reading versions. No condition. Reading versions, by the document. No condition. -/
import Derived.Test.YtepldakgedckcaaDoorLY2
set_option linter.unusedSimpArgs false
set_option linter.unusedVariables false
namespace Go.Ab.S
open Go Go.Ab Go.Proofs
attribute [local irreducible] SemS
set_option maxRecDepth 100000
theorem app_po {n : Nat} {x : List (List PV)} {r : List PV} (h1 : n = x.length) (hl : n ≤ 1000) (hr : r.length = 66) : (true && decide (n = x.length ∧ 66 = 66 ∧ (n + [r].length) * 116 ≤ 2 ^ 47 ∧ n + [r].length < 2 ^ 62) && [r].all fun r => r.length == 66) = true := by
  rw [Bool.true_and, decide_eq_true (by refine ⟨h1, rfl, ?_, ?_⟩ <;> simp <;> omega)]
  simp [hr]
set_option maxHeartbeats 8000000 in
theorem version_Read_ok (s : St) : EvR PR G f_version_Read [.c (.ptr (.par 0) 0)] ⟨s.pr, []⟩ (.tup [iv (verRd true s).1.1, slv (pols (verRd true s).1.2)]) ⟨(verRd true s).2.pr, []⟩ := by
  have hR : verAll true s = polsRd true (keptN (s.nv 1 255)) [] (s.num true 1 255) := rfl
  have c0 := pr_num s 1 255 (by omega)
  unfold verRd
  generalize verAll true s = Q at *
  generalize s.num true 1 255 = s1 at *
  generalize s.nv 1 255 = e at *
  have hkn := keptN_le (e := e)
  have c1 := version_Kept_ok e
  generalize keptN e = n at *
  refine EvR.of_wpfC false true hm c_version_Read rfl rfl ?_
  conv => whnf
  repeat' ((first | refine brP_t (by assumption) ?_ | refine brP_f (by assumption) ?_ | refine brP_t (decide_eq_true (by omega)) ?_ | refine brP_f (decide_eq_false (by omega)) ?_ | refine brP_t (nd_t (by omega)) ?_ | refine brP_f (nd_f (by omega)) ?_ | refine wpfS_seq1 ?_ | refine wpfS_go ?_ | fail) <;> conv => whnf)
  (first | refine callK_r (EvR.fr [_] c0 rfl rfl ⟨rfl, trivial⟩ rfl) ?_ | refine callM_l (LEv.fr [_] c0 rfl rfl ⟨rfl, trivial⟩ rfl rfl) ?_ | refine callK_rt (EvR.fr [_] c0 rfl rfl ⟨rfl, trivial⟩ rfl) ?_ | refine callK_rf rfl (EvR.fr [_] c0 rfl rfl ⟨rfl, trivial⟩ rfl) ?_ | refine callK_rft rfl (EvR.fr [_] c0 rfl rfl ⟨rfl, trivial⟩ rfl) ?_)
  conv => whnf
  repeat' ((first | refine brP_t (by assumption) ?_ | refine brP_f (by assumption) ?_ | refine brP_t (decide_eq_true (by omega)) ?_ | refine brP_f (decide_eq_false (by omega)) ?_ | refine brP_t (nd_t (by omega)) ?_ | refine brP_f (nd_f (by omega)) ?_ | refine wpfS_seq1 ?_ | refine wpfS_go ?_ | fail) <;> conv => whnf)
  (first | refine callK_p c1 ?_ | refine callM_p c1 rfl ?_ | refine callK_pf rfl c1 ?_ | refine callK_pk rfl c1 ?_)
  conv => whnf
  repeat' ((first | refine brP_t (by assumption) ?_ | refine brP_f (by assumption) ?_ | refine brP_t (decide_eq_true (by omega)) ?_ | refine brP_f (decide_eq_false (by omega)) ?_ | refine brP_t (nd_t (by omega)) ?_ | refine brP_f (nd_f (by omega)) ?_ | refine wpfS_seq1 ?_ | refine wpfS_go ?_ | fail) <;> conv => whnf)
  refine SemS.nilT 5 66 (by decide) rfl ?_
  refine SemS.loopC false hm (σ := Nat × List Pol × St) (fun x => [(10, iv x.1), (9, iv n), (5, .c (.os (.loc 0) x.2.1.length)), (4, iv e), (0, .c (.ptr (.par 0) 0))]) (fun x => ⟨x.2.2.pr, [.arr 66 false (pols x.2.1)]⟩) (fun x => n - x.1) (fun x => x.1 ≤ n ∧ x.2.1.length ≤ x.1 ∧ Q = polsRd true (n - x.1) x.2.1 x.2.2) (0, [], s1) ⟨Nat.zero_le _, Nat.le_refl _, hR⟩ ⟨rfl, rfl, rfl, rfl, rfl, trivial⟩ rfl ?_
  rintro ⟨i, o, q⟩ ⟨hi, ho, hQ⟩
  dsimp only at hi ho hQ ⊢
  have hol := pols_len (l := o)
  by_cases hin : (i : Int) < n
  case neg =>
    rw [show n - i = 0 by omega] at hQ
    have hQ : Q = (o, q) := hQ
    subst hQ
    dsimp only
    have ce := pr_err q
    by_cases he : q.e = 0
    · rw [if_pos he]
      refine wpf_seq1 ?_
      conv => whnf
      repeat' ((first | refine brP_t (by assumption) ?_ | refine brP_f (by assumption) ?_ | refine brP_t (decide_eq_true (by omega)) ?_ | refine brP_f (decide_eq_false (by omega)) ?_ | refine brP_t (nd_t (by omega)) ?_ | refine brP_f (nd_f (by omega)) ?_ | refine callK_r (EvR.fr [_] ce rfl rfl ⟨rfl, trivial⟩ rfl) ?_ | refine callM_l (LEv.fr [_] ce rfl rfl ⟨rfl, trivial⟩ rfl rfl) ?_ | refine callK_rt (EvR.fr [_] ce rfl rfl ⟨rfl, trivial⟩ rfl) ?_ | refine callK_rf rfl (EvR.fr [_] ce rfl rfl ⟨rfl, trivial⟩ rfl) ?_ | refine callK_rft rfl (EvR.fr [_] ce rfl rfl ⟨rfl, trivial⟩ rfl) ?_ | (refine gd_mk ?_ ?_; focus (rw [decide_eq_true hol.symm]; rfl; done)) | refine wpfS_seq1 ?_ | refine wpfS_go ?_ | fail) <;> conv => whnf)
      exact ⟨rfl, rfl⟩
    · rw [if_neg he]
      refine wpf_seq1 ?_
      conv => whnf
      repeat' ((first | refine brP_t (by assumption) ?_ | refine brP_f (by assumption) ?_ | refine brP_t (decide_eq_true (by omega)) ?_ | refine brP_f (decide_eq_false (by omega)) ?_ | refine brP_t (nd_t (by omega)) ?_ | refine brP_f (nd_f (by omega)) ?_ | refine callK_r (EvR.fr [_] ce rfl rfl ⟨rfl, trivial⟩ rfl) ?_ | refine callM_l (LEv.fr [_] ce rfl rfl ⟨rfl, trivial⟩ rfl rfl) ?_ | refine callK_rt (EvR.fr [_] ce rfl rfl ⟨rfl, trivial⟩ rfl) ?_ | refine callK_rf rfl (EvR.fr [_] ce rfl rfl ⟨rfl, trivial⟩ rfl) ?_ | refine callK_rft rfl (EvR.fr [_] ce rfl rfl ⟨rfl, trivial⟩ rfl) ?_ | refine wpfS_seq1 ?_ | refine wpfS_go ?_ | fail) <;> conv => whnf)
      exact ⟨rfl, rfl⟩
  rw [show n - i = (n - (i + 1)) + 1 by omega] at hQ
  have hQ : Q = polsRd true (n - (i + 1)) (o ++ [(polRd true q).1]) (polRd true q).2 := hQ
  have hw2 : IntKind.i64.wrap ((i : Int) + 1) = ((i + 1 : Nat) : Int) := by rw [wrap64 (by omega)]; rfl
  have d1 := policy_Read_ok q
  generalize (polRd true q).1 = p1 at *
  generalize (polRd true q).2 = q1 at *
  have hl2 : (o ++ [p1]).length = o.length + 1 := by rw [List.length_append]; rfl
  have hc2 := pols_app o p1
  have hlp := row66 p1
  have d1 : EvR PR G f_policy_Read [.c (.ptr (.par 0) 0)] ⟨q.pr, []⟩ (.agg p1.row) ⟨q1.pr, []⟩ := d1
  generalize o ++ [p1] = o2 at *
  generalize p1.row = R1 at *
  refine wpf_seq1 ?_
  conv => whnf
  repeat' ((first | refine brP_t (by assumption) ?_ | refine brP_f (by assumption) ?_ | refine brP_t (decide_eq_true (by omega)) ?_ | refine brP_f (decide_eq_false (by omega)) ?_ | refine brP_t (nd_t (by omega)) ?_ | refine brP_f (nd_f (by omega)) ?_ | ((rw [hw2])) | (refine gd_mk ?_ ?_; focus (exact app_po hol.symm (by omega) hlp; done)) | refine wpfS_seq1 ?_ | refine wpfS_go ?_ | fail) <;> conv => whnf)
  (first | refine callK_r (EvR.fr [_] d1 rfl rfl ⟨rfl, trivial⟩ rfl) ?_ | refine callM_l (LEv.fr [_] d1 rfl rfl ⟨rfl, trivial⟩ rfl rfl) ?_ | refine callK_rt (EvR.fr [_] d1 rfl rfl ⟨rfl, trivial⟩ rfl) ?_ | refine callK_rf rfl (EvR.fr [_] d1 rfl rfl ⟨rfl, trivial⟩ rfl) ?_ | refine callK_rft rfl (EvR.fr [_] d1 rfl rfl ⟨rfl, trivial⟩ rfl) ?_)
  conv => whnf
  repeat' ((first | refine brP_t (by assumption) ?_ | refine brP_f (by assumption) ?_ | refine brP_t (decide_eq_true (by omega)) ?_ | refine brP_f (decide_eq_false (by omega)) ?_ | refine brP_t (nd_t (by omega)) ?_ | refine brP_f (nd_f (by omega)) ?_ | ((rw [hw2])) | (refine gd_mk ?_ ?_; focus (exact app_po hol.symm (by omega) hlp; done)) | refine wpfS_seq1 ?_ | refine wpfS_go ?_ | fail) <;> conv => whnf)
  refine ⟨(i + 1, o2, q1), 1, ⟨by show i + 1 ≤ n; omega, by show o2.length ≤ i + 1; omega, hQ⟩, (show n - (i + 1) < n - i by omega), ⟨rfl, rfl, ?_, rfl, rfl, trivial⟩, Nat.le_refl _, ?_, rfl, rfl⟩
  · show AV.c (.os (.loc 0) (o.length + 1)) = AV.c (.os (.loc 0) o2.length)
    rw [hl2]
  · show _ = (⟨q1.pr, [.arr 66 false (pols o2)]⟩ : Hp)
    rw [hc2]
    rfl
end Go.Ab.S

namespace Go.Ab.S
open Go Go.Ab Go.Proofs
attribute [local irreducible] SemS
set_option maxRecDepth 100000
set_option maxHeartbeats 8000000 in
theorem R14_Read_ok (B : List UInt8) (hB : B.length < 2 ^ 40) (s : St) (hs : Suf B s.b) : EvR PR G f_R14_Read [.c (.ptr (.par 0) 0)] ⟨s.px B, []⟩ (.tup [iv (verRd false s).1.1, slv (pols (verRd false s).1.2)]) ⟨(verRd false s).2.px B, []⟩ := by
  have hB2 : B.length < 2 ^ 62 := by omega
  have hR : verAll false s = polsRd false (keptN (s.nv 1 255)) [] (s.num false 1 255) := rfl
  have c0 := px_byte hs hB2 255 (by omega)
  have hs1 := hs.num false 1 255
  unfold verRd
  generalize verAll false s = Q at *
  generalize s.num false 1 255 = s1 at *
  generalize s.nv 1 255 = e at *
  have hkn := keptN_le (e := e)
  have c1 := R14_Kept_ok e
  generalize keptN e = n at *
  refine EvR.of_wpfC false true hm c_R14_Read rfl rfl ?_
  conv => whnf
  repeat' ((first | refine brP_t (by assumption) ?_ | refine brP_f (by assumption) ?_ | refine brP_t (decide_eq_true (by omega)) ?_ | refine brP_f (decide_eq_false (by omega)) ?_ | refine brP_t (nd_t (by omega)) ?_ | refine brP_f (nd_f (by omega)) ?_ | refine wpfS_seq1 ?_ | refine wpfS_go ?_ | fail) <;> conv => whnf)
  (first | refine callK_r (EvR.fr [_] c0 rfl rfl ⟨rfl, trivial⟩ rfl) ?_ | refine callM_l (LEv.fr [_] c0 rfl rfl ⟨rfl, trivial⟩ rfl rfl) ?_ | refine callK_rt (EvR.fr [_] c0 rfl rfl ⟨rfl, trivial⟩ rfl) ?_ | refine callK_rf rfl (EvR.fr [_] c0 rfl rfl ⟨rfl, trivial⟩ rfl) ?_ | refine callK_rft rfl (EvR.fr [_] c0 rfl rfl ⟨rfl, trivial⟩ rfl) ?_)
  conv => whnf
  repeat' ((first | refine brP_t (by assumption) ?_ | refine brP_f (by assumption) ?_ | refine brP_t (decide_eq_true (by omega)) ?_ | refine brP_f (decide_eq_false (by omega)) ?_ | refine brP_t (nd_t (by omega)) ?_ | refine brP_f (nd_f (by omega)) ?_ | refine wpfS_seq1 ?_ | refine wpfS_go ?_ | fail) <;> conv => whnf)
  refine SemS.nilT 5 66 (by decide) rfl ?_
  refine SemS.loopC false hm (σ := Nat × List Pol × St) (fun x => [(6, iv x.1), (5, .c (.os (.loc 0) x.2.1.length)), (4, iv e), (0, .c (.ptr (.par 0) 0))]) (fun x => ⟨x.2.2.px B, [.arr 66 false (pols x.2.1)]⟩) (fun x => n - x.1) (fun x => x.1 ≤ n ∧ (x.2.1.length ≤ x.1 ∧ Suf B x.2.2.b) ∧ Q = polsRd false (n - x.1) x.2.1 x.2.2) (0, [], s1) ⟨Nat.zero_le _, ⟨Nat.le_refl _, hs1⟩, hR⟩ ⟨rfl, rfl, rfl, rfl, trivial⟩ rfl ?_
  rintro ⟨i, o, q⟩ ⟨hi, ⟨ho, hq⟩, hQ⟩
  dsimp only at hi ho hQ hq ⊢
  have hol := pols_len (l := o)
  by_cases hin : (i : Int) < n
  case neg =>
    rw [show n - i = 0 by omega] at hQ
    have hQ : Q = (o, q) := hQ
    subst hQ
    dsimp only
    obtain ⟨qe, qb⟩ := q
    by_cases he : qe = 0
    · rw [if_pos he]
      subst he
      refine wpf_seq1 ?_
      conv => whnf
      repeat' ((first | refine brP_t (by assumption) ?_ | refine brP_f (by assumption) ?_ | refine brP_t (decide_eq_true (by omega)) ?_ | refine brP_f (decide_eq_false (by omega)) ?_ | refine brP_t (nd_t (by omega)) ?_ | refine brP_f (nd_f (by omega)) ?_ | refine callK_p c1 ?_ | refine callM_p c1 rfl ?_ | refine callK_pf rfl c1 ?_ | refine callK_pk rfl c1 ?_ | (refine gd_mk ?_ ?_; focus (rw [decide_eq_true hol.symm]; rfl; done)) | refine wpfS_seq1 ?_ | refine wpfS_go ?_ | fail) <;> conv => whnf)
      exact ⟨rfl, rfl⟩
    · rw [if_neg he]
      refine wpf_seq1 ?_
      conv => whnf
      repeat' ((first | refine brP_t (by assumption) ?_ | refine brP_f (by assumption) ?_ | refine brP_t (decide_eq_true (by omega)) ?_ | refine brP_f (decide_eq_false (by omega)) ?_ | refine brP_t (nd_t (by omega)) ?_ | refine brP_f (nd_f (by omega)) ?_ | refine callK_p c1 ?_ | refine callM_p c1 rfl ?_ | refine callK_pf rfl c1 ?_ | refine callK_pk rfl c1 ?_ | refine wpfS_seq1 ?_ | refine wpfS_go ?_ | fail) <;> conv => whnf)
      exact ⟨rfl, rfl⟩
  rw [show n - i = (n - (i + 1)) + 1 by omega] at hQ
  have hQ : Q = polsRd false (n - (i + 1)) (o ++ [(polRd false q).1]) (polRd false q).2 := hQ
  have hw2 : IntKind.i64.wrap ((i : Int) + 1) = ((i + 1 : Nat) : Int) := by rw [wrap64 (by omega)]; rfl
  have d1 := R12_Read_ok B hB q hq
  have hq1 := polRd_suf (keep := false) hq
  generalize (polRd false q).1 = p1 at *
  generalize (polRd false q).2 = q1 at *
  have hl2 : (o ++ [p1]).length = o.length + 1 := by rw [List.length_append]; rfl
  have hc2 := pols_app o p1
  have hlp := row66 p1
  have d1 : EvR PR G f_R12_Read [.c (.ptr (.par 0) 0)] ⟨q.px B, []⟩ (.agg p1.row) ⟨q1.px B, []⟩ := d1
  generalize o ++ [p1] = o2 at *
  generalize p1.row = R1 at *
  refine wpf_seq1 ?_
  conv => whnf
  repeat' ((first | refine brP_t (by assumption) ?_ | refine brP_f (by assumption) ?_ | refine brP_t (decide_eq_true (by omega)) ?_ | refine brP_f (decide_eq_false (by omega)) ?_ | refine brP_t (nd_t (by omega)) ?_ | refine brP_f (nd_f (by omega)) ?_ | ((rw [hw2])) | (refine gd_mk ?_ ?_; focus (exact app_po hol.symm (by omega) hlp; done)) | refine wpfS_seq1 ?_ | refine wpfS_go ?_ | fail) <;> conv => whnf)
  (first | refine callK_p c1 ?_ | refine callM_p c1 rfl ?_ | refine callK_pf rfl c1 ?_ | refine callK_pk rfl c1 ?_)
  conv => whnf
  repeat' ((first | refine brP_t (by assumption) ?_ | refine brP_f (by assumption) ?_ | refine brP_t (decide_eq_true (by omega)) ?_ | refine brP_f (decide_eq_false (by omega)) ?_ | refine brP_t (nd_t (by omega)) ?_ | refine brP_f (nd_f (by omega)) ?_ | ((rw [hw2])) | (refine gd_mk ?_ ?_; focus (exact app_po hol.symm (by omega) hlp; done)) | refine wpfS_seq1 ?_ | refine wpfS_go ?_ | fail) <;> conv => whnf)
  (first | refine callK_r (EvR.fr [_] d1 rfl rfl ⟨rfl, trivial⟩ rfl) ?_ | refine callM_l (LEv.fr [_] d1 rfl rfl ⟨rfl, trivial⟩ rfl rfl) ?_ | refine callK_rt (EvR.fr [_] d1 rfl rfl ⟨rfl, trivial⟩ rfl) ?_ | refine callK_rf rfl (EvR.fr [_] d1 rfl rfl ⟨rfl, trivial⟩ rfl) ?_ | refine callK_rft rfl (EvR.fr [_] d1 rfl rfl ⟨rfl, trivial⟩ rfl) ?_)
  conv => whnf
  repeat' ((first | refine brP_t (by assumption) ?_ | refine brP_f (by assumption) ?_ | refine brP_t (decide_eq_true (by omega)) ?_ | refine brP_f (decide_eq_false (by omega)) ?_ | refine brP_t (nd_t (by omega)) ?_ | refine brP_f (nd_f (by omega)) ?_ | ((rw [hw2])) | (refine gd_mk ?_ ?_; focus (exact app_po hol.symm (by omega) hlp; done)) | refine wpfS_seq1 ?_ | refine wpfS_go ?_ | fail) <;> conv => whnf)
  refine ⟨(i + 1, o2, q1), 1, ⟨by show i + 1 ≤ n; omega, ⟨by show o2.length ≤ i + 1; omega, hq1⟩, hQ⟩, (show n - (i + 1) < n - i by omega), ⟨rfl, ?_, rfl, rfl, trivial⟩, Nat.le_refl _, ?_, rfl, rfl⟩
  · show AV.c (.os (.loc 0) (o.length + 1)) = AV.c (.os (.loc 0) o2.length)
    rw [hl2]
  · show _ = (⟨q1.px B, [.arr 66 false (pols o2)]⟩ : Hp)
    rw [hc2]
    rfl
end Go.Ab.S
