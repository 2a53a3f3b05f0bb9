/- ObjectBytes. No condition. -/
import Derived.Test.YtmohadlgjokgmaaLQB
import Derived.Test.YtmohadlgjokgmaaLO7
set_option linter.unusedSimpArgs false
set_option linter.unusedVariables false
namespace Go.Ab.S
open Go Go.Ab Go.Proofs
attribute [local irreducible] SemS
set_option maxRecDepth 100000
set_option maxHeartbeats 8000000 in
theorem objectBytes_ok (o : Ob) (ho : o.Ok) (hl : o.Lim) (B : List UInt8) : EvP PR G f_L25_ObjectBytes [.agg o.row, slv (bytesOf B)] (bv true) := by
  have hBl := bytesOf_len B
  have c0 := L25_Far_ok o hl
  refine EvP.of_wpf false hm c_L25_ObjectBytes rfl ?_
  refine wpf_seq1 ?_
  conv => whnf
  cases hfx : farB o with
  | true =>
    rw [hfx] at c0
    repeat' ((first | refine brP_t (by assumption) ?_ | refine brP_f (by assumption) ?_ | refine brP_t (decide_eq_true (by omega)) ?_ | refine brP_f (decide_eq_false (by omega)) ?_ | refine brP_t (nd_t (by omega)) ?_ | refine brP_f (nd_f (by omega)) ?_ | refine callK_p c0 ?_ | refine callM_p c0 rfl ?_ | refine callK_pf rfl c0 ?_ | refine callK_pk rfl c0 ?_ | refine callK_p L25_alive_ok ?_ | refine callM_p L25_alive_ok rfl ?_ | refine callK_pf rfl L25_alive_ok ?_ | refine callK_pk rfl L25_alive_ok ?_ | refine wpfS_seq1 ?_ | refine wpfS_go ?_ | fail) <;> conv => whnf)
    rfl
  | false =>
  rw [hfx] at c0
  by_cases hB : 1000 < B.length
  · repeat' ((first | refine brP_t (by assumption) ?_ | refine brP_f (by assumption) ?_ | refine brP_t (decide_eq_true (by omega)) ?_ | refine brP_f (decide_eq_false (by omega)) ?_ | refine brP_t (nd_t (by omega)) ?_ | refine brP_f (nd_f (by omega)) ?_ | ((rw [hBl])) | refine callK_p c0 ?_ | refine callM_p c0 rfl ?_ | refine callK_pf rfl c0 ?_ | refine callK_pk rfl c0 ?_ | refine callK_p L25_alive_ok ?_ | refine callM_p L25_alive_ok rfl ?_ | refine callK_pf rfl L25_alive_ok ?_ | refine callK_pk rfl L25_alive_ok ?_ | refine wpfS_seq1 ?_ | refine wpfS_go ?_ | fail) <;> conv => whnf)
    rfl
  have c1 := NewReader_ok B
  have c2 := object_Read_ok ⟨0, B⟩
  have c3 := R25_Read_ok B (by omega) ⟨0, B⟩ (Suf.refl B)
  obtain ⟨k1, k2⟩ := Ob.rd_same (SameS.refl ⟨0, B⟩)
  have k3 := Ob.rd_lim true ⟨0, B⟩
  have k4 := Ob.rd_suf (s := ⟨0, B⟩) (Suf.refl B)
  rw [← k1] at c3
  generalize (Ob.rd true ⟨0, B⟩).1 = r at *
  generalize (Ob.rd true ⟨0, B⟩).2 = s at *
  generalize (Ob.rd false ⟨0, B⟩).2 = s' at *
  clear k1
  have c4 := object_Same_ok r r k3
  rw [decide_eq_true rfl] at c4
  have c5 := pr_err s
  have c6 := pr_left s
  have c7 := px_left k4 (by omega)
  rw [← k2.left] at c7
  have he := k2.e
  obtain ⟨e, y⟩ := s
  obtain ⟨e', y'⟩ := s'
  have he : e = e' := he
  subst he
  have hpx : (St.mk 0 B).px B = [Blk.row [.sl (bytesOf B), .int .i64 0, .int .i64 0]] := by
    show [Blk.row [.sl (bytesOf B), .int .i64 ((B.length - B.length : Nat) : Int), .int .i64 0]] = _
    rw [Nat.sub_self]; rfl
  rw [hpx] at c3
  generalize leftR (St.mk e y).e (St.mk e y).b = lf at *
  have f0 := R25_Fine_ok o hl
  repeat' ((first | refine brP_t (by assumption) ?_ | refine brP_f (by assumption) ?_ | refine brP_t (decide_eq_true (by omega)) ?_ | refine brP_f (decide_eq_false (by omega)) ?_ | refine brP_t (nd_t (by omega)) ?_ | refine brP_f (nd_f (by omega)) ?_ | ((rw [hBl])) | refine callK_p c0 ?_ | refine callM_p c0 rfl ?_ | refine callK_pf rfl c0 ?_ | refine callK_pk rfl c0 ?_ | refine wpfS_seq1 ?_ | refine wpfS_go ?_ | fail) <;> conv => whnf)
  cases hf : o.fine with
  | false =>
    rw [hf] at f0
    repeat' ((first | refine brP_t (by assumption) ?_ | refine brP_f (by assumption) ?_ | refine brP_t (decide_eq_true (by omega)) ?_ | refine brP_f (decide_eq_false (by omega)) ?_ | refine brP_t (nd_t (by omega)) ?_ | refine brP_f (nd_f (by omega)) ?_ | refine callK_r (EvR.fr [] c1 rfl rfl trivial rfl) ?_ | refine callM_l (LEv.fr [] c1 rfl rfl trivial rfl rfl) ?_ | refine callK_rt (EvR.fr [] c1 rfl rfl trivial rfl) ?_ | refine callK_rf rfl (EvR.fr [] c1 rfl rfl trivial rfl) ?_ | refine callK_rft rfl (EvR.fr [] c1 rfl rfl trivial rfl) ?_ | refine callK_r (EvR.fr [_] c2 rfl rfl ⟨rfl, trivial⟩ rfl) ?_ | refine callM_l (LEv.fr [_] c2 rfl rfl ⟨rfl, trivial⟩ rfl rfl) ?_ | refine callK_rt (EvR.fr [_] c2 rfl rfl ⟨rfl, trivial⟩ rfl) ?_ | refine callK_rf rfl (EvR.fr [_] c2 rfl rfl ⟨rfl, trivial⟩ rfl) ?_ | refine callK_rft rfl (EvR.fr [_] c2 rfl rfl ⟨rfl, trivial⟩ rfl) ?_ | refine callK_r (EvR.fr [_] c3 rfl rfl ⟨rfl, trivial⟩ rfl) ?_ | refine callM_l (LEv.fr [_] c3 rfl rfl ⟨rfl, trivial⟩ rfl rfl) ?_ | refine callK_rt (EvR.fr [_] c3 rfl rfl ⟨rfl, trivial⟩ rfl) ?_ | refine callK_rf rfl (EvR.fr [_] c3 rfl rfl ⟨rfl, trivial⟩ rfl) ?_ | refine callK_rft rfl (EvR.fr [_] c3 rfl rfl ⟨rfl, trivial⟩ rfl) ?_ | refine callM_p c4 rfl ?_ | refine callK_r (EvR.fr [_] c5 rfl rfl ⟨rfl, trivial⟩ rfl) ?_ | refine callM_l (LEv.fr [_] c5 rfl rfl ⟨rfl, trivial⟩ rfl rfl) ?_ | refine callK_rt (EvR.fr [_] c5 rfl rfl ⟨rfl, trivial⟩ rfl) ?_ | refine callK_rf rfl (EvR.fr [_] c5 rfl rfl ⟨rfl, trivial⟩ rfl) ?_ | refine callK_rft rfl (EvR.fr [_] c5 rfl rfl ⟨rfl, trivial⟩ rfl) ?_ | refine callK_r (EvR.fr [_] c6 rfl rfl ⟨rfl, trivial⟩ rfl) ?_ | refine callM_l (LEv.fr [_] c6 rfl rfl ⟨rfl, trivial⟩ rfl rfl) ?_ | refine callK_rt (EvR.fr [_] c6 rfl rfl ⟨rfl, trivial⟩ rfl) ?_ | refine callK_rf rfl (EvR.fr [_] c6 rfl rfl ⟨rfl, trivial⟩ rfl) ?_ | refine callK_rft rfl (EvR.fr [_] c6 rfl rfl ⟨rfl, trivial⟩ rfl) ?_ | refine callK_r (EvR.fr [_] c7 rfl rfl ⟨rfl, trivial⟩ rfl) ?_ | refine callM_l (LEv.fr [_] c7 rfl rfl ⟨rfl, trivial⟩ rfl rfl) ?_ | refine callK_rt (EvR.fr [_] c7 rfl rfl ⟨rfl, trivial⟩ rfl) ?_ | refine callK_rf rfl (EvR.fr [_] c7 rfl rfl ⟨rfl, trivial⟩ rfl) ?_ | refine callK_rft rfl (EvR.fr [_] c7 rfl rfl ⟨rfl, trivial⟩ rfl) ?_ | refine brP_f (nd_f rfl) ?_ | refine callK_p f0 ?_ | refine callM_p f0 rfl ?_ | refine callK_pf rfl f0 ?_ | refine callK_pk rfl f0 ?_ | refine callK_p L25_alive_ok ?_ | refine callM_p L25_alive_ok rfl ?_ | refine callK_pf rfl L25_alive_ok ?_ | refine callK_pk rfl L25_alive_ok ?_ | refine wpfS_seq1 ?_ | refine wpfS_go ?_ | fail) <;> conv => whnf)
    rfl
  | true =>
    rw [hf] at f0
    have hw := Ob.wr_of hf ho
    have d1 := object_Write_ok 0 [] (by simp) o hw
    have d2 := R25_Write_ok 0 [] (by simp) o hw
    rw [List.nil_append] at d1 d2
    have d1 := fresh_w d1 rfl rfl rfl
    have d2 := fresh_rw d2 rfl rfl rfl
    have hbl : o.bytes.length ≤ 2 ^ 40 := Nat.le_trans (Ob.bytes_len hw) (by decide)
    have d3 := w_done_ok o.bytes hbl
    have d4 := NewReader_ok o.bytes
    have hrb := Ob.rd_back true o [] hf ho
    rw [List.append_nil] at hrb
    have d5 := object_Read_ok ⟨0, o.bytes⟩
    rw [hrb] at d5
    dsimp only at d5
    have d6 := R25_Same_ok o o hl
    rw [decide_eq_true rfl] at d6
    have d7 := pr_err ⟨0, []⟩
    have d8 := pr_left ⟨0, []⟩
    have hbl2 := bytesOf_len o.bytes
    generalize o.bytes = W at *
    clear hrb
    repeat' ((first | refine brP_t (by assumption) ?_ | refine brP_f (by assumption) ?_ | refine brP_t (decide_eq_true (by omega)) ?_ | refine brP_f (decide_eq_false (by omega)) ?_ | refine brP_t (nd_t (by omega)) ?_ | refine brP_f (nd_f (by omega)) ?_ | refine callK_r (EvR.fr [] c1 rfl rfl trivial rfl) ?_ | refine callM_l (LEv.fr [] c1 rfl rfl trivial rfl rfl) ?_ | refine callK_rt (EvR.fr [] c1 rfl rfl trivial rfl) ?_ | refine callK_rf rfl (EvR.fr [] c1 rfl rfl trivial rfl) ?_ | refine callK_rft rfl (EvR.fr [] c1 rfl rfl trivial rfl) ?_ | refine callK_r (EvR.fr [_] c2 rfl rfl ⟨rfl, trivial⟩ rfl) ?_ | refine callM_l (LEv.fr [_] c2 rfl rfl ⟨rfl, trivial⟩ rfl rfl) ?_ | refine callK_rt (EvR.fr [_] c2 rfl rfl ⟨rfl, trivial⟩ rfl) ?_ | refine callK_rf rfl (EvR.fr [_] c2 rfl rfl ⟨rfl, trivial⟩ rfl) ?_ | refine callK_rft rfl (EvR.fr [_] c2 rfl rfl ⟨rfl, trivial⟩ rfl) ?_ | refine callK_r (EvR.fr [_] c3 rfl rfl ⟨rfl, trivial⟩ rfl) ?_ | refine callM_l (LEv.fr [_] c3 rfl rfl ⟨rfl, trivial⟩ rfl rfl) ?_ | refine callK_rt (EvR.fr [_] c3 rfl rfl ⟨rfl, trivial⟩ rfl) ?_ | refine callK_rf rfl (EvR.fr [_] c3 rfl rfl ⟨rfl, trivial⟩ rfl) ?_ | refine callK_rft rfl (EvR.fr [_] c3 rfl rfl ⟨rfl, trivial⟩ rfl) ?_ | refine callM_p c4 rfl ?_ | refine callK_r (EvR.fr [_] c5 rfl rfl ⟨rfl, trivial⟩ rfl) ?_ | refine callM_l (LEv.fr [_] c5 rfl rfl ⟨rfl, trivial⟩ rfl rfl) ?_ | refine callK_rt (EvR.fr [_] c5 rfl rfl ⟨rfl, trivial⟩ rfl) ?_ | refine callK_rf rfl (EvR.fr [_] c5 rfl rfl ⟨rfl, trivial⟩ rfl) ?_ | refine callK_rft rfl (EvR.fr [_] c5 rfl rfl ⟨rfl, trivial⟩ rfl) ?_ | refine callK_r (EvR.fr [_] c6 rfl rfl ⟨rfl, trivial⟩ rfl) ?_ | refine callM_l (LEv.fr [_] c6 rfl rfl ⟨rfl, trivial⟩ rfl rfl) ?_ | refine callK_rt (EvR.fr [_] c6 rfl rfl ⟨rfl, trivial⟩ rfl) ?_ | refine callK_rf rfl (EvR.fr [_] c6 rfl rfl ⟨rfl, trivial⟩ rfl) ?_ | refine callK_rft rfl (EvR.fr [_] c6 rfl rfl ⟨rfl, trivial⟩ rfl) ?_ | refine callK_r (EvR.fr [_] c7 rfl rfl ⟨rfl, trivial⟩ rfl) ?_ | refine callM_l (LEv.fr [_] c7 rfl rfl ⟨rfl, trivial⟩ rfl rfl) ?_ | refine callK_rt (EvR.fr [_] c7 rfl rfl ⟨rfl, trivial⟩ rfl) ?_ | refine callK_rf rfl (EvR.fr [_] c7 rfl rfl ⟨rfl, trivial⟩ rfl) ?_ | refine callK_rft rfl (EvR.fr [_] c7 rfl rfl ⟨rfl, trivial⟩ rfl) ?_ | refine brP_f (nd_f rfl) ?_ | refine callK_p f0 ?_ | refine callM_p f0 rfl ?_ | refine callK_pf rfl f0 ?_ | refine callK_pk rfl f0 ?_ | refine callK_r (EvR.fr [_] d1 rfl rfl ⟨rfl, trivial⟩ rfl) ?_ | refine callM_l (LEv.fr [_] d1 rfl rfl ⟨rfl, trivial⟩ rfl rfl) ?_ | refine callK_rt (EvR.fr [_] d1 rfl rfl ⟨rfl, trivial⟩ rfl) ?_ | refine callK_rf rfl (EvR.fr [_] d1 rfl rfl ⟨rfl, trivial⟩ rfl) ?_ | refine callK_rft rfl (EvR.fr [_] d1 rfl rfl ⟨rfl, trivial⟩ rfl) ?_ | refine callK_r (EvR.fr [_] d2 rfl rfl ⟨rfl, trivial⟩ rfl) ?_ | refine callM_l (LEv.fr [_] d2 rfl rfl ⟨rfl, trivial⟩ rfl rfl) ?_ | refine callK_rt (EvR.fr [_] d2 rfl rfl ⟨rfl, trivial⟩ rfl) ?_ | refine callK_rf rfl (EvR.fr [_] d2 rfl rfl ⟨rfl, trivial⟩ rfl) ?_ | refine callK_rft rfl (EvR.fr [_] d2 rfl rfl ⟨rfl, trivial⟩ rfl) ?_ | refine callK_r (EvR.fr [_, _] d3 rfl rfl ⟨rfl, rfl, trivial⟩ rfl) ?_ | refine callM_l (LEv.fr [_, _] d3 rfl rfl ⟨rfl, rfl, trivial⟩ rfl rfl) ?_ | refine callK_rt (EvR.fr [_, _] d3 rfl rfl ⟨rfl, rfl, trivial⟩ rfl) ?_ | refine callK_rf rfl (EvR.fr [_, _] d3 rfl rfl ⟨rfl, rfl, trivial⟩ rfl) ?_ | refine callK_rft rfl (EvR.fr [_, _] d3 rfl rfl ⟨rfl, rfl, trivial⟩ rfl) ?_ | refine callK_r (EvR.fr [] d4 rfl rfl trivial rfl) ?_ | refine callM_l (LEv.fr [] d4 rfl rfl trivial rfl rfl) ?_ | refine callK_rt (EvR.fr [] d4 rfl rfl trivial rfl) ?_ | refine callK_rf rfl (EvR.fr [] d4 rfl rfl trivial rfl) ?_ | refine callK_rft rfl (EvR.fr [] d4 rfl rfl trivial rfl) ?_ | refine callK_r (EvR.fr [_] d5 rfl rfl ⟨rfl, trivial⟩ rfl) ?_ | refine callM_l (LEv.fr [_] d5 rfl rfl ⟨rfl, trivial⟩ rfl rfl) ?_ | refine callK_rt (EvR.fr [_] d5 rfl rfl ⟨rfl, trivial⟩ rfl) ?_ | refine callK_rf rfl (EvR.fr [_] d5 rfl rfl ⟨rfl, trivial⟩ rfl) ?_ | refine callK_rft rfl (EvR.fr [_] d5 rfl rfl ⟨rfl, trivial⟩ rfl) ?_ | refine callM_p d6 rfl ?_ | refine callK_r (EvR.fr [_] d7 rfl rfl ⟨rfl, trivial⟩ rfl) ?_ | refine callM_l (LEv.fr [_] d7 rfl rfl ⟨rfl, trivial⟩ rfl rfl) ?_ | refine callK_rt (EvR.fr [_] d7 rfl rfl ⟨rfl, trivial⟩ rfl) ?_ | refine callK_rf rfl (EvR.fr [_] d7 rfl rfl ⟨rfl, trivial⟩ rfl) ?_ | refine callK_rft rfl (EvR.fr [_] d7 rfl rfl ⟨rfl, trivial⟩ rfl) ?_ | refine callK_r (EvR.fr [_] d8 rfl rfl ⟨rfl, trivial⟩ rfl) ?_ | refine callM_l (LEv.fr [_] d8 rfl rfl ⟨rfl, trivial⟩ rfl rfl) ?_ | refine callK_rt (EvR.fr [_] d8 rfl rfl ⟨rfl, trivial⟩ rfl) ?_ | refine callK_rf rfl (EvR.fr [_] d8 rfl rfl ⟨rfl, trivial⟩ rfl) ?_ | refine callK_rft rfl (EvR.fr [_] d8 rfl rfl ⟨rfl, trivial⟩ rfl) ?_ | ((conv in (opS _ _ _ _) => whnf); rw [bytesS_sl]) | ((conv in (opM _ _ _ _ _) => whnf); (conv in (opS _ _ _ _) => whnf); rw [bytesS_sl]) | ((conv in (opS _ _ _ _) => whnf); rw [bytesS_os (s := W) rfl]) | ((conv in (opM _ _ _ _ _) => whnf); (conv in (opS _ _ _ _) => whnf); rw [bytesS_os (s := W) rfl]) | (refine gd_mk ?_ ?_; focus (rw [hbl2]; simp; done)) | refine brP_t (decide_eq_true rfl) ?_ | refine callM_p L25_alive_ok rfl ?_ | refine callK_p L25_alive_ok ?_ | refine callM_p L25_alive_ok rfl ?_ | refine callK_pf rfl L25_alive_ok ?_ | refine wpfS_seq1 ?_ | refine wpfS_go ?_ | fail) <;> conv => whnf)
    rfl
theorem law_objectBytes (pvss : List (List PV)) (hw : wts [shOb, .sl 1 1 (.int .u8)] pvss) : EvP PR G f_L25_ObjectBytes (argAVs [shOb, .sl 1 1 (.int .u8)] pvss) (.c (.p (.bool true))) := by
  obtain ⟨a, _, rfl, ha, hw⟩ := wts_cons hw
  obtain ⟨b, _, rfl, hb, hw⟩ := wts_cons hw
  cases wts_nil hw
  obtain ⟨o, rfl, ho, hl⟩ := ob_limO ha
  obtain ⟨es, rfl, -, -, hes⟩ := hb
  obtain ⟨B, rfl⟩ := bytes_of hes
  exact objectBytes_ok o ho hl B
end Go.Ab.S
