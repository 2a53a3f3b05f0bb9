/- Part of a proof; no condition. -/
import Derived.Test.YtjdkjlmcnpjohaaDoorMessM5
set_option linter.unusedSimpArgs false
set_option linter.unusedVariables false
namespace Go.Ab.S
open Go Go.Ab Go.Proofs
attribute [local irreducible] SemS
set_option maxRecDepth 100000
/-- Something written by a writer that is new. -/
theorem fresh_w {g : FuncId} {args : List AV} {v : AV} {bs : List UInt8} (h : EvR PR G g args ⟨wrB 0 [], []⟩ v ⟨wrB 0 bs, []⟩) (ha : args.map (AV.ren (rho [.par 0, .loc 0] 1)) = args) (hi : args.all (inA 2) = true) (hv : v.ren (rho [.par 0, .loc 0] 1) = v) :
    EvR PR G g args ⟨[.mrow [.p (.int .i64 0), .nils]], []⟩ v ⟨[.mrow [.p (.int .i64 0), .os (.loc 0) bs.length]], [.arr 1 false (bytesOf bs)]⟩ := by
  have hf : Fits ⟨[.mrow [.p (.int .i64 0), .os (.loc 0) 0]], [.arr 1 false []]⟩ [.par 0, .loc 0] (wrB 0 []) := Fits.of rfl ⟨rfl, rfl, trivial⟩ rfl
  have h1 := EvR.frame h hf hi
  refine EvR.weakL (Weak.nils (id := .par 0) (j := 1) 1 (by omega) rfl rfl) ?_
  have h2 : EvR PR G g (args.map (AV.ren (rho [.par 0, .loc 0] 1))) ⟨[.mrow [.p (.int .i64 0), .os (.loc 0) 0]], [.arr 1 false []]⟩ (v.ren (rho [.par 0, .loc 0] 1)) ⟨[.mrow [.p (.int .i64 0), .os (.loc 0) bs.length]], [.arr 1 false (bytesOf bs)]⟩ := h1
  rw [ha, hv] at h2
  exact h2
theorem fresh_rw {g : FuncId} {args : List AV} {v : AV} {bs : List UInt8} (h : EvR PR G g args ⟨rwB 0 [], []⟩ v ⟨rwB 0 bs, []⟩) (ha : args.map (AV.ren (rho [.par 0, .loc 0] 1)) = args) (hi : args.all (inA 2) = true) (hv : v.ren (rho [.par 0, .loc 0] 1) = v) :
    EvR PR G g args ⟨[.mrow [.nils, .p (.int .i64 0)]], []⟩ v ⟨[.mrow [.os (.loc 0) bs.length, .p (.int .i64 0)]], [.arr 1 false (bytesOf bs)]⟩ := by
  have hf : Fits ⟨[.mrow [.os (.loc 0) 0, .p (.int .i64 0)]], [.arr 1 false []]⟩ [.par 0, .loc 0] (rwB 0 []) := Fits.of rfl ⟨rfl, rfl, trivial⟩ rfl
  have h1 := EvR.frame h hf hi
  refine EvR.weakL (Weak.nils (id := .par 0) (j := 0) 1 (by omega) rfl rfl) ?_
  have h2 : EvR PR G g (args.map (AV.ren (rho [.par 0, .loc 0] 1))) ⟨[.mrow [.os (.loc 0) 0, .p (.int .i64 0)]], [.arr 1 false []]⟩ (v.ren (rho [.par 0, .loc 0] 1)) ⟨[.mrow [.os (.loc 0) bs.length, .p (.int .i64 0)]], [.arr 1 false (bytesOf bs)]⟩ := h1
  rw [ha, hv] at h2
  exact h2
theorem any_bytes (l : List Msg) : (∀ m ∈ l, m.fine = true) ∨ ∃ i, ∃ h : i < l.length, (∀ j, ∀ hj : j < i, (l[j]'(Nat.lt_trans hj h)).fine = true) ∧ (l[i]).fine = false := by
  induction l with
  | nil => exact .inl (by simp)
  | cons m l ih =>
    cases hm : m.fine with
    | false => exact .inr ⟨0, by simp, fun j hj => absurd hj (Nat.not_lt_zero j), hm⟩
    | true =>
      rcases ih with h | ⟨i, h, h1, h2⟩
      · exact .inl fun q hq => by
          rcases List.mem_cons.1 hq with rfl | hq
          · exact hm
          · exact h q hq
      · refine .inr ⟨i + 1, by simpa using h, fun j hj => ?_, h2⟩
        cases j with
        | zero => exact hm
        | succ j => exact h1 j (by omega)
def rdH2 (s : St) (B : List UInt8) (s' : St) : Hp := ⟨[], s.pr ++ s'.px B⟩
set_option maxHeartbeats 4000000 in
theorem bytes22_ok (l : List Msg) (hlo : ∀ m ∈ l, m.Ok) (hl63 : l.length < 2 ^ 63) (B : List UInt8) : EvP PR G f_L22_MessageBytes [slv (msgs l), slv (bytesOf B)] (bv true) := by
  have hlen := msgs_len (l := l)
  have hBl := bytesOf_len B
  refine EvP.of_wpf false hm c_L22_MessageBytes rfl ?_
  refine wpf_seq1 ?_
  conv => whnf
  by_cases h20 : 20 < l.length
  · repeat' ((first | refine brP_t (by assumption) ?_ | refine brP_f (by assumption) ?_ | refine brP_t (decide_eq_true (by omega)) ?_ | refine brP_f (decide_eq_false (by omega)) ?_ | refine brP_t (nd_t (by omega)) ?_ | refine brP_f (nd_f (by omega)) ?_ | ((rw [hlen])) | refine callK_p L22_alive_ok ?_ | refine callM_p L22_alive_ok rfl ?_ | refine callK_pf rfl L22_alive_ok ?_ | refine wpfS_seq1 ?_ | refine wpfS_go ?_ | fail) <;> conv => whnf)
    rfl
  by_cases hB : 1000 < B.length
  · repeat' ((first | refine brP_t (by assumption) ?_ | refine brP_f (by assumption) ?_ | refine brP_t (decide_eq_true (by omega)) ?_ | refine brP_f (decide_eq_false (by omega)) ?_ | refine brP_t (nd_t (by omega)) ?_ | refine brP_f (nd_f (by omega)) ?_ | ((rw [hlen])) | ((rw [hBl])) | refine callK_p L22_alive_ok ?_ | refine callM_p L22_alive_ok rfl ?_ | refine callK_pf rfl L22_alive_ok ?_ | refine wpfS_seq1 ?_ | refine wpfS_go ?_ | fail) <;> conv => whnf)
    rfl
  have c1 := NewReader_ok B
  have c2 := message_Read_ok ⟨0, B⟩
  have c3 := R22_Read_ok B (by omega) ⟨0, B⟩ (Suf.refl B)
  obtain ⟨k1, k2⟩ := Msg.rdL_same (SameS.refl ⟨0, B⟩)
  have k3 := Msg.rdL_len true ⟨0, B⟩
  have k4 := Msg.rdL_suf (keep := false) (s := ⟨0, B⟩) (Suf.refl B)
  rw [← k1] at c3
  generalize (Msg.rdL true ⟨0, B⟩).1 = r at *
  generalize (Msg.rdL true ⟨0, B⟩).2 = s at *
  generalize (Msg.rdL false ⟨0, B⟩).2 = s' at *
  clear k1
  have c4 := message_Same_ok r r (by omega)
  rw [decide_eq_true rfl] at c4
  have c5 := pr_err s
  have c6 := pr_left s
  have c7 := px_left k4 (by omega)
  rw [← k2.left] at c7
  have he := k2.e
  obtain ⟨e, b⟩ := s
  obtain ⟨e', b'⟩ := s'
  have he : e = e' := he
  subst he
  have hpx : (St.mk 0 B).px B = [Blk.row [.sl (bytesOf B), .int .i64 0, .int .i64 0]] := by
    show [Blk.row [.sl (bytesOf B), .int .i64 ((B.length - B.length : Nat) : Int), .int .i64 0]] = _
    rw [Nat.sub_self]; rfl
  rw [hpx] at c3
  generalize leftR (St.mk e b).e (St.mk e b).b = lf at *
  repeat' ((first | refine brP_t (by assumption) ?_ | refine brP_f (by assumption) ?_ | refine brP_t (decide_eq_true (by omega)) ?_ | refine brP_f (decide_eq_false (by omega)) ?_ | refine brP_t (nd_t (by omega)) ?_ | refine brP_f (nd_f (by omega)) ?_ | ((rw [hlen])) | ((rw [hBl])) | refine callK_r (EvR.fr [] c1 rfl rfl trivial rfl) ?_ | refine callM_l (LEv.fr [] c1 rfl rfl trivial rfl rfl) ?_ | refine callK_rt (EvR.fr [] c1 rfl rfl trivial rfl) ?_ | refine callK_rf rfl (EvR.fr [] c1 rfl rfl trivial rfl) ?_ | refine callK_rft rfl (EvR.fr [] c1 rfl rfl trivial rfl) ?_ | refine callK_r (EvR.fr [_] c2 rfl rfl ⟨rfl, trivial⟩ rfl) ?_ | refine callM_l (LEv.fr [_] c2 rfl rfl ⟨rfl, trivial⟩ rfl rfl) ?_ | refine callK_rt (EvR.fr [_] c2 rfl rfl ⟨rfl, trivial⟩ rfl) ?_ | refine callK_rf rfl (EvR.fr [_] c2 rfl rfl ⟨rfl, trivial⟩ rfl) ?_ | refine callK_rft rfl (EvR.fr [_] c2 rfl rfl ⟨rfl, trivial⟩ rfl) ?_ | refine callK_r (EvR.fr [_] c3 rfl rfl ⟨rfl, trivial⟩ rfl) ?_ | refine callM_l (LEv.fr [_] c3 rfl rfl ⟨rfl, trivial⟩ rfl rfl) ?_ | refine callK_rt (EvR.fr [_] c3 rfl rfl ⟨rfl, trivial⟩ rfl) ?_ | refine callK_rf rfl (EvR.fr [_] c3 rfl rfl ⟨rfl, trivial⟩ rfl) ?_ | refine callK_rft rfl (EvR.fr [_] c3 rfl rfl ⟨rfl, trivial⟩ rfl) ?_ | refine callM_p c4 rfl ?_ | refine callK_r (EvR.fr [_] c5 rfl rfl ⟨rfl, trivial⟩ rfl) ?_ | refine callM_l (LEv.fr [_] c5 rfl rfl ⟨rfl, trivial⟩ rfl rfl) ?_ | refine callK_rt (EvR.fr [_] c5 rfl rfl ⟨rfl, trivial⟩ rfl) ?_ | refine callK_rf rfl (EvR.fr [_] c5 rfl rfl ⟨rfl, trivial⟩ rfl) ?_ | refine callK_rft rfl (EvR.fr [_] c5 rfl rfl ⟨rfl, trivial⟩ rfl) ?_ | refine callK_r (EvR.fr [_] c6 rfl rfl ⟨rfl, trivial⟩ rfl) ?_ | refine callM_l (LEv.fr [_] c6 rfl rfl ⟨rfl, trivial⟩ rfl rfl) ?_ | refine callK_rt (EvR.fr [_] c6 rfl rfl ⟨rfl, trivial⟩ rfl) ?_ | refine callK_rf rfl (EvR.fr [_] c6 rfl rfl ⟨rfl, trivial⟩ rfl) ?_ | refine callK_rft rfl (EvR.fr [_] c6 rfl rfl ⟨rfl, trivial⟩ rfl) ?_ | refine callK_r (EvR.fr [_] c7 rfl rfl ⟨rfl, trivial⟩ rfl) ?_ | refine callM_l (LEv.fr [_] c7 rfl rfl ⟨rfl, trivial⟩ rfl rfl) ?_ | refine callK_rt (EvR.fr [_] c7 rfl rfl ⟨rfl, trivial⟩ rfl) ?_ | refine callK_rf rfl (EvR.fr [_] c7 rfl rfl ⟨rfl, trivial⟩ rfl) ?_ | refine callK_rft rfl (EvR.fr [_] c7 rfl rfl ⟨rfl, trivial⟩ rfl) ?_ | refine brP_f (nd_f rfl) ?_ | refine wpfS_seq1 ?_ | refine wpfS_go ?_ | fail) <;> conv => whnf)
  refine SemS.loopF false hm (σ := Nat) (fun i => [(7, iv i), (0, slv (msgs l))]) (fun _ => ⟨[], (St.mk e b).pr ++ (St.mk e b').px B⟩) (fun i => l.length - i) (fun i => i ≤ l.length ∧ ∀ m ∈ l.take i, m.fine = true) 0 ⟨Nat.zero_le _, by simp⟩ ⟨rfl, rfl, trivial⟩ rfl ?_
  rintro i ⟨hi, hall⟩
  refine wpf_seq1 ?_
  conv => whnf
  rw [hlen]
  refine brP_mk (fun h => ?_) (fun h => ?_)
  · have hi' : i < l.length := by have := of_decide_eq_true h; omega
    clear h
    have hget := msgs_get hi'
    have hw2 : IntKind.i64.wrap ((i : Int) + 1) = ((i + 1 : Nat) : Int) := by rw [wrap64 (by omega)]; rfl
    have hf := R22_Fine_ok l[i]
    have htk : l.take (i + 1) = l.take i ++ [l[i]] := List.take_succ_eq_append_getElem hi'
    have hall' : l[i].fine = true → ∀ m ∈ l.take (i + 1), m.fine = true := by
      intro h m hm
      rw [htk] at hm
      rcases List.mem_append.1 hm with hm | hm
      · exact hall m hm
      · rw [List.mem_singleton.1 hm]; exact h
    generalize l[i] = m at *
    cases hfm : m.fine with
    | false =>
      rw [hfm] at hf
      repeat' ((first | refine brP_t (by assumption) ?_ | refine brP_f (by assumption) ?_ | refine brP_t (decide_eq_true (by omega)) ?_ | refine brP_f (decide_eq_false (by omega)) ?_ | refine brP_t (nd_t (by omega)) ?_ | refine brP_f (nd_f (by omega)) ?_ | ((conv in (opS _ _ _ _) => whnf); rw [Int.toNat_natCast, hget]) | ((conv in (opM _ _ _ _ _) => whnf); (conv in (opS _ _ _ _) => whnf); rw [Int.toNat_natCast, hget]) | refine callK_p hf ?_ | refine callM_p hf rfl ?_ | refine callK_pf rfl hf ?_ | refine callK_p L22_alive_ok ?_ | refine callM_p L22_alive_ok rfl ?_ | refine callK_pf rfl L22_alive_ok ?_ | refine wpfS_seq1 ?_ | refine wpfS_go ?_ | fail) <;> conv => whnf)
      rfl
    | true =>
      rw [hfm] at hf
      repeat' ((first | refine brP_t (by assumption) ?_ | refine brP_f (by assumption) ?_ | refine brP_t (decide_eq_true (by omega)) ?_ | refine brP_f (decide_eq_false (by omega)) ?_ | refine brP_t (nd_t (by omega)) ?_ | refine brP_f (nd_f (by omega)) ?_ | ((conv in (opS _ _ _ _) => whnf); rw [Int.toNat_natCast, hget]) | ((conv in (opM _ _ _ _ _) => whnf); (conv in (opS _ _ _ _) => whnf); rw [Int.toNat_natCast, hget]) | refine callK_p hf ?_ | refine callM_p hf rfl ?_ | refine callK_pf rfl hf ?_ | refine wpfS_seq1 ?_ | refine wpfS_go ?_ | fail) <;> conv => whnf)
      rw [hw2]
      exact ⟨i + 1, ⟨hi', hall' hfm⟩, (show l.length - (i + 1) < l.length - i by omega), ⟨rfl, rfl, trivial⟩, rfl⟩
  · have hi' : i = l.length := by have := of_decide_eq_false h; omega
    subst hi'
    clear h
    rw [List.take_length] at hall
    have hok : ∀ m ∈ l, m.Ok ∧ m.fine = true := fun m hm => ⟨hlo m hm, hall m hm⟩
    have d1 := message_Write_ok 0 [] (by simp) l (by omega) hok
    have d2 := R22_Write_ok 0 [] (by simp) l (by omega) hok
    rw [List.nil_append] at d1 d2
    have d1 := fresh_w d1 rfl rfl rfl
    have d2 := fresh_rw d2 rfl rfl rfl
    have hbl : (msgsB l).length ≤ 2 ^ 40 := by
      have := flat_len (l := l) fun m hm => (Msg.fine_iff.1 (hall m hm)).2.2.2.2.2.2
      unfold msgsB
      rw [List.length_append, numB_len]
      omega
    have d3 := w_done_ok (msgsB l) hbl
    have d4 := NewReader_ok (msgsB l)
    have hrb := Msg.rdL_back true l [] (by omega) hok
    rw [List.append_nil] at hrb
    have d5 := message_Read_ok ⟨0, msgsB l⟩
    rw [hrb] at d5
    dsimp only at d5
    have d6 := R22_Same_ok l l (by omega)
    rw [decide_eq_true rfl] at d6
    have d7 := pr_err ⟨0, []⟩
    have d8 := pr_left ⟨0, []⟩
    have hbl2 := bytesOf_len (msgsB l)
    generalize msgsB l = W at *
    clear c1 c2 c3 c4 c5 c6 c7 hrb
    conv => whnf
    repeat' ((first | refine brP_t (by assumption) ?_ | refine brP_f (by assumption) ?_ | refine brP_t (decide_eq_true (by omega)) ?_ | refine brP_f (decide_eq_false (by omega)) ?_ | refine brP_t (nd_t (by omega)) ?_ | refine brP_f (nd_f (by omega)) ?_ | refine callK_r (EvR.fr [_] d1 rfl rfl ⟨rfl, trivial⟩ rfl) ?_ | refine callM_l (LEv.fr [_] d1 rfl rfl ⟨rfl, trivial⟩ rfl rfl) ?_ | refine callK_rt (EvR.fr [_] d1 rfl rfl ⟨rfl, trivial⟩ rfl) ?_ | refine callK_rf rfl (EvR.fr [_] d1 rfl rfl ⟨rfl, trivial⟩ rfl) ?_ | refine callK_rft rfl (EvR.fr [_] d1 rfl rfl ⟨rfl, trivial⟩ rfl) ?_ | refine callK_r (EvR.fr [_] d2 rfl rfl ⟨rfl, trivial⟩ rfl) ?_ | refine callM_l (LEv.fr [_] d2 rfl rfl ⟨rfl, trivial⟩ rfl rfl) ?_ | refine callK_rt (EvR.fr [_] d2 rfl rfl ⟨rfl, trivial⟩ rfl) ?_ | refine callK_rf rfl (EvR.fr [_] d2 rfl rfl ⟨rfl, trivial⟩ rfl) ?_ | refine callK_rft rfl (EvR.fr [_] d2 rfl rfl ⟨rfl, trivial⟩ rfl) ?_ | refine callK_r (EvR.fr [_, _] d3 rfl rfl ⟨rfl, rfl, trivial⟩ rfl) ?_ | refine callM_l (LEv.fr [_, _] d3 rfl rfl ⟨rfl, rfl, trivial⟩ rfl rfl) ?_ | refine callK_rt (EvR.fr [_, _] d3 rfl rfl ⟨rfl, rfl, trivial⟩ rfl) ?_ | refine callK_rf rfl (EvR.fr [_, _] d3 rfl rfl ⟨rfl, rfl, trivial⟩ rfl) ?_ | refine callK_rft rfl (EvR.fr [_, _] d3 rfl rfl ⟨rfl, rfl, trivial⟩ rfl) ?_ | refine callK_r (EvR.fr [] d4 rfl rfl trivial rfl) ?_ | refine callM_l (LEv.fr [] d4 rfl rfl trivial rfl rfl) ?_ | refine callK_rt (EvR.fr [] d4 rfl rfl trivial rfl) ?_ | refine callK_rf rfl (EvR.fr [] d4 rfl rfl trivial rfl) ?_ | refine callK_rft rfl (EvR.fr [] d4 rfl rfl trivial rfl) ?_ | refine callK_r (EvR.fr [_] d5 rfl rfl ⟨rfl, trivial⟩ rfl) ?_ | refine callM_l (LEv.fr [_] d5 rfl rfl ⟨rfl, trivial⟩ rfl rfl) ?_ | refine callK_rt (EvR.fr [_] d5 rfl rfl ⟨rfl, trivial⟩ rfl) ?_ | refine callK_rf rfl (EvR.fr [_] d5 rfl rfl ⟨rfl, trivial⟩ rfl) ?_ | refine callK_rft rfl (EvR.fr [_] d5 rfl rfl ⟨rfl, trivial⟩ rfl) ?_ | refine callM_p d6 rfl ?_ | refine callK_r (EvR.fr [_] d7 rfl rfl ⟨rfl, trivial⟩ rfl) ?_ | refine callM_l (LEv.fr [_] d7 rfl rfl ⟨rfl, trivial⟩ rfl rfl) ?_ | refine callK_rt (EvR.fr [_] d7 rfl rfl ⟨rfl, trivial⟩ rfl) ?_ | refine callK_rf rfl (EvR.fr [_] d7 rfl rfl ⟨rfl, trivial⟩ rfl) ?_ | refine callK_rft rfl (EvR.fr [_] d7 rfl rfl ⟨rfl, trivial⟩ rfl) ?_ | refine callK_r (EvR.fr [_] d8 rfl rfl ⟨rfl, trivial⟩ rfl) ?_ | refine callM_l (LEv.fr [_] d8 rfl rfl ⟨rfl, trivial⟩ rfl rfl) ?_ | refine callK_rt (EvR.fr [_] d8 rfl rfl ⟨rfl, trivial⟩ rfl) ?_ | refine callK_rf rfl (EvR.fr [_] d8 rfl rfl ⟨rfl, trivial⟩ rfl) ?_ | refine callK_rft rfl (EvR.fr [_] d8 rfl rfl ⟨rfl, trivial⟩ rfl) ?_ | ((conv in (opS _ _ _ _) => whnf); rw [bytesS_sl]) | ((conv in (opM _ _ _ _ _) => whnf); (conv in (opS _ _ _ _) => whnf); rw [bytesS_sl]) | ((conv in (opS _ _ _ _) => whnf); rw [bytesS_os (s := W) rfl]) | ((conv in (opM _ _ _ _ _) => whnf); (conv in (opS _ _ _ _) => whnf); rw [bytesS_os (s := W) rfl]) | (refine gd_mk ?_ ?_; focus (rw [hbl2]; simp; done)) | refine brP_t (decide_eq_true rfl) ?_ | refine callM_p L22_alive_ok rfl ?_ | refine callK_p L22_alive_ok ?_ | refine callM_p L22_alive_ok rfl ?_ | refine callK_pf rfl L22_alive_ok ?_ | refine wpfS_seq1 ?_ | refine wpfS_go ?_ | fail) <;> conv => whnf)
    rfl
end Go.Ab.S
