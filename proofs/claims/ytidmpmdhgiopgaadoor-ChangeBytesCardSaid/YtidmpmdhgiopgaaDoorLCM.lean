/- ChangeBytes. No condition. -/
import Derived.Test.YtidmpmdhgiopgaaDoorLCL
set_option linter.unusedSimpArgs false
set_option linter.unusedVariables false
namespace Go.Ab.S
open Go Go.Ab Go.Proofs
attribute [local irreducible] SemS
set_option maxRecDepth 100000
set_option maxHeartbeats 8000000 in
theorem changeBytes_ok (l : List Chg) (hl63 : l.length < 2 ^ 63) (hc : ∀ c ∈ l, c.s < 65536 ∧ c.i < 65536) (B : List UInt8) : EvP PR G f_L13_ChangeBytes [slv (chgs l), slv (bytesOf B)] (bv true) := by
  have hlen := chgs_len (l := l)
  have hBl := bytesOf_len B
  refine EvP.of_wpf false hm c_L13_ChangeBytes rfl ?_
  refine wpf_seq1 ?_
  conv => whnf
  by_cases h30 : 30 < l.length
  · repeat' ((first | refine brP_t (by assumption) ?_ | refine brP_f (by assumption) ?_ | refine brP_t (decide_eq_true (by omega)) ?_ | refine brP_f (decide_eq_false (by omega)) ?_ | refine brP_t (nd_t (by omega)) ?_ | refine brP_f (nd_f (by omega)) ?_ | ((rw [hlen])) | refine callK_p L13_alive_ok ?_ | refine callM_p L13_alive_ok rfl ?_ | refine callK_pf rfl L13_alive_ok ?_ | refine callK_pk rfl L13_alive_ok ?_ | refine wpfS_seq1 ?_ | refine wpfS_go ?_ | fail) <;> conv => whnf)
    rfl
  by_cases hB : 100 < B.length
  · repeat' ((first | refine brP_t (by assumption) ?_ | refine brP_f (by assumption) ?_ | refine brP_t (decide_eq_true (by omega)) ?_ | refine brP_f (decide_eq_false (by omega)) ?_ | refine brP_t (nd_t (by omega)) ?_ | refine brP_f (nd_f (by omega)) ?_ | ((rw [hlen])) | ((rw [hBl])) | refine callK_p L13_alive_ok ?_ | refine callM_p L13_alive_ok rfl ?_ | refine callK_pf rfl L13_alive_ok ?_ | refine callK_pk rfl L13_alive_ok ?_ | refine wpfS_seq1 ?_ | refine wpfS_go ?_ | fail) <;> conv => whnf)
    rfl
  have c1 := NewReader_ok B
  have c2 := change_Read_ok ⟨0, B⟩
  have c3 := R13_Read_ok B (by omega) ⟨0, B⟩ (Suf.refl B)
  obtain ⟨k1, k2⟩ := rdC_same (SameS.refl ⟨0, B⟩)
  have k3 := rdC_len (keep := true) (s := ⟨0, B⟩)
  have k4 := rdC_suf (keep := false) (s := ⟨0, B⟩) (Suf.refl B)
  rw [← k1] at c3
  generalize (rdC true ⟨0, B⟩).1 = r at *
  generalize (rdC true ⟨0, B⟩).2 = s at *
  generalize (rdC false ⟨0, B⟩).2 = s' at *
  clear k1
  have c4 := R13_Same_ok r r (by omega) (by omega)
  rw [show sameC r r = true from decide_eq_true rfl] at c4
  have c5 := pr_err s
  have c6 := pr_left s
  have c7 := px_left k4 (by omega)
  rw [← k2.left] at c7
  have he := k2.e
  obtain ⟨e, y⟩ := s
  obtain ⟨e', y'⟩ := s'
  have he : e = e' := he
  subst he
  have hpx : (St.mk 0 B).px B = [Blk.row [.sl (bytesOf B), .int .i64 0, .int .i64 0]] := by
    show [Blk.row [.sl (bytesOf B), .int .i64 ((B.length - B.length : Nat) : Int), .int .i64 0]] = _
    rw [Nat.sub_self]; rfl
  rw [hpx] at c3
  generalize leftR (St.mk e y).e (St.mk e y).b = lf at *
  clear k2 k4 hpx
  repeat' ((first | refine brP_t (by assumption) ?_ | refine brP_f (by assumption) ?_ | refine brP_t (decide_eq_true (by omega)) ?_ | refine brP_f (decide_eq_false (by omega)) ?_ | refine brP_t (nd_t (by omega)) ?_ | refine brP_f (nd_f (by omega)) ?_ | ((rw [hlen])) | ((rw [hBl])) | refine callK_r (EvR.fr [] c1 rfl rfl trivial rfl) ?_ | refine callM_l (LEv.fr [] c1 rfl rfl trivial rfl rfl) ?_ | refine callK_rt (EvR.fr [] c1 rfl rfl trivial rfl) ?_ | refine callK_rf rfl (EvR.fr [] c1 rfl rfl trivial rfl) ?_ | refine callK_rft rfl (EvR.fr [] c1 rfl rfl trivial rfl) ?_ | refine callK_r (EvR.fr [_] c2 rfl rfl ⟨rfl, trivial⟩ rfl) ?_ | refine callM_l (LEv.fr [_] c2 rfl rfl ⟨rfl, trivial⟩ rfl rfl) ?_ | refine callK_rt (EvR.fr [_] c2 rfl rfl ⟨rfl, trivial⟩ rfl) ?_ | refine callK_rf rfl (EvR.fr [_] c2 rfl rfl ⟨rfl, trivial⟩ rfl) ?_ | refine callK_rft rfl (EvR.fr [_] c2 rfl rfl ⟨rfl, trivial⟩ rfl) ?_ | refine callK_r (EvR.fr [_] c3 rfl rfl ⟨rfl, trivial⟩ rfl) ?_ | refine callM_l (LEv.fr [_] c3 rfl rfl ⟨rfl, trivial⟩ rfl rfl) ?_ | refine callK_rt (EvR.fr [_] c3 rfl rfl ⟨rfl, trivial⟩ rfl) ?_ | refine callK_rf rfl (EvR.fr [_] c3 rfl rfl ⟨rfl, trivial⟩ rfl) ?_ | refine callK_rft rfl (EvR.fr [_] c3 rfl rfl ⟨rfl, trivial⟩ rfl) ?_ | refine callM_p c4 rfl ?_ | refine callK_r (EvR.fr [_] c5 rfl rfl ⟨rfl, trivial⟩ rfl) ?_ | refine callM_l (LEv.fr [_] c5 rfl rfl ⟨rfl, trivial⟩ rfl rfl) ?_ | refine callK_rt (EvR.fr [_] c5 rfl rfl ⟨rfl, trivial⟩ rfl) ?_ | refine callK_rf rfl (EvR.fr [_] c5 rfl rfl ⟨rfl, trivial⟩ rfl) ?_ | refine callK_rft rfl (EvR.fr [_] c5 rfl rfl ⟨rfl, trivial⟩ rfl) ?_ | refine callK_r (EvR.fr [_] c6 rfl rfl ⟨rfl, trivial⟩ rfl) ?_ | refine callM_l (LEv.fr [_] c6 rfl rfl ⟨rfl, trivial⟩ rfl rfl) ?_ | refine callK_rt (EvR.fr [_] c6 rfl rfl ⟨rfl, trivial⟩ rfl) ?_ | refine callK_rf rfl (EvR.fr [_] c6 rfl rfl ⟨rfl, trivial⟩ rfl) ?_ | refine callK_rft rfl (EvR.fr [_] c6 rfl rfl ⟨rfl, trivial⟩ rfl) ?_ | refine callK_r (EvR.fr [_] c7 rfl rfl ⟨rfl, trivial⟩ rfl) ?_ | refine callM_l (LEv.fr [_] c7 rfl rfl ⟨rfl, trivial⟩ rfl rfl) ?_ | refine callK_rt (EvR.fr [_] c7 rfl rfl ⟨rfl, trivial⟩ rfl) ?_ | refine callK_rf rfl (EvR.fr [_] c7 rfl rfl ⟨rfl, trivial⟩ rfl) ?_ | refine callK_rft rfl (EvR.fr [_] c7 rfl rfl ⟨rfl, trivial⟩ rfl) ?_ | refine brP_f (nd_f rfl) ?_ | refine wpfS_seq1 ?_ | refine wpfS_go ?_ | fail) <;> conv => whnf)
  refine SemS.loopC false hm (σ := Nat) (fun i => [(9, iv i), (0, slv (chgs l))]) (fun i => ⟨[], [Blk.row [.int .i64 e, .sl (bytesOf y)], Blk.row [.sl (bytesOf B), .int .i64 ((B.length - y'.length : Nat) : Int), .int .i64 e]]⟩) (fun i => l.length - i) (fun i => i ≤ l.length ∧ ∀ c ∈ l.take i, c.fine = true) 0 ⟨Nat.zero_le _, by simp⟩ ⟨rfl, rfl, trivial⟩ rfl ?_
  clear c1 c2 c3 c4 c5 c6 c7 k3
  rintro i ⟨hi, hpre⟩
  refine wpf_seq1 ?_
  conv => whnf
  try (refine wpfS_seq1 ?_; conv => whnf)
  rw [hlen]
  refine brP_mk (fun h => ?_) (fun h => ?_)
  · have hi' : i < l.length := by have := of_decide_eq_true h; omega
    clear h
    have hget := chgs_get hi'
    have hw2 : IntKind.i64.wrap ((i : Int) + 1) = ((i + 1 : Nat) : Int) := by rw [wrap64 (by omega)]; rfl
    have e1 : l.take (i + 1) = l.take i ++ [l[i]] := List.take_succ_eq_append_getElem hi'
    have d := R13_Fine_ok l[i]
    cases hf : l[i].fine with
    | false =>
      rw [hf] at d
      generalize l[i] = c at *
      obtain ⟨k, a, b, s, i0⟩ := c
      rw [chgrow] at hget d
      repeat' ((first | refine brP_t (by assumption) ?_ | refine brP_f (by assumption) ?_ | refine brP_t (decide_eq_true (by omega)) ?_ | refine brP_f (decide_eq_false (by omega)) ?_ | refine brP_t (nd_t (by omega)) ?_ | refine brP_f (nd_f (by omega)) ?_ | ((conv in (opS _ _ _ _) => whnf); rw [Int.toNat_natCast, hget]) | ((conv in (opM _ _ _ _ _) => whnf); (conv in (opS _ _ _ _) => whnf); rw [Int.toNat_natCast, hget]) | refine callK_p d ?_ | refine callM_p d rfl ?_ | refine callK_pf rfl d ?_ | refine callK_pk rfl d ?_ | refine callK_p L13_alive_ok ?_ | refine callM_p L13_alive_ok rfl ?_ | refine callK_pf rfl L13_alive_ok ?_ | refine callK_pk rfl L13_alive_ok ?_ | refine wpfS_seq1 ?_ | refine wpfS_go ?_ | fail) <;> conv => whnf)
      rfl
    | true =>
      rw [hf] at d
      have hpre2 : ∀ c ∈ l.take (i + 1), c.fine = true := by
        rw [e1]
        intro c hc
        rcases List.mem_append.1 hc with hc | hc
        · exact hpre c hc
        · rw [List.mem_singleton.1 hc]; exact hf
      generalize l[i] = c at *
      obtain ⟨k, a, b, s, i0⟩ := c
      rw [chgrow] at hget d
      repeat' ((first | refine brP_t (by assumption) ?_ | refine brP_f (by assumption) ?_ | refine brP_t (decide_eq_true (by omega)) ?_ | refine brP_f (decide_eq_false (by omega)) ?_ | refine brP_t (nd_t (by omega)) ?_ | refine brP_f (nd_f (by omega)) ?_ | ((conv in (opS _ _ _ _) => whnf); rw [Int.toNat_natCast, hget]) | ((conv in (opM _ _ _ _ _) => whnf); (conv in (opS _ _ _ _) => whnf); rw [Int.toNat_natCast, hget]) | refine callK_p d ?_ | refine callM_p d rfl ?_ | refine callK_pf rfl d ?_ | refine callK_pk rfl d ?_ | ((rw [hw2])) | refine wpfS_seq1 ?_ | refine wpfS_go ?_ | fail) <;> conv => whnf)
      exact ⟨i + 1, 2, ⟨hi', hpre2⟩, (show l.length - (i + 1) < l.length - i by omega), ⟨rfl, rfl, trivial⟩, Nat.le_refl _, rfl, rfl, rfl⟩
  · have hi' : i = l.length := by have := of_decide_eq_false h; omega
    subst hi'
    clear h
    rw [List.take_length] at hpre
    by_cases h0 : l.length = 0
    · repeat' ((first | refine brP_t (by assumption) ?_ | refine brP_f (by assumption) ?_ | refine brP_t (decide_eq_true (by omega)) ?_ | refine brP_f (decide_eq_false (by omega)) ?_ | refine brP_t (nd_t (by omega)) ?_ | refine brP_f (nd_f (by omega)) ?_ | ((rw [hlen])) | refine callK_p L13_alive_ok ?_ | refine callM_p L13_alive_ok rfl ?_ | refine callK_pf rfl L13_alive_ok ?_ | refine callK_pk rfl L13_alive_ok ?_ | refine wpfS_seq1 ?_ | refine wpfS_go ?_ | fail) <;> conv => whnf)
      rfl
    by_cases h6 : 6 < l.length
    · repeat' ((first | refine brP_t (by assumption) ?_ | refine brP_f (by assumption) ?_ | refine brP_t (decide_eq_true (by omega)) ?_ | refine brP_f (decide_eq_false (by omega)) ?_ | refine brP_t (nd_t (by omega)) ?_ | refine brP_f (nd_f (by omega)) ?_ | ((rw [hlen])) | refine callK_p L13_alive_ok ?_ | refine callM_p L13_alive_ok rfl ?_ | refine callK_pf rfl L13_alive_ok ?_ | refine callK_pk rfl L13_alive_ok ?_ | refine wpfS_seq1 ?_ | refine wpfS_go ?_ | fail) <;> conv => whnf)
      rfl
    have d1 := change_Bytes_ok l (by omega) hpre hc
    have d2 := R13_Bytes_ok l (by omega) hpre hc
    have d4 := pr_new (bytesC l)
    have hrb := rdC_back true [] l (by omega) (by omega) hpre hc
    rw [List.append_nil] at hrb
    have d5 := change_Read_ok ⟨0, bytesC l⟩
    rw [hrb] at d5
    dsimp only at d5
    have d6 := R13_Same_ok l l (by omega) (by omega)
    rw [show sameC l l = true from decide_eq_true rfl] at d6
    have d7 := pr_err ⟨0, []⟩
    have d8 := pr_left ⟨0, []⟩
    generalize bytesC l = W at *
    clear hrb
    repeat' ((first | refine brP_t (by assumption) ?_ | refine brP_f (by assumption) ?_ | refine brP_t (decide_eq_true (by omega)) ?_ | refine brP_f (decide_eq_false (by omega)) ?_ | refine brP_t (nd_t (by omega)) ?_ | refine brP_f (nd_f (by omega)) ?_ | ((rw [hlen])) | refine callK_p d1 ?_ | refine callM_p d1 rfl ?_ | refine callK_pf rfl d1 ?_ | refine callK_pk rfl d1 ?_ | refine callK_r (EvR.fr [] d4 rfl rfl trivial rfl) ?_ | refine callM_l (LEv.fr [] d4 rfl rfl trivial rfl rfl) ?_ | refine callK_rt (EvR.fr [] d4 rfl rfl trivial rfl) ?_ | refine callK_rf rfl (EvR.fr [] d4 rfl rfl trivial rfl) ?_ | refine callK_rft rfl (EvR.fr [] d4 rfl rfl trivial rfl) ?_ | refine callK_r (EvR.fr [_] d5 rfl rfl ⟨rfl, trivial⟩ rfl) ?_ | refine callM_l (LEv.fr [_] d5 rfl rfl ⟨rfl, trivial⟩ rfl rfl) ?_ | refine callK_rt (EvR.fr [_] d5 rfl rfl ⟨rfl, trivial⟩ rfl) ?_ | refine callK_rf rfl (EvR.fr [_] d5 rfl rfl ⟨rfl, trivial⟩ rfl) ?_ | refine callK_rft rfl (EvR.fr [_] d5 rfl rfl ⟨rfl, trivial⟩ rfl) ?_ | refine callK_p d2 ?_ | refine callM_p d2 rfl ?_ | refine callK_pf rfl d2 ?_ | refine callK_pk rfl d2 ?_ | ((conv in (opS _ _ _ _) => whnf); rw [bytesS_sl]) | ((conv in (opM _ _ _ _ _) => whnf); (conv in (opS _ _ _ _) => whnf); rw [bytesS_sl]) | refine brP_t (decide_eq_true rfl) ?_ | refine callK_p d6 ?_ | refine callM_p d6 rfl ?_ | refine callK_pf rfl d6 ?_ | refine callK_pk rfl d6 ?_ | refine callK_r (EvR.fr [_] d7 rfl rfl ⟨rfl, trivial⟩ rfl) ?_ | refine callM_l (LEv.fr [_] d7 rfl rfl ⟨rfl, trivial⟩ rfl rfl) ?_ | refine callK_rt (EvR.fr [_] d7 rfl rfl ⟨rfl, trivial⟩ rfl) ?_ | refine callK_rf rfl (EvR.fr [_] d7 rfl rfl ⟨rfl, trivial⟩ rfl) ?_ | refine callK_rft rfl (EvR.fr [_] d7 rfl rfl ⟨rfl, trivial⟩ rfl) ?_ | refine callK_r (EvR.fr [_] d8 rfl rfl ⟨rfl, trivial⟩ rfl) ?_ | refine callM_l (LEv.fr [_] d8 rfl rfl ⟨rfl, trivial⟩ rfl rfl) ?_ | refine callK_rt (EvR.fr [_] d8 rfl rfl ⟨rfl, trivial⟩ rfl) ?_ | refine callK_rf rfl (EvR.fr [_] d8 rfl rfl ⟨rfl, trivial⟩ rfl) ?_ | refine callK_rft rfl (EvR.fr [_] d8 rfl rfl ⟨rfl, trivial⟩ rfl) ?_ | refine callM_p L13_alive_ok rfl ?_ | refine callK_p L13_alive_ok ?_ | refine callM_p L13_alive_ok rfl ?_ | refine callK_pf rfl L13_alive_ok ?_ | refine wpfS_seq1 ?_ | refine wpfS_go ?_ | fail) <;> conv => whnf)
    rfl
theorem bytesc_of : ∀ {es : List (List PV)}, (∀ r ∈ es, r.length = 1 ∧ wt (.int .u8) r) → ∃ B : List UInt8, es = bytesOf B
  | [], _ => ⟨[], rfl⟩
  | r :: es, h => by
    obtain ⟨B, rfl⟩ := bytesc_of (es := es) fun x hx => h x (by simp [hx])
    obtain ⟨-, n, rfl, h0, h1⟩ := h r (by simp)
    have h0' : 0 ≤ n := by simpa [IntKind.min, IntKind.signed] using h0
    have h1' : n ≤ 255 := by simpa [IntKind.max, IntKind.signed, IntKind.bits] using h1
    refine ⟨UInt8.ofNat n.toNat :: B, ?_⟩
    have : (UInt8.ofNat n.toNat).toNat = n.toNat := by rw [UInt8.toNat_ofNat']; omega
    show [PV.int .u8 n] :: bytesOf B = [PV.int .u8 ((UInt8.ofNat n.toNat).toNat : Nat)] :: bytesOf B
    rw [this, Int.toNat_of_nonneg h0']
theorem law_changeBytes (pvss : List (List PV)) (hw : wts [.sl 5 32 shChg, .sl 1 1 (.int .u8)] pvss) : EvP PR G f_L13_ChangeBytes (argAVs [.sl 5 32 shChg, .sl 1 1 (.int .u8)] pvss) (.c (.p (.bool true))) := by
  obtain ⟨a, _, rfl, ha, hw⟩ := wts_cons hw
  obtain ⟨b, _, rfl, hb, hw⟩ := wts_cons hw
  cases wts_nil hw
  obtain ⟨es, rfl, -, hlen, hes⟩ := ha
  obtain ⟨l, rfl, hl⟩ := chgs_of hes
  rw [chgs_len] at hlen
  obtain ⟨es, rfl, -, -, hes⟩ := hb
  obtain ⟨B, rfl⟩ := bytesc_of hes
  exact changeBytes_ok l (Nat.lt_of_le_of_lt hlen (by decide)) hl B
end Go.Ab.S
