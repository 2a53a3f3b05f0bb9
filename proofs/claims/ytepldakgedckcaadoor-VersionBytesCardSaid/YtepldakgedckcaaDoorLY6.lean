/- VersionBytes. No condition. -/
import Derived.Test.YtepldakgedckcaaDoorLY5
set_option linter.unusedSimpArgs false
set_option linter.unusedVariables false
namespace Go.Ab.S
open Go Go.Ab Go.Proofs
attribute [local irreducible] SemS
set_option maxRecDepth 100000
theorem pols_typ (l : List Pol) : ∀ r ∈ pols l, typK polK r = true := by
  intro r hr
  obtain ⟨p, -, rfl⟩ := List.mem_map.1 hr
  exact pol_typ p
theorem frzV {H : Hp} {id : Id} {n sz : Nat} {fz : Bool} {es : List (List PV)} {x : PV} (hn : n = es.length) (h : H.get id = some (.arr sz fz es) := by rfl) : freezeAs H [.c (.p x), .c (.os id n)] = some (true, [.c (.p x), slv es], H.set id (.arr sz true es)) := by
  simp only [freezeAs, freezeA, freezeC, h]
  rw [decide_eq_true hn]; rfl
theorem callK_pkY {P : Program} {G : Gl} {g : FuncId} {args args' : List AV} {H : Hp} {v : AV} {k : AV → Hp → Prop} (hf : freezeAs H args = some (true, args', H)) (h : EvP P G g args' v) (hk : k v H) : CallK P G true true g [] args H k := ⟨rfl, rfl, args', hf, v, h, hk⟩
set_option maxHeartbeats 8000000 in
theorem versionBytes_ok (e : Nat) (he : e ≤ 255) (l : List Pol) (hp : ∀ p ∈ l, p.Ok) (hl63 : l.length < 2 ^ 63) (B : List UInt8) : EvP PR G f_L14_VersionBytes [.c (.p (.int .u8 e)), slv (pols l), slv (bytesOf B)] (bv true) := by
  have hlen := pols_len (l := l)
  have hBl := bytesOf_len B
  by_cases h8 : 8 < l.length
  · refine EvP.of_wpf false hm c_L14_VersionBytes rfl (wpf_of_S ?_)
    repeat' ((first | refine brP_t (by assumption) ?_ | refine brP_f (by assumption) ?_ | refine brP_t (decide_eq_true (by omega)) ?_ | refine brP_f (decide_eq_false (by omega)) ?_ | refine brP_t (nd_t (by omega)) ?_ | refine brP_f (nd_f (by omega)) ?_ | ((rw [hlen])) | refine callK_p L14_alive_ok ?_ | refine callM_p L14_alive_ok rfl ?_ | refine callK_pf rfl L14_alive_ok ?_ | refine callK_pk rfl L14_alive_ok ?_ | refine wpfS_seq2 ?_ | refine wpfS_cons ?_ | refine wpfS_nil ?_ | refine wpfS_cond ?_ | refine wpfS_block ?_ | refine wpfS_dr ?_ | refine lMS_cons ?_ | refine lMS_nil ?_ | refine wpfS_go ?_ | fail) <;> conv => whnf)
    rfl
  by_cases hB : 1500 < B.length
  · refine EvP.of_wpf false hm c_L14_VersionBytes rfl (wpf_of_S ?_)
    repeat' ((first | refine brP_t (by assumption) ?_ | refine brP_f (by assumption) ?_ | refine brP_t (decide_eq_true (by omega)) ?_ | refine brP_f (decide_eq_false (by omega)) ?_ | refine brP_t (nd_t (by omega)) ?_ | refine brP_f (nd_f (by omega)) ?_ | ((rw [hlen])) | ((rw [hBl])) | refine callK_p L14_alive_ok ?_ | refine callM_p L14_alive_ok rfl ?_ | refine callK_pf rfl L14_alive_ok ?_ | refine callK_pk rfl L14_alive_ok ?_ | refine wpfS_seq2 ?_ | refine wpfS_cons ?_ | refine wpfS_nil ?_ | refine wpfS_cond ?_ | refine wpfS_block ?_ | refine wpfS_dr ?_ | refine lMS_cons ?_ | refine lMS_nil ?_ | refine wpfS_go ?_ | fail) <;> conv => whnf)
    rfl
  have c1 := NewReader_ok B
  have c2 := version_Read_ok ⟨0, B⟩
  have c3 := R14_Read_ok B (by omega) ⟨0, B⟩ (Suf.refl B)
  obtain ⟨k1, k2⟩ := verRd_same (SameS.refl ⟨0, B⟩)
  have k3 := verRd_len (keep := true) (s := ⟨0, B⟩)
  have k4 := verRd_suf (keep := false) (s := ⟨0, B⟩) (Suf.refl B)
  have k5 := verRd_ok (keep := true) (s := ⟨0, B⟩)
  have k6 := verRd_fwd (keep := true) (s := ⟨0, B⟩)
  have k7 := verRd_num (keep := true) (s := ⟨0, B⟩)
  rw [← k1] at c3
  generalize (verRd true ⟨0, B⟩).1 = r at *
  generalize (verRd true ⟨0, B⟩).2 = s at *
  generalize (verRd false ⟨0, B⟩).2 = s' at *
  clear k1
  obtain ⟨n, r⟩ := r
  dsimp only at c2 c3 k3 k5 k6 k7
  obtain ⟨n, rfl⟩ := Int.eq_ofNat_of_zero_le k7.1
  rw [Int.toNat_natCast] at k6
  have hn : n ≤ 255 := by omega
  have c4 := R14_Same_ok (pols r) (pols_typ r) (by rw [pols_len]; omega)
  have c5 := pr_err s
  have c6 := pr_left s
  have c7 := px_left k4 (by omega)
  rw [← k2.left] at c7
  have hee := k2.e
  obtain ⟨ye, yb⟩ := s
  obtain ⟨ze, zb⟩ := s'
  have hee : ye = ze := hee
  subst hee
  have hpx : (St.mk 0 B).px B = [Blk.row [.sl (bytesOf B), .int .i64 0, .int .i64 0]] := by
    show [Blk.row [.sl (bytesOf B), .int .i64 ((B.length - B.length : Nat) : Int), .int .i64 0]] = _
    rw [Nat.sub_self]; rfl
  rw [hpx] at c3
  have hlf : leftR (St.mk ye yb).e (St.mk ye yb).b = leftR ye yb := rfl
  rw [hlf] at c6 c7
  generalize hlv : leftR ye yb = lv at *
  have c8 := version_Bytes_ok n hn r k3 k5
  have c9 := R14_Kept_ok e
  refine ⟨rfl, rfl, EvG.of_sem false true c_L14_VersionBytes rfl ?_⟩
  refine SemS.seqS (SemS.of_wpfS false hm ?_)
  repeat' ((first | refine brP_t (by assumption) ?_ | refine brP_f (by assumption) ?_ | refine brP_t (decide_eq_true (by omega)) ?_ | refine brP_f (decide_eq_false (by omega)) ?_ | refine brP_t (nd_t (by omega)) ?_ | refine brP_f (nd_f (by omega)) ?_ | refine wpfS_seq2 ?_ | refine wpfS_cons ?_ | refine wpfS_nil ?_ | refine wpfS_cond ?_ | refine wpfS_block ?_ | refine wpfS_dr ?_ | refine lMS_cons ?_ | refine lMS_nil ?_ | refine wpfS_go ?_ | fail) <;> conv => whnf)
  refine SemS.seqS (SemS.of_wpfS false hm ?_)
  repeat' ((first | refine brP_t (by assumption) ?_ | refine brP_f (by assumption) ?_ | refine brP_t (decide_eq_true (by omega)) ?_ | refine brP_f (decide_eq_false (by omega)) ?_ | refine brP_t (nd_t (by omega)) ?_ | refine brP_f (nd_f (by omega)) ?_ | ((rw [hlen])) | ((rw [hBl])) | refine wpfS_seq2 ?_ | refine wpfS_cons ?_ | refine wpfS_nil ?_ | refine wpfS_cond ?_ | refine wpfS_block ?_ | refine wpfS_dr ?_ | refine lMS_cons ?_ | refine lMS_nil ?_ | refine wpfS_go ?_ | fail) <;> conv => whnf)
  refine SemS.seqS (SemS.of_wpfS false hm ?_)
  repeat' ((first | refine brP_t (by assumption) ?_ | refine brP_f (by assumption) ?_ | refine brP_t (decide_eq_true (by omega)) ?_ | refine brP_f (decide_eq_false (by omega)) ?_ | refine brP_t (nd_t (by omega)) ?_ | refine brP_f (nd_f (by omega)) ?_ | refine callK_r (EvR.fr [] c1 rfl rfl trivial rfl) ?_ | refine callM_l (LEv.fr [] c1 rfl rfl trivial rfl rfl) ?_ | refine callK_rt (EvR.fr [] c1 rfl rfl trivial rfl) ?_ | refine callK_rf rfl (EvR.fr [] c1 rfl rfl trivial rfl) ?_ | refine callK_rft rfl (EvR.fr [] c1 rfl rfl trivial rfl) ?_ | refine wpfS_seq2 ?_ | refine wpfS_cons ?_ | refine wpfS_nil ?_ | refine wpfS_cond ?_ | refine wpfS_block ?_ | refine wpfS_dr ?_ | refine lMS_cons ?_ | refine lMS_nil ?_ | refine wpfS_go ?_ | fail) <;> conv => whnf)
  refine SemS.seqS (SemS.of_wpfS false hm ?_)
  repeat' ((first | refine brP_t (by assumption) ?_ | refine brP_f (by assumption) ?_ | refine brP_t (decide_eq_true (by omega)) ?_ | refine brP_f (decide_eq_false (by omega)) ?_ | refine brP_t (nd_t (by omega)) ?_ | refine brP_f (nd_f (by omega)) ?_ | refine callK_r (EvR.fr [_] c2 rfl rfl ⟨rfl, trivial⟩ rfl) ?_ | refine callM_l (LEv.fr [_] c2 rfl rfl ⟨rfl, trivial⟩ rfl rfl) ?_ | refine callK_rt (EvR.fr [_] c2 rfl rfl ⟨rfl, trivial⟩ rfl) ?_ | refine callK_rf rfl (EvR.fr [_] c2 rfl rfl ⟨rfl, trivial⟩ rfl) ?_ | refine callK_rft rfl (EvR.fr [_] c2 rfl rfl ⟨rfl, trivial⟩ rfl) ?_ | refine wpfS_seq2 ?_ | refine wpfS_cons ?_ | refine wpfS_nil ?_ | refine wpfS_cond ?_ | refine wpfS_block ?_ | refine wpfS_dr ?_ | refine lMS_cons ?_ | refine lMS_nil ?_ | refine wpfS_go ?_ | fail) <;> conv => whnf)
  refine SemS.seqS (SemS.of_wpfS false hm ?_)
  repeat' ((first | refine brP_t (by assumption) ?_ | refine brP_f (by assumption) ?_ | refine brP_t (decide_eq_true (by omega)) ?_ | refine brP_f (decide_eq_false (by omega)) ?_ | refine brP_t (nd_t (by omega)) ?_ | refine brP_f (nd_f (by omega)) ?_ | refine callK_r (EvR.fr [_] c3 rfl rfl ⟨rfl, trivial⟩ rfl) ?_ | refine callM_l (LEv.fr [_] c3 rfl rfl ⟨rfl, trivial⟩ rfl rfl) ?_ | refine callK_rt (EvR.fr [_] c3 rfl rfl ⟨rfl, trivial⟩ rfl) ?_ | refine callK_rf rfl (EvR.fr [_] c3 rfl rfl ⟨rfl, trivial⟩ rfl) ?_ | refine callK_rft rfl (EvR.fr [_] c3 rfl rfl ⟨rfl, trivial⟩ rfl) ?_ | refine wpfS_seq2 ?_ | refine wpfS_cons ?_ | refine wpfS_nil ?_ | refine wpfS_cond ?_ | refine wpfS_block ?_ | refine wpfS_dr ?_ | refine lMS_cons ?_ | refine lMS_nil ?_ | refine wpfS_go ?_ | fail) <;> conv => whnf)
  refine SemS.seqS (SemS.of_wpfS false hm ?_)
  repeat' ((first | refine brP_t (by assumption) ?_ | refine brP_f (by assumption) ?_ | refine brP_t (decide_eq_true (by omega)) ?_ | refine brP_f (decide_eq_false (by omega)) ?_ | refine brP_t (nd_t (by omega)) ?_ | refine brP_f (nd_f (by omega)) ?_ | refine callM_p c4 rfl ?_ | refine callK_r (EvR.fr [_] c5 rfl rfl ⟨rfl, trivial⟩ rfl) ?_ | refine callM_l (LEv.fr [_] c5 rfl rfl ⟨rfl, trivial⟩ rfl rfl) ?_ | refine callK_rt (EvR.fr [_] c5 rfl rfl ⟨rfl, trivial⟩ rfl) ?_ | refine callK_rf rfl (EvR.fr [_] c5 rfl rfl ⟨rfl, trivial⟩ rfl) ?_ | refine callK_rft rfl (EvR.fr [_] c5 rfl rfl ⟨rfl, trivial⟩ rfl) ?_ | refine callK_r (EvR.fr [_] c6 rfl rfl ⟨rfl, trivial⟩ rfl) ?_ | refine callM_l (LEv.fr [_] c6 rfl rfl ⟨rfl, trivial⟩ rfl rfl) ?_ | refine callK_rt (EvR.fr [_] c6 rfl rfl ⟨rfl, trivial⟩ rfl) ?_ | refine callK_rf rfl (EvR.fr [_] c6 rfl rfl ⟨rfl, trivial⟩ rfl) ?_ | refine callK_rft rfl (EvR.fr [_] c6 rfl rfl ⟨rfl, trivial⟩ rfl) ?_ | refine callK_r (EvR.fr [_] c7 rfl rfl ⟨rfl, trivial⟩ rfl) ?_ | refine callM_l (LEv.fr [_] c7 rfl rfl ⟨rfl, trivial⟩ rfl rfl) ?_ | refine callK_rt (EvR.fr [_] c7 rfl rfl ⟨rfl, trivial⟩ rfl) ?_ | refine callK_rf rfl (EvR.fr [_] c7 rfl rfl ⟨rfl, trivial⟩ rfl) ?_ | refine callK_rft rfl (EvR.fr [_] c7 rfl rfl ⟨rfl, trivial⟩ rfl) ?_ | refine brP_f (nd_f rfl) ?_ | refine wpfS_seq2 ?_ | refine wpfS_cons ?_ | refine wpfS_nil ?_ | refine wpfS_cond ?_ | refine wpfS_block ?_ | refine wpfS_dr ?_ | refine lMS_cons ?_ | refine lMS_nil ?_ | refine wpfS_go ?_ | fail) <;> conv => whnf)
  refine SemS.cutS [(6, bv false), (0, .c (.p (.int .u8 e))), (1, slv (pols l))] ⟨[], [Blk.row [.int .i64 ye, .sl (bytesOf yb)], Blk.row [.sl (bytesOf B), .int .i64 ((B.length - zb.length : Nat) : Int), .int .i64 ye]]⟩ 2 rfl rfl rfl ?_ ?_
  · by_cases hye : ye = 0
    case neg =>
      refine SemS.of_wpfS false hm ?_
      repeat' ((first | refine brP_t (by assumption) ?_ | refine brP_f (by assumption) ?_ | refine brP_t (decide_eq_true (by omega)) ?_ | refine brP_f (decide_eq_false (by omega)) ?_ | refine brP_t (nd_t (by omega)) ?_ | refine brP_f (nd_f (by omega)) ?_ | refine callK_r (EvR.fr [_] c5 rfl rfl ⟨rfl, trivial⟩ rfl) ?_ | refine callM_l (LEv.fr [_] c5 rfl rfl ⟨rfl, trivial⟩ rfl rfl) ?_ | refine callK_rt (EvR.fr [_] c5 rfl rfl ⟨rfl, trivial⟩ rfl) ?_ | refine callK_rf rfl (EvR.fr [_] c5 rfl rfl ⟨rfl, trivial⟩ rfl) ?_ | refine callK_rft rfl (EvR.fr [_] c5 rfl rfl ⟨rfl, trivial⟩ rfl) ?_ | refine wpfS_seq2 ?_ | refine wpfS_cons ?_ | refine wpfS_nil ?_ | refine wpfS_cond ?_ | refine wpfS_block ?_ | refine wpfS_dr ?_ | refine lMS_cons ?_ | refine lMS_nil ?_ | refine wpfS_go ?_ | fail) <;> conv => whnf)
      exact ⟨⟨rfl, rfl, rfl, trivial⟩, rfl⟩
    subst hye
    have hfw : B = verB n r ++ yb := k6 rfl
    have hl0 : lv = (yb.length : Int) := by rw [← hlv]; unfold leftR; rw [if_pos rfl]
    have hlenB : B.length = (verB n r).length + yb.length := by rw [← List.length_append, ← hfw]
    have hsw : IntKind.i64.wrap ((B.length : Int) - lv) = ((verB n r).length : Int) := by rw [wrap64 (by omega)]; omega
    have htk : (bytesOf B).take (verB n r).length = bytesOf (verB n r) := by rw [bytesOf_take]; congr 1; rw [hfw]; simp
    have hxl := bytesOf_len (verB n r)
    generalize hX : verB n r = X at *
    refine SemS.of_wpfS false hm ?_
    repeat' ((first | refine brP_t (by assumption) ?_ | refine brP_f (by assumption) ?_ | refine brP_t (decide_eq_true (by omega)) ?_ | refine brP_f (decide_eq_false (by omega)) ?_ | refine brP_t (nd_t (by omega)) ?_ | refine brP_f (nd_f (by omega)) ?_ | ((rw [hBl])) | refine callM_p c8 rfl ?_ | refine callK_r (EvR.fr [_] c5 rfl rfl ⟨rfl, trivial⟩ rfl) ?_ | refine callM_l (LEv.fr [_] c5 rfl rfl ⟨rfl, trivial⟩ rfl rfl) ?_ | refine callK_rt (EvR.fr [_] c5 rfl rfl ⟨rfl, trivial⟩ rfl) ?_ | refine callK_rf rfl (EvR.fr [_] c5 rfl rfl ⟨rfl, trivial⟩ rfl) ?_ | refine callK_rft rfl (EvR.fr [_] c5 rfl rfl ⟨rfl, trivial⟩ rfl) ?_ | refine callK_r (EvR.fr [_] c6 rfl rfl ⟨rfl, trivial⟩ rfl) ?_ | refine callM_l (LEv.fr [_] c6 rfl rfl ⟨rfl, trivial⟩ rfl rfl) ?_ | refine callK_rt (EvR.fr [_] c6 rfl rfl ⟨rfl, trivial⟩ rfl) ?_ | refine callK_rf rfl (EvR.fr [_] c6 rfl rfl ⟨rfl, trivial⟩ rfl) ?_ | refine callK_rft rfl (EvR.fr [_] c6 rfl rfl ⟨rfl, trivial⟩ rfl) ?_ | ((conv in (opS _ _ _ _) => whnf); rw [bytesS_sl]) | ((conv in (opM _ _ _ _ _) => whnf); (conv in (opS _ _ _ _) => whnf); rw [bytesS_sl]) | refine brP_f (nd_f rfl) ?_ | (refine brP_f ?_ ?_; focus (simp; done)) | ((rw [hsw])) | (refine gd_mk ?_ ?_; (focus (rw [bytesOf_all]; simp; omega)); rw [Int.toNat_natCast, List.drop_zero, htk]) | refine wpfS_seq2 ?_ | refine wpfS_cons ?_ | refine wpfS_nil ?_ | refine wpfS_cond ?_ | refine wpfS_block ?_ | refine wpfS_dr ?_ | refine lMS_cons ?_ | refine lMS_nil ?_ | refine wpfS_go ?_ | fail) <;> conv => whnf)
    exact ⟨⟨rfl, rfl, rfl, trivial⟩, rfl⟩
  clear c1 c2 c3 c4 c5 c6 c7 c8 k2 k3 k4 k5 k6 k7 hpx hlf
  generalize ((B.length - zb.length : Nat) : Int) = bz at *
  generalize hb0 : Blk.row [.int .i64 ye, .sl (bytesOf yb)] = b0 at *
  generalize hb1 : Blk.row [.sl (bytesOf B), .int .i64 bz, .int .i64 ye] = b1 at *
  have hwe : IntKind.i64.wrap (e : Int) = e := wrap64 (by omega)
  by_cases hk : l.length = keptN e
  case neg =>
    subst hb0
    subst hb1
    refine SemS.of_wpfS false hm ?_
    repeat' ((first | refine brP_t (by assumption) ?_ | refine brP_f (by assumption) ?_ | refine brP_t (decide_eq_true (by omega)) ?_ | refine brP_f (decide_eq_false (by omega)) ?_ | refine brP_t (nd_t (by omega)) ?_ | refine brP_f (nd_f (by omega)) ?_ | ((rw [hlen])) | ((rw [hwe])) | refine callK_p c9 ?_ | refine callM_p c9 rfl ?_ | refine callK_pf rfl c9 ?_ | refine callK_pk rfl c9 ?_ | refine callK_p L14_alive_ok ?_ | refine callM_p L14_alive_ok rfl ?_ | refine callK_pf rfl L14_alive_ok ?_ | refine callK_pk rfl L14_alive_ok ?_ | refine wpfS_seq2 ?_ | refine wpfS_cons ?_ | refine wpfS_nil ?_ | refine wpfS_cond ?_ | refine wpfS_block ?_ | refine wpfS_dr ?_ | refine lMS_cons ?_ | refine lMS_nil ?_ | refine wpfS_go ?_ | fail) <;> conv => whnf)
    rfl
  subst hb0
  subst hb1
  refine SemS.seqS (SemS.of_wpfS false hm ?_)
  repeat' ((first | refine brP_t (by assumption) ?_ | refine brP_f (by assumption) ?_ | refine brP_t (decide_eq_true (by omega)) ?_ | refine brP_f (decide_eq_false (by omega)) ?_ | refine brP_t (nd_t (by omega)) ?_ | refine brP_f (nd_f (by omega)) ?_ | ((rw [hlen])) | ((rw [hwe])) | refine callK_p c9 ?_ | refine callM_p c9 rfl ?_ | refine callK_pf rfl c9 ?_ | refine callK_pk rfl c9 ?_ | refine wpfS_seq2 ?_ | refine wpfS_cons ?_ | refine wpfS_nil ?_ | refine wpfS_cond ?_ | refine wpfS_block ?_ | refine wpfS_dr ?_ | refine lMS_cons ?_ | refine lMS_nil ?_ | refine wpfS_go ?_ | fail) <;> conv => whnf)
  refine SemS.seqS (SemS.of_wpfS false hm ?_)
  repeat' ((first | refine brP_t (by assumption) ?_ | refine brP_f (by assumption) ?_ | refine brP_t (decide_eq_true (by omega)) ?_ | refine brP_f (decide_eq_false (by omega)) ?_ | refine brP_t (nd_t (by omega)) ?_ | refine brP_f (nd_f (by omega)) ?_ | refine wpfS_seq2 ?_ | refine wpfS_cons ?_ | refine wpfS_nil ?_ | refine wpfS_cond ?_ | refine wpfS_block ?_ | refine wpfS_dr ?_ | refine lMS_cons ?_ | refine lMS_nil ?_ | refine wpfS_go ?_ | fail) <;> conv => whnf)
  refine SemS.nilT 13 66 (by decide) rfl ?_
  refine SemS.cutS [(6, bv false), (0, .c (.p (.int .u8 e))), (13, .c (.os (.loc 2) (l.map mendP).length))] ⟨[], [Blk.row [.int .i64 ye, .sl (bytesOf yb)], Blk.row [.sl (bytesOf B), .int .i64 bz, .int .i64 ye], .arr 66 false (pols (l.map mendP))]⟩ 3 rfl rfl rfl ?_ ?_
  · refine SemS.of_wpfS false hm ?_
    repeat' ((first | refine brP_t (by assumption) ?_ | refine brP_f (by assumption) ?_ | refine brP_t (decide_eq_true (by omega)) ?_ | refine brP_f (decide_eq_false (by omega)) ?_ | refine brP_t (nd_t (by omega)) ?_ | refine brP_f (nd_f (by omega)) ?_ | refine wpfS_seq2 ?_ | refine wpfS_cons ?_ | refine wpfS_nil ?_ | refine wpfS_cond ?_ | refine wpfS_block ?_ | refine wpfS_dr ?_ | refine lMS_cons ?_ | refine lMS_nil ?_ | refine wpfS_go ?_ | fail) <;> conv => whnf)
    refine SemS.loopC false hm (σ := Nat) (fun i => [(14, iv i), (13, .c (.os (.loc 2) i)), (6, bv false), (0, .c (.p (.int .u8 e))), (1, slv (pols l))]) (fun i => ⟨[], [Blk.row [.int .i64 ye, .sl (bytesOf yb)], Blk.row [.sl (bytesOf B), .int .i64 bz, .int .i64 ye], .arr 66 false (pols ((l.take i).map mendP))]⟩) (fun i => l.length - i) (fun i => i ≤ l.length) 0 (Nat.zero_le _) ⟨rfl, rfl, rfl, rfl, rfl, trivial⟩ rfl ?_
    intro i hi
    have hml : (pols ((l.take i).map mendP)).length = i := by rw [pols_len, List.length_map, List.length_take]; omega
    by_cases hin : (i : Int) < l.length
    · have hi' : i < l.length := by omega
      have hget := pols_get hi'
      have d1 := R12_Mend_ok l[i] (hp _ (List.getElem_mem hi'))
      have hst : pols ((l.take (i + 1)).map mendP) = pols ((l.take i).map mendP) ++ [(mendP l[i]).row] := by
        rw [List.take_succ_eq_append_getElem hi', List.map_append]
        exact pols_app _ _
      have hw2 : IntKind.i64.wrap ((i : Int) + 1) = ((i + 1 : Nat) : Int) := by rw [wrap64 (by omega)]; rfl
      have hlR := row66 l[i]
      have hlM := row66 (mendP l[i])
      have d1 : EvP PR G f_R12_Mend [l[i].v] (.agg (mendP l[i]).row) := d1
      have eP : l[i].v = .agg (List.take 66 (List.drop 0 l[i].row)) := by rw [td66 hlR]; rfl
      rw [eP] at d1
      clear eP
      generalize (mendP l[i]).row = M at *
      generalize l[i].row = R at *
      generalize pols ((l.take i).map mendP) = X at *
      refine wpf_of_S ?_
      repeat' ((first | refine brP_t (by assumption) ?_ | refine brP_f (by assumption) ?_ | refine brP_t (decide_eq_true (by omega)) ?_ | refine brP_f (decide_eq_false (by omega)) ?_ | refine brP_t (nd_t (by omega)) ?_ | refine brP_f (nd_f (by omega)) ?_ | ((rw [hlen])) | ((conv in (opS _ _ _ _) => whnf); rw [Int.toNat_natCast, hget]) | ((conv in (opM _ _ _ _ _) => whnf); (conv in (opS _ _ _ _) => whnf); rw [Int.toNat_natCast, hget]) | ((rw [hw2])) | refine callK_p d1 ?_ | refine callM_p d1 rfl ?_ | refine callK_pf rfl d1 ?_ | refine callK_pk rfl d1 ?_ | (refine gd_mk ?_ ?_; focus (simp [hlR]; done)) | (refine gd_mk ?_ ?_; focus (exact app_po hml.symm (by omega) hlM; done)) | refine wpfS_seq2 ?_ | refine wpfS_cons ?_ | refine wpfS_nil ?_ | refine wpfS_cond ?_ | refine wpfS_block ?_ | refine wpfS_dr ?_ | refine lMS_cons ?_ | refine lMS_nil ?_ | refine wpfS_go ?_ | fail) <;> conv => whnf)
      refine ⟨i + 1, 3, hi', (show l.length - (i + 1) < l.length - i by omega), ⟨rfl, rfl, rfl, rfl, rfl, trivial⟩, Nat.le_refl _, ?_, rfl, rfl⟩
      show _ = (⟨[], [_, _, .arr 66 false (pols ((l.take (i + 1)).map mendP))]⟩ : Hp)
      rw [hst]
      rfl
    · have hi' : i = l.length := by omega
      subst hi'
      refine wpf_of_S ?_
      repeat' ((first | refine brP_t (by assumption) ?_ | refine brP_f (by assumption) ?_ | refine brP_t (decide_eq_true (by omega)) ?_ | refine brP_f (decide_eq_false (by omega)) ?_ | refine brP_t (nd_t (by omega)) ?_ | refine brP_f (nd_f (by omega)) ?_ | ((rw [hlen])) | refine wpfS_seq2 ?_ | refine wpfS_cons ?_ | refine wpfS_nil ?_ | refine wpfS_cond ?_ | refine wpfS_block ?_ | refine wpfS_dr ?_ | refine lMS_cons ?_ | refine lMS_nil ?_ | refine wpfS_go ?_ | fail) <;> conv => whnf)
      rw [List.take_length]
      refine ⟨⟨rfl, rfl, ?_, trivial⟩, rfl⟩
      rw [List.length_map]
      rfl
  have hme : ∀ p ∈ l.map mendP, p.Ok ∧ fineP p = true := by
    intro p h
    obtain ⟨q, hq, rfl⟩ := List.mem_map.1 h
    exact ⟨mend_ok (hp q hq), mend_fine (hp q hq)⟩
  have hml : (l.map mendP).length = keptN e := by rw [List.length_map]; exact hk
  generalize l.map mendP = ml at *
  have hkn := keptN_le (e := (e : Int))
  have d1 := version_Bytes_ok e he ml (by omega) (fun p h => (hme p h).1)
  have d2 := R14_Bytes_ok e he ml (by omega) (fun p h => (hme p h).1)
  have d3 := pr_new (verB e ml)
  have d4 := version_Read_ok ⟨0, verB e ml⟩
  obtain ⟨r1, r2, r3⟩ := verRd_back true [] e he ml hml hme
  rw [List.append_nil] at r1 r2 r3
  rw [r1, r2, r3] at d4
  have d5 := R14_Same_ok (pols ml) (pols_typ ml) (by rw [pols_len]; omega)
  have d6 := pr_err ⟨0, []⟩
  have d7 := pr_left ⟨0, []⟩
  have hpl := pols_len (l := ml)
  clear r1 r2 r3 hme hml
  generalize verB e ml = W at *
  generalize pols ml = X at *
  generalize ml.length = n at *
  refine SemS.seqS (SemS.of_wpfS false hm ?_)
  repeat' ((first | refine brP_t (by assumption) ?_ | refine brP_f (by assumption) ?_ | refine brP_t (decide_eq_true (by omega)) ?_ | refine brP_f (decide_eq_false (by omega)) ?_ | refine brP_t (nd_t (by omega)) ?_ | refine brP_f (nd_f (by omega)) ?_ | ((rw [hwe])) | refine callK_pf (frzV hpl.symm) d1 ?_ | refine wpfS_seq2 ?_ | refine wpfS_cons ?_ | refine wpfS_nil ?_ | refine wpfS_cond ?_ | refine wpfS_block ?_ | refine wpfS_dr ?_ | refine lMS_cons ?_ | refine lMS_nil ?_ | refine wpfS_go ?_ | fail) <;> conv => whnf)
  refine SemS.seqS (SemS.of_wpfS false hm ?_)
  repeat' ((first | refine brP_t (by assumption) ?_ | refine brP_f (by assumption) ?_ | refine brP_t (decide_eq_true (by omega)) ?_ | refine brP_f (decide_eq_false (by omega)) ?_ | refine brP_t (nd_t (by omega)) ?_ | refine brP_f (nd_f (by omega)) ?_ | refine callK_r (EvR.fr [] d3 rfl rfl trivial rfl) ?_ | refine callM_l (LEv.fr [] d3 rfl rfl trivial rfl rfl) ?_ | refine callK_rt (EvR.fr [] d3 rfl rfl trivial rfl) ?_ | refine callK_rf rfl (EvR.fr [] d3 rfl rfl trivial rfl) ?_ | refine callK_rft rfl (EvR.fr [] d3 rfl rfl trivial rfl) ?_ | refine wpfS_seq2 ?_ | refine wpfS_cons ?_ | refine wpfS_nil ?_ | refine wpfS_cond ?_ | refine wpfS_block ?_ | refine wpfS_dr ?_ | refine lMS_cons ?_ | refine lMS_nil ?_ | refine wpfS_go ?_ | fail) <;> conv => whnf)
  refine SemS.seqS (SemS.of_wpfS false hm ?_)
  repeat' ((first | refine brP_t (by assumption) ?_ | refine brP_f (by assumption) ?_ | refine brP_t (decide_eq_true (by omega)) ?_ | refine brP_f (decide_eq_false (by omega)) ?_ | refine brP_t (nd_t (by omega)) ?_ | refine brP_f (nd_f (by omega)) ?_ | refine callK_r (EvR.fr [_] d4 rfl rfl ⟨rfl, trivial⟩ rfl) ?_ | refine callM_l (LEv.fr [_] d4 rfl rfl ⟨rfl, trivial⟩ rfl rfl) ?_ | refine callK_rt (EvR.fr [_] d4 rfl rfl ⟨rfl, trivial⟩ rfl) ?_ | refine callK_rf rfl (EvR.fr [_] d4 rfl rfl ⟨rfl, trivial⟩ rfl) ?_ | refine callK_rft rfl (EvR.fr [_] d4 rfl rfl ⟨rfl, trivial⟩ rfl) ?_ | refine wpfS_seq2 ?_ | refine wpfS_cons ?_ | refine wpfS_nil ?_ | refine wpfS_cond ?_ | refine wpfS_block ?_ | refine wpfS_dr ?_ | refine lMS_cons ?_ | refine lMS_nil ?_ | refine wpfS_go ?_ | fail) <;> conv => whnf)
  refine SemS.of_wpfS false hm ?_
  repeat' ((first | refine brP_t (by assumption) ?_ | refine brP_f (by assumption) ?_ | refine brP_t (decide_eq_true (by omega)) ?_ | refine brP_f (decide_eq_false (by omega)) ?_ | refine brP_t (nd_t (by omega)) ?_ | refine brP_f (nd_f (by omega)) ?_ | ((rw [hwe])) | refine callK_pkY (frzV hpl.symm) d2 ?_ | refine callK_pkY (frzV hpl.symm) d5 ?_ | ((conv in (opS _ _ _ _) => whnf); rw [bytesS_sl]) | ((conv in (opM _ _ _ _ _) => whnf); (conv in (opS _ _ _ _) => whnf); rw [bytesS_sl]) | refine brP_t (decide_eq_true rfl) ?_ | refine callK_r (EvR.fr [_] d6 rfl rfl ⟨rfl, trivial⟩ rfl) ?_ | refine callM_l (LEv.fr [_] d6 rfl rfl ⟨rfl, trivial⟩ rfl rfl) ?_ | refine callK_rt (EvR.fr [_] d6 rfl rfl ⟨rfl, trivial⟩ rfl) ?_ | refine callK_rf rfl (EvR.fr [_] d6 rfl rfl ⟨rfl, trivial⟩ rfl) ?_ | refine callK_rft rfl (EvR.fr [_] d6 rfl rfl ⟨rfl, trivial⟩ rfl) ?_ | refine callK_r (EvR.fr [_] d7 rfl rfl ⟨rfl, trivial⟩ rfl) ?_ | refine callM_l (LEv.fr [_] d7 rfl rfl ⟨rfl, trivial⟩ rfl rfl) ?_ | refine callK_rt (EvR.fr [_] d7 rfl rfl ⟨rfl, trivial⟩ rfl) ?_ | refine callK_rf rfl (EvR.fr [_] d7 rfl rfl ⟨rfl, trivial⟩ rfl) ?_ | refine callK_rft rfl (EvR.fr [_] d7 rfl rfl ⟨rfl, trivial⟩ rfl) ?_ | refine callK_p L14_alive_ok ?_ | refine callM_p L14_alive_ok rfl ?_ | refine callK_pf rfl L14_alive_ok ?_ | refine callK_pk rfl L14_alive_ok ?_ | refine wpfS_seq2 ?_ | refine wpfS_cons ?_ | refine wpfS_nil ?_ | refine wpfS_cond ?_ | refine wpfS_block ?_ | refine wpfS_dr ?_ | refine lMS_cons ?_ | refine lMS_nil ?_ | refine wpfS_go ?_ | fail) <;> conv => whnf)
  rfl
theorem bytesv_of : ∀ {es : List (List PV)}, (∀ r ∈ es, r.length = 1 ∧ wt (.int .u8) r) → ∃ B : List UInt8, es = bytesOf B
  | [], _ => ⟨[], rfl⟩
  | r :: es, h => by
    obtain ⟨B, rfl⟩ := bytesv_of (es := es) fun x hx => h x (by simp [hx])
    obtain ⟨-, n, rfl, h0, h1⟩ := h r (by simp)
    have h0' : 0 ≤ n := by simpa [IntKind.min, IntKind.signed] using h0
    have h1' : n ≤ 255 := by simpa [IntKind.max, IntKind.signed, IntKind.bits] using h1
    refine ⟨UInt8.ofNat n.toNat :: B, ?_⟩
    have : (UInt8.ofNat n.toNat).toNat = n.toNat := by rw [UInt8.toNat_ofNat']; omega
    show [PV.int .u8 n] :: bytesOf B = [PV.int .u8 ((UInt8.ofNat n.toNat).toNat : Nat)] :: bytesOf B
    rw [this, Int.toNat_of_nonneg h0']
theorem pols_of : ∀ {es : List (List PV)}, (∀ r ∈ es, r.length = 66 ∧ wt shPol r) → ∃ l : List Pol, es = pols l ∧ ∀ p ∈ l, p.Ok
  | [], _ => ⟨[], rfl, by simp⟩
  | r :: es, h => by
    obtain ⟨l, rfl, hl⟩ := pols_of fun q hq => h q (List.mem_cons_of_mem _ hq)
    obtain ⟨m, rfl, hm⟩ := pol_of (h r List.mem_cons_self).2
    refine ⟨m :: l, rfl, fun q hq => ?_⟩
    rcases List.mem_cons.1 hq with rfl | hq
    · exact hm
    · exact hl q hq
theorem law_versionBytes (pvss : List (List PV)) (hw : wts [.int .u8, .sl 66 116 shPol, .sl 1 1 (.int .u8)] pvss) : EvP PR G f_L14_VersionBytes (argAVs [.int .u8, .sl 66 116 shPol, .sl 1 1 (.int .u8)] pvss) (.c (.p (.bool true))) := by
  obtain ⟨a, _, rfl, ha, hw⟩ := wts_cons hw
  obtain ⟨b, _, rfl, hb, hw⟩ := wts_cons hw
  obtain ⟨c, _, rfl, hc, hw⟩ := wts_cons hw
  cases wts_nil hw
  obtain ⟨n, rfl, h0, h1⟩ := ha
  have h0' : 0 ≤ n := by simpa [IntKind.min, IntKind.signed] using h0
  have h1' : n ≤ 255 := by simpa [IntKind.max, IntKind.signed, IntKind.bits] using h1
  obtain ⟨e, rfl⟩ := Int.eq_ofNat_of_zero_le h0'
  obtain ⟨es, rfl, -, hlen, hes⟩ := hb
  obtain ⟨l, rfl, hl⟩ := pols_of hes
  rw [pols_len] at hlen
  obtain ⟨es, rfl, -, -, hes⟩ := hc
  obtain ⟨B, rfl⟩ := bytesv_of hes
  exact versionBytes_ok e (by omega) l hl (Nat.lt_of_le_of_lt hlen (by decide)) B
end Go.Ab.S
