/- Part of a proof; no condition. -/
import Derived.Test.YtjdkjlmcnpjohaaDoorPolP28
set_option linter.unusedSimpArgs false
set_option linter.unusedVariables false
namespace Go.Ab.S
open Go Go.Ab Go.Proofs
attribute [local irreducible] SemS
set_option maxRecDepth 100000
theorem frz_os {H : Hp} {id : Id} {n sz : Nat} {fz : Bool} {es : List (List PV)} (h : H.get id = some (.arr sz fz es)) (hn : n = es.length) : freezeAs H [.c (.os id n)] = some (true, [slv es], H.set id (.arr sz true es)) := by
  simp only [freezeAs, freezeA, freezeC, h]
  rw [decide_eq_true hn]; rfl
set_option maxHeartbeats 4000000 in
theorem bytes12_ok (p : Pol) (hp : p.Ok) (B : List UInt8) (hlb : B.length < 2 ^ 63) : EvP PR G f_L12_PolicyBytes [p.v, slv (bytesOf B)] (bv true) := by
  have hBl := bytesOf_len B
  have c9 := L12_alive_ok
  refine EvP.of_wpf false hm c_L12_PolicyBytes rfl ?_
  refine wpf_seq1 ?_
  conv => whnf
  by_cases hbig : 400 < B.length
  · repeat' ((first | refine brP_t (by assumption) ?_ | refine brP_f (by assumption) ?_ | refine brP_t (decide_eq_true (by omega)) ?_ | refine brP_f (decide_eq_false (by omega)) ?_ | refine brP_t (nd_t (by omega)) ?_ | refine brP_f (nd_f (by omega)) ?_ | ((rw [hBl])) | refine callK_p c9 ?_ | refine callM_p c9 rfl ?_ | refine callK_pf rfl c9 ?_ | refine wpfS_seq1 ?_ | refine wpfS_go ?_ | fail) <;> conv => whnf)
    rfl
  have c0 := R12_Mend_ok p hp
  have hq := mend_ok hp
  have hqf := mend_fine hp
  generalize mendP p = q at *
  have c1 := policy_Bytes_os q hq
  have c2 := pr_new B
  have c3 := policy_Read_ok (St.mk 0 B)
  have c4 := R12_Read_ok B (by omega) (St.mk 0 B) (Suf.refl B)
  obtain ⟨hsame, hS⟩ := polRd_same (SameS.refl (St.mk 0 B))
  have hfwd := polRd_fwd (keep := true) (s := St.mk 0 B)
  have hxo := polRd_ok (keep := true) (s := St.mk 0 B)
  have hsu := polRd_suf (keep := false) (s := St.mk 0 B) (Suf.refl B)
  have c5 := R12_Bytes_ok q hq
  obtain ⟨hb1, hb2⟩ := polRd_back true hq hqf [9]
  have c6 := pr_new (polB q ++ [9])
  have c7 := policy_Read_ok (St.mk 0 (polB q ++ [9]))
  rw [show (polRd true (St.mk 0 (polB q ++ [9]))).1.v = q.v from congrArg AV.agg hb1, hb2] at c7
  have c8 := pr_err (St.mk 0 [9])
  have c8' := pr_left (St.mk 0 [9])
  rw [← hsame] at c4
  generalize (polRd true (St.mk 0 B)).1 = x at *
  generalize (polRd true (St.mk 0 B)).2 = y at *
  generalize (polRd false (St.mk 0 B)).2 = z at *
  have hpx : (St.mk 0 B).px B = [.row [.sl (bytesOf B), .int .i64 0, .int .i64 0]] := by
    show [Blk.row [.sl (bytesOf B), .int .i64 ((B.length - B.length : Nat) : Int), .int .i64 0]] = _
    rw [Nat.sub_self]; rfl
  rw [hpx] at c4
  obtain ⟨ye, yb⟩ := y
  obtain ⟨ze, zb⟩ := z
  have he := hS.e
  have hle := hS.left
  dsimp only at he
  subst he
  have hx1 := policy_Bytes_ok x hxo
  have hx2 := pr_err ⟨ye, yb⟩
  have hx3 := pr_left ⟨ye, yb⟩
  have hx4 := px_left hsu (by omega)
  rw [← hle] at hx4
  have hpl := bytesOf_len (polB q)
  have hWl : (polB q).length ≤ 1000 := by
    have h1 := bitsN_len q.live
    unfold polB
    simp only [List.length_append, numB_len, recs_len, owns_len]
    omega
  generalize hPq : polB q = W at *
  have hap : bytesOf (W ++ [9]) = bytesOf W ++ [[.int .u8 9]] := by rw [bytesOf_app]; rfl
  rw [hap] at c6
  have hlf : leftR (St.mk ye yb).e (St.mk ye yb).b = leftR ye yb := rfl
  rw [hlf] at hx3 hx4
  generalize hlv : leftR ye yb = lv at *
  by_cases hye : ye = 0
  · subst hye
    have hfw : B = polB x ++ yb := hfwd rfl
    have hl0 : lv = (yb.length : Int) := by rw [← hlv]; unfold leftR; rw [if_pos rfl]
    have hlenB : B.length = (polB x).length + yb.length := by rw [← List.length_append, ← hfw]
    have hsw : IntKind.i64.wrap ((B.length : Int) - lv) = ((polB x).length : Int) := by rw [wrap64 (by omega)]; omega
    have htk : (bytesOf B).take (polB x).length = bytesOf (polB x) := by rw [bytesOf_take]; congr 1; rw [hfw]; simp
    have hxl := bytesOf_len (polB x)
    generalize hX : polB x = X at *
    repeat' ((first | refine brP_t (by assumption) ?_ | refine brP_f (by assumption) ?_ | refine brP_t (decide_eq_true (by omega)) ?_ | refine brP_f (decide_eq_false (by omega)) ?_ | refine brP_t (nd_t (by omega)) ?_ | refine brP_f (nd_f (by omega)) ?_ | ((rw [hBl])) | refine callK_p c0 ?_ | refine callM_p c0 rfl ?_ | refine callK_pf rfl c0 ?_ | refine callK_r (EvR.fr [] c1 rfl rfl trivial rfl) ?_ | refine callM_l (LEv.fr [] c1 rfl rfl trivial rfl rfl) ?_ | refine callK_rt (EvR.fr [] c1 rfl rfl trivial rfl) ?_ | refine callK_rf rfl (EvR.fr [] c1 rfl rfl trivial rfl) ?_ | refine callK_rft rfl (EvR.fr [] c1 rfl rfl trivial rfl) ?_ | refine callK_r (EvR.fr [] c2 rfl rfl trivial rfl) ?_ | refine callM_l (LEv.fr [] c2 rfl rfl trivial rfl rfl) ?_ | refine callK_rt (EvR.fr [] c2 rfl rfl trivial rfl) ?_ | refine callK_rf rfl (EvR.fr [] c2 rfl rfl trivial rfl) ?_ | refine callK_rft rfl (EvR.fr [] c2 rfl rfl trivial rfl) ?_ | refine callK_r (EvR.fr [_] c3 rfl rfl ⟨rfl, trivial⟩ rfl) ?_ | refine callM_l (LEv.fr [_] c3 rfl rfl ⟨rfl, trivial⟩ rfl rfl) ?_ | refine callK_rt (EvR.fr [_] c3 rfl rfl ⟨rfl, trivial⟩ rfl) ?_ | refine callK_rf rfl (EvR.fr [_] c3 rfl rfl ⟨rfl, trivial⟩ rfl) ?_ | refine callK_rft rfl (EvR.fr [_] c3 rfl rfl ⟨rfl, trivial⟩ rfl) ?_ | refine callK_r (EvR.fr [_] c4 rfl rfl ⟨rfl, trivial⟩ rfl) ?_ | refine callM_l (LEv.fr [_] c4 rfl rfl ⟨rfl, trivial⟩ rfl rfl) ?_ | refine callK_rt (EvR.fr [_] c4 rfl rfl ⟨rfl, trivial⟩ rfl) ?_ | refine callK_rf rfl (EvR.fr [_] c4 rfl rfl ⟨rfl, trivial⟩ rfl) ?_ | refine callK_rft rfl (EvR.fr [_] c4 rfl rfl ⟨rfl, trivial⟩ rfl) ?_ | refine callM_p c5 rfl ?_ | refine callK_r (EvR.fr [_] hx2 rfl rfl ⟨rfl, trivial⟩ rfl) ?_ | refine callM_l (LEv.fr [_] hx2 rfl rfl ⟨rfl, trivial⟩ rfl rfl) ?_ | refine callK_rt (EvR.fr [_] hx2 rfl rfl ⟨rfl, trivial⟩ rfl) ?_ | refine callK_rf rfl (EvR.fr [_] hx2 rfl rfl ⟨rfl, trivial⟩ rfl) ?_ | refine callK_rft rfl (EvR.fr [_] hx2 rfl rfl ⟨rfl, trivial⟩ rfl) ?_ | refine callK_r (EvR.fr [_] hx3 rfl rfl ⟨rfl, trivial⟩ rfl) ?_ | refine callM_l (LEv.fr [_] hx3 rfl rfl ⟨rfl, trivial⟩ rfl rfl) ?_ | refine callK_rt (EvR.fr [_] hx3 rfl rfl ⟨rfl, trivial⟩ rfl) ?_ | refine callK_rf rfl (EvR.fr [_] hx3 rfl rfl ⟨rfl, trivial⟩ rfl) ?_ | refine callK_rft rfl (EvR.fr [_] hx3 rfl rfl ⟨rfl, trivial⟩ rfl) ?_ | refine callK_r (EvR.fr [_] hx4 rfl rfl ⟨rfl, trivial⟩ rfl) ?_ | refine callM_l (LEv.fr [_] hx4 rfl rfl ⟨rfl, trivial⟩ rfl rfl) ?_ | refine callK_rt (EvR.fr [_] hx4 rfl rfl ⟨rfl, trivial⟩ rfl) ?_ | refine callK_rf rfl (EvR.fr [_] hx4 rfl rfl ⟨rfl, trivial⟩ rfl) ?_ | refine callK_rft rfl (EvR.fr [_] hx4 rfl rfl ⟨rfl, trivial⟩ rfl) ?_ | ((conv in (opS _ _ _ _) => whnf); rw [bytesS_sl]) | ((conv in (opM _ _ _ _ _) => whnf); (conv in (opS _ _ _ _) => whnf); rw [bytesS_sl]) | ((conv in (opS _ _ _ _) => whnf); rw [bytesS_os (s := W) rfl]) | ((conv in (opM _ _ _ _ _) => whnf); (conv in (opS _ _ _ _) => whnf); rw [bytesS_os (s := W) rfl]) | (refine gd_mk ?_ ?_; focus (rw [hpl]; simp; done)) | refine brP_t (decide_eq_true rfl) ?_ | refine brP_f (nd_f rfl) ?_ | (refine brP_f ?_ ?_; focus (simp; done)) | (refine gd_mk ?_ ?_; focus (exact app_ok hpl.symm rfl (by show W.length + 1 ≤ 1000000; omega); done)) | refine callK_r (EvR.fr [_] c7 rfl rfl ⟨rfl, trivial⟩ rfl) ?_ | refine callM_l (LEv.fr [_] c7 rfl rfl ⟨rfl, trivial⟩ rfl rfl) ?_ | refine callK_rt (EvR.fr [_] c7 rfl rfl ⟨rfl, trivial⟩ rfl) ?_ | refine callK_rf rfl (EvR.fr [_] c7 rfl rfl ⟨rfl, trivial⟩ rfl) ?_ | refine callK_rft rfl (EvR.fr [_] c7 rfl rfl ⟨rfl, trivial⟩ rfl) ?_ | refine callK_r (EvR.fr [_] c8 rfl rfl ⟨rfl, trivial⟩ rfl) ?_ | refine callM_l (LEv.fr [_] c8 rfl rfl ⟨rfl, trivial⟩ rfl rfl) ?_ | refine callK_rt (EvR.fr [_] c8 rfl rfl ⟨rfl, trivial⟩ rfl) ?_ | refine callK_rf rfl (EvR.fr [_] c8 rfl rfl ⟨rfl, trivial⟩ rfl) ?_ | refine callK_rft rfl (EvR.fr [_] c8 rfl rfl ⟨rfl, trivial⟩ rfl) ?_ | refine callK_r (EvR.fr [_] c8' rfl rfl ⟨rfl, trivial⟩ rfl) ?_ | refine callM_l (LEv.fr [_] c8' rfl rfl ⟨rfl, trivial⟩ rfl rfl) ?_ | refine callK_rt (EvR.fr [_] c8' rfl rfl ⟨rfl, trivial⟩ rfl) ?_ | refine callK_rf rfl (EvR.fr [_] c8' rfl rfl ⟨rfl, trivial⟩ rfl) ?_ | refine callK_rft rfl (EvR.fr [_] c8' rfl rfl ⟨rfl, trivial⟩ rfl) ?_ | refine callM_p hx1 rfl ?_ | refine callM_p c9 rfl ?_ | (refine brP_t ?_ ?_; focus (simp; done)) | refine callK_rf (frz_os rfl (by simp [hpl])) (EvR.fr [] c6 rfl rfl trivial rfl) ?_ | ((rw [hsw])) | (refine gd_mk ?_ ?_; (focus (rw [bytesOf_all]; simp; omega)); rw [Int.toNat_natCast, List.drop_zero, htk]) | refine wpfS_seq1 ?_ | refine wpfS_go ?_ | fail) <;> conv => whnf)
    rfl
  · repeat' ((first | refine brP_t (by assumption) ?_ | refine brP_f (by assumption) ?_ | refine brP_t (decide_eq_true (by omega)) ?_ | refine brP_f (decide_eq_false (by omega)) ?_ | refine brP_t (nd_t (by omega)) ?_ | refine brP_f (nd_f (by omega)) ?_ | ((rw [hBl])) | refine callK_p c0 ?_ | refine callM_p c0 rfl ?_ | refine callK_pf rfl c0 ?_ | refine callK_r (EvR.fr [] c1 rfl rfl trivial rfl) ?_ | refine callM_l (LEv.fr [] c1 rfl rfl trivial rfl rfl) ?_ | refine callK_rt (EvR.fr [] c1 rfl rfl trivial rfl) ?_ | refine callK_rf rfl (EvR.fr [] c1 rfl rfl trivial rfl) ?_ | refine callK_rft rfl (EvR.fr [] c1 rfl rfl trivial rfl) ?_ | refine callK_r (EvR.fr [] c2 rfl rfl trivial rfl) ?_ | refine callM_l (LEv.fr [] c2 rfl rfl trivial rfl rfl) ?_ | refine callK_rt (EvR.fr [] c2 rfl rfl trivial rfl) ?_ | refine callK_rf rfl (EvR.fr [] c2 rfl rfl trivial rfl) ?_ | refine callK_rft rfl (EvR.fr [] c2 rfl rfl trivial rfl) ?_ | refine callK_r (EvR.fr [_] c3 rfl rfl ⟨rfl, trivial⟩ rfl) ?_ | refine callM_l (LEv.fr [_] c3 rfl rfl ⟨rfl, trivial⟩ rfl rfl) ?_ | refine callK_rt (EvR.fr [_] c3 rfl rfl ⟨rfl, trivial⟩ rfl) ?_ | refine callK_rf rfl (EvR.fr [_] c3 rfl rfl ⟨rfl, trivial⟩ rfl) ?_ | refine callK_rft rfl (EvR.fr [_] c3 rfl rfl ⟨rfl, trivial⟩ rfl) ?_ | refine callK_r (EvR.fr [_] c4 rfl rfl ⟨rfl, trivial⟩ rfl) ?_ | refine callM_l (LEv.fr [_] c4 rfl rfl ⟨rfl, trivial⟩ rfl rfl) ?_ | refine callK_rt (EvR.fr [_] c4 rfl rfl ⟨rfl, trivial⟩ rfl) ?_ | refine callK_rf rfl (EvR.fr [_] c4 rfl rfl ⟨rfl, trivial⟩ rfl) ?_ | refine callK_rft rfl (EvR.fr [_] c4 rfl rfl ⟨rfl, trivial⟩ rfl) ?_ | refine callM_p c5 rfl ?_ | refine callK_r (EvR.fr [_] hx2 rfl rfl ⟨rfl, trivial⟩ rfl) ?_ | refine callM_l (LEv.fr [_] hx2 rfl rfl ⟨rfl, trivial⟩ rfl rfl) ?_ | refine callK_rt (EvR.fr [_] hx2 rfl rfl ⟨rfl, trivial⟩ rfl) ?_ | refine callK_rf rfl (EvR.fr [_] hx2 rfl rfl ⟨rfl, trivial⟩ rfl) ?_ | refine callK_rft rfl (EvR.fr [_] hx2 rfl rfl ⟨rfl, trivial⟩ rfl) ?_ | refine callK_r (EvR.fr [_] hx3 rfl rfl ⟨rfl, trivial⟩ rfl) ?_ | refine callM_l (LEv.fr [_] hx3 rfl rfl ⟨rfl, trivial⟩ rfl rfl) ?_ | refine callK_rt (EvR.fr [_] hx3 rfl rfl ⟨rfl, trivial⟩ rfl) ?_ | refine callK_rf rfl (EvR.fr [_] hx3 rfl rfl ⟨rfl, trivial⟩ rfl) ?_ | refine callK_rft rfl (EvR.fr [_] hx3 rfl rfl ⟨rfl, trivial⟩ rfl) ?_ | refine callK_r (EvR.fr [_] hx4 rfl rfl ⟨rfl, trivial⟩ rfl) ?_ | refine callM_l (LEv.fr [_] hx4 rfl rfl ⟨rfl, trivial⟩ rfl rfl) ?_ | refine callK_rt (EvR.fr [_] hx4 rfl rfl ⟨rfl, trivial⟩ rfl) ?_ | refine callK_rf rfl (EvR.fr [_] hx4 rfl rfl ⟨rfl, trivial⟩ rfl) ?_ | refine callK_rft rfl (EvR.fr [_] hx4 rfl rfl ⟨rfl, trivial⟩ rfl) ?_ | ((conv in (opS _ _ _ _) => whnf); rw [bytesS_sl]) | ((conv in (opM _ _ _ _ _) => whnf); (conv in (opS _ _ _ _) => whnf); rw [bytesS_sl]) | ((conv in (opS _ _ _ _) => whnf); rw [bytesS_os (s := W) rfl]) | ((conv in (opM _ _ _ _ _) => whnf); (conv in (opS _ _ _ _) => whnf); rw [bytesS_os (s := W) rfl]) | (refine gd_mk ?_ ?_; focus (rw [hpl]; simp; done)) | refine brP_t (decide_eq_true rfl) ?_ | refine brP_f (nd_f rfl) ?_ | (refine brP_f ?_ ?_; focus (simp; done)) | (refine gd_mk ?_ ?_; focus (exact app_ok hpl.symm rfl (by show W.length + 1 ≤ 1000000; omega); done)) | refine callK_r (EvR.fr [_] c7 rfl rfl ⟨rfl, trivial⟩ rfl) ?_ | refine callM_l (LEv.fr [_] c7 rfl rfl ⟨rfl, trivial⟩ rfl rfl) ?_ | refine callK_rt (EvR.fr [_] c7 rfl rfl ⟨rfl, trivial⟩ rfl) ?_ | refine callK_rf rfl (EvR.fr [_] c7 rfl rfl ⟨rfl, trivial⟩ rfl) ?_ | refine callK_rft rfl (EvR.fr [_] c7 rfl rfl ⟨rfl, trivial⟩ rfl) ?_ | refine callK_r (EvR.fr [_] c8 rfl rfl ⟨rfl, trivial⟩ rfl) ?_ | refine callM_l (LEv.fr [_] c8 rfl rfl ⟨rfl, trivial⟩ rfl rfl) ?_ | refine callK_rt (EvR.fr [_] c8 rfl rfl ⟨rfl, trivial⟩ rfl) ?_ | refine callK_rf rfl (EvR.fr [_] c8 rfl rfl ⟨rfl, trivial⟩ rfl) ?_ | refine callK_rft rfl (EvR.fr [_] c8 rfl rfl ⟨rfl, trivial⟩ rfl) ?_ | refine callK_r (EvR.fr [_] c8' rfl rfl ⟨rfl, trivial⟩ rfl) ?_ | refine callM_l (LEv.fr [_] c8' rfl rfl ⟨rfl, trivial⟩ rfl rfl) ?_ | refine callK_rt (EvR.fr [_] c8' rfl rfl ⟨rfl, trivial⟩ rfl) ?_ | refine callK_rf rfl (EvR.fr [_] c8' rfl rfl ⟨rfl, trivial⟩ rfl) ?_ | refine callK_rft rfl (EvR.fr [_] c8' rfl rfl ⟨rfl, trivial⟩ rfl) ?_ | refine callM_p hx1 rfl ?_ | refine callM_p c9 rfl ?_ | (refine brP_t ?_ ?_; focus (simp; done)) | refine callK_rf (frz_os rfl (by simp [hpl])) (EvR.fr [] c6 rfl rfl trivial rfl) ?_ | refine wpfS_seq1 ?_ | refine wpfS_go ?_ | fail) <;> conv => whnf)
    rfl
end Go.Ab.S
