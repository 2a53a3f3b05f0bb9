/- Part of a proof; no condition. -/
import Derived.Test.YtjdkjlmcnpjohaaDoorPolP27
set_option linter.unusedSimpArgs false
set_option linter.unusedVariables false
namespace Go.Ab.S
open Go Go.Ab Go.Proofs
attribute [local irreducible] SemS
set_option maxRecDepth 100000
/-! ### Bytes that their owner may append to -/
theorem w_done_os (bs : List UInt8) (hb : bs.length ≤ 2 ^ 40) : EvR PR G f_wire_Writer_Done [.c (.ptr (.par 0) 0)] ⟨wrB 0 bs, []⟩ (.tup [.c (.os (.loc 0) bs.length), iv 0]) ⟨wrF 0 bs, [.arr 1 false (bytesOf bs)]⟩ := by
  have hfz : freezeAs ⟨wrB 0 bs, []⟩ [.c (.os (.par 1) bs.length)] = some (true, [slv (bytesOf bs)], ⟨wrF 0 bs, []⟩) := by
    show some (decide (bs.length = (bytesOf bs).length) && true, _, _) = _
    rw [decide_eq_true (bytesOf_len bs).symm]; rfl
  refine EvR.of_wpf false false hm c_wire_Writer_Done rfl ?_
  conv => whnf
  repeat' ((first | refine brP_t (by assumption) ?_ | refine brP_f (by assumption) ?_ | refine brP_t (decide_eq_true (by omega)) ?_ | refine brP_f (decide_eq_false (by omega)) ?_ | refine brP_t (nd_t (by omega)) ?_ | refine brP_f (nd_f (by omega)) ?_ | refine callK_rf hfz (EvR.fr [] (clone1 hb) rfl rfl trivial rfl) ?_ | (refine gd_mk ?_ ?_; focus (rw [bytesOf_len]; simp; done)) | refine wpfS_go ?_ | fail) <;> conv => whnf)
  exact ⟨rfl, rfl⟩
theorem policy_Bytes_os (p : Pol) (hp : p.Ok) : EvR PR G f_policy_Bytes [p.v] ⟨[], []⟩ (.c (.os (.loc 4) (polB p).length)) ⟨[], [.row p.row, .mrow [.p (.int .i64 0), .os (.loc 2) (polB p).length], .arr 1 true (bytesOf (polB p)), .row [.int .u16 p.live], .arr 1 false (bytesOf (polB p))]⟩ := by
  have c0 := fresh_w (w_num_ok 0 [] (by simp) p.live 2 (okNum_of (by omega) (by have := hp.live; omega))) rfl rfl rfl
  have e3 := Each0_ok p.live
  have hwl : IntKind.i64.wrap (p.live : Int) = p.live := wrap64 (by have := hp.live; omega)
  refine EvR.of_wpf false false hm c_policy_Bytes rfl ?_
  refine wpf_seq1 ?_
  conv => whnf
  repeat' ((first | refine brP_t (by assumption) ?_ | refine brP_f (by assumption) ?_ | refine brP_t (decide_eq_true (by omega)) ?_ | refine brP_f (decide_eq_false (by omega)) ?_ | refine brP_t (nd_t (by omega)) ?_ | refine brP_f (nd_f (by omega)) ?_ | ((rw [hwl])) | refine callK_r (EvR.fr [_] c0 rfl rfl ⟨rfl, trivial⟩ rfl) ?_ | refine callM_l (LEv.fr [_] c0 rfl rfl ⟨rfl, trivial⟩ rfl rfl) ?_ | refine callK_rt (EvR.fr [_] c0 rfl rfl ⟨rfl, trivial⟩ rfl) ?_ | refine callK_rf rfl (EvR.fr [_] c0 rfl rfl ⟨rfl, trivial⟩ rfl) ?_ | refine callK_rft rfl (EvR.fr [_] c0 rfl rfl ⟨rfl, trivial⟩ rfl) ?_ | refine callK_r (EvR.fr [] e3 rfl rfl trivial rfl) ?_ | refine callM_l (LEv.fr [] e3 rfl rfl trivial rfl rfl) ?_ | refine callK_rt (EvR.fr [] e3 rfl rfl trivial rfl) ?_ | refine callK_rf rfl (EvR.fr [] e3 rfl rfl trivial rfl) ?_ | refine callK_rft rfl (EvR.fr [] e3 rfl rfl trivial rfl) ?_ | refine wpfS_seq1 ?_ | refine wpfS_go ?_ | fail) <;> conv => whnf)
  have hpre : ∀ {pre : List Int} {x : Int}, pre ++ [x] <+: bitsL p.live → (∀ q ∈ pre.map Int.toNat, q < 16) ∧ ∃ q : Nat, x = q ∧ q < 16 := by
    intro pre x h
    refine ⟨fun q hq => ?_, ?_⟩
    · obtain ⟨y, hy, rfl⟩ := List.mem_map.1 hq
      obtain ⟨z, hz, rfl⟩ := List.mem_map.1 (h.subset (show y ∈ pre ++ [x] by simp [hy]))
      exact (mem_bitsN.1 hz).1
    · obtain ⟨z, hz, rfl⟩ := List.mem_map.1 (h.subset (show x ∈ pre ++ [x] by simp))
      exact ⟨z, rfl, (mem_bitsN.1 hz).1⟩
  have hbl : (bitsL p.live).length ≤ 16 := by unfold bitsL; rw [List.length_map]; exact bitsN_len _
  refine SemS.rf false hm (s := p.live) (xs := bitsL p.live) rfl each_callable rfl (fun F w r' hG hF hc => each1 p.live hp.live F w r' hG hF hc)
    (fun pre H => H = ⟨[], [.row p.row, .mrow [.p (.int .i64 0), .os (.loc 2) (numB p.live 2 ++ (pre.map Int.toNat).flatMap (recB p)).length], .arr 1 false (bytesOf (numB p.live 2 ++ (pre.map Int.toNat).flatMap (recB p))), .row [.int .u16 p.live]]⟩) (fun _ _ => False) ?_ ?_ ?_ ?_
  · show _ = (⟨[], [.row p.row, .mrow [.p (.int .i64 0), .os (.loc 2) (numB p.live 2 ++ []).length], .arr 1 false (bytesOf (numB p.live 2 ++ [])), .row [.int .u16 p.live]]⟩ : Hp)
    rw [List.append_nil]
    rfl
  · rintro pre x H1 hpx rfl
    obtain ⟨hp1, q, rfl, hq⟩ := hpre hpx
    have hpl : pre.length ≤ 16 := by
      have := hpx.length_le
      simp at this
      omega
    have hfold : numB p.live 2 ++ ((pre ++ [(q : Int)]).map Int.toNat).flatMap (recB p) = ((numB p.live 2 ++ (pre.map Int.toNat).flatMap (recB p)) ++ numB (p.ls q) 2 ++ numB (p.li q) 2) ++ numB (p.acts q) 2 := by
      rw [List.map_append, List.flatMap_append]
      simp [recB, List.append_assoc]
    rw [hfold]
    have hlen : (numB p.live 2 ++ (pre.map Int.toNat).flatMap (recB p)).length ≤ 100 := by
      rw [List.length_append, recs_len, numB_len, List.length_map]; omega
    generalize numB p.live 2 ++ (pre.map Int.toNat).flatMap (recB p) = b0 at *
    have g1 := pol_ls p hq
    have g2 := pol_li p hq
    have g3 := pol_act p hq
    have h1 := hp.ls q hq
    have h2 := hp.li q hq
    have h3 := hp.acts q hq
    generalize p.ls q = x1 at *
    generalize p.li q = x2 at *
    generalize p.acts q = x3 at *
    have w1 : IntKind.i64.wrap (x1 : Int) = x1 := wrap64 (by omega)
    have w2 : IntKind.i64.wrap (x2 : Int) = x2 := wrap64 (by omega)
    have w3 : IntKind.i64.wrap (x3 : Int) = x3 := wrap64 (by omega)
    have d1 := w_num_ok 0 b0 (by omega) x1 2 (okNum_of (by omega) (by omega))
    have n1 : (b0 ++ numB x1 2).length ≤ 102 := by rw [List.length_append, numB_len]; omega
    generalize b0 ++ numB x1 2 = b1 at *
    have d2 := w_num_ok 0 b1 (by omega) x2 2 (okNum_of (by omega) (by omega))
    have n2 : (b1 ++ numB x2 2).length ≤ 104 := by rw [List.length_append, numB_len]; omega
    generalize b1 ++ numB x2 2 = b2 at *
    have d3 := w_num_ok 0 b2 (by omega) x3 2 (okNum_of (by omega) (by omega))
    generalize b2 ++ numB x3 2 = b3 at *
    conv => whnf
    refine ⟨rfl, ?_⟩
    conv => whnf
    repeat' ((first | refine brP_t (by assumption) ?_ | refine brP_f (by assumption) ?_ | refine brP_t (decide_eq_true (by omega)) ?_ | refine brP_f (decide_eq_false (by omega)) ?_ | refine brP_t (nd_t (by omega)) ?_ | refine brP_f (nd_f (by omega)) ?_ | ((conv in (opS _ _ _ _) => whnf); rw [Int.toNat_natCast, g1]) | ((conv in (opM _ _ _ _ _) => whnf); (conv in (opS _ _ _ _) => whnf); rw [Int.toNat_natCast, g1]) | ((conv in (opS _ _ _ _) => whnf); rw [Int.toNat_natCast, g2]) | ((conv in (opM _ _ _ _ _) => whnf); (conv in (opS _ _ _ _) => whnf); rw [Int.toNat_natCast, g2]) | ((conv in (opS _ _ _ _) => whnf); rw [Int.toNat_natCast, g3]) | ((conv in (opM _ _ _ _ _) => whnf); (conv in (opS _ _ _ _) => whnf); rw [Int.toNat_natCast, g3]) | refine wpfS_seq1 ?_ | refine wpfS_go ?_ | fail) <;> conv => whnf)
    refine SemS.loop1 false hm ?_
    refine wpf_seq1 ?_
    conv => whnf
    repeat' ((first | refine brP_t (by assumption) ?_ | refine brP_f (by assumption) ?_ | refine brP_t (decide_eq_true (by omega)) ?_ | refine brP_f (decide_eq_false (by omega)) ?_ | refine brP_t (nd_t (by omega)) ?_ | refine brP_f (nd_f (by omega)) ?_ | ((rw [w1])) | refine callK_r (EvR.fr [_, _] d1 rfl rfl ⟨rfl, rfl, trivial⟩ rfl) ?_ | refine callM_l (LEv.fr [_, _] d1 rfl rfl ⟨rfl, rfl, trivial⟩ rfl rfl) ?_ | refine callK_rt (EvR.fr [_, _] d1 rfl rfl ⟨rfl, rfl, trivial⟩ rfl) ?_ | refine callK_rf rfl (EvR.fr [_, _] d1 rfl rfl ⟨rfl, rfl, trivial⟩ rfl) ?_ | refine callK_rft rfl (EvR.fr [_, _] d1 rfl rfl ⟨rfl, rfl, trivial⟩ rfl) ?_ | refine wpfS_seq1 ?_ | refine wpfS_go ?_ | fail) <;> conv => whnf)
    refine SemS.loop1 false hm ?_
    refine wpf_seq1 ?_
    conv => whnf
    repeat' ((first | refine brP_t (by assumption) ?_ | refine brP_f (by assumption) ?_ | refine brP_t (decide_eq_true (by omega)) ?_ | refine brP_f (decide_eq_false (by omega)) ?_ | refine brP_t (nd_t (by omega)) ?_ | refine brP_f (nd_f (by omega)) ?_ | ((rw [w2])) | refine callK_r (EvR.fr [_, _] d2 rfl rfl ⟨rfl, rfl, trivial⟩ rfl) ?_ | refine callM_l (LEv.fr [_, _] d2 rfl rfl ⟨rfl, rfl, trivial⟩ rfl rfl) ?_ | refine callK_rt (EvR.fr [_, _] d2 rfl rfl ⟨rfl, rfl, trivial⟩ rfl) ?_ | refine callK_rf rfl (EvR.fr [_, _] d2 rfl rfl ⟨rfl, rfl, trivial⟩ rfl) ?_ | refine callK_rft rfl (EvR.fr [_, _] d2 rfl rfl ⟨rfl, rfl, trivial⟩ rfl) ?_ | refine wpfS_seq1 ?_ | refine wpfS_go ?_ | fail) <;> conv => whnf)
    refine SemS.loop1 false hm ?_
    refine wpf_seq1 ?_
    conv => whnf
    repeat' ((first | refine brP_t (by assumption) ?_ | refine brP_f (by assumption) ?_ | refine brP_t (decide_eq_true (by omega)) ?_ | refine brP_f (decide_eq_false (by omega)) ?_ | refine brP_t (nd_t (by omega)) ?_ | refine brP_f (nd_f (by omega)) ?_ | ((rw [w3])) | refine callK_r (EvR.fr [_, _] d3 rfl rfl ⟨rfl, rfl, trivial⟩ rfl) ?_ | refine callM_l (LEv.fr [_, _] d3 rfl rfl ⟨rfl, rfl, trivial⟩ rfl rfl) ?_ | refine callK_rt (EvR.fr [_, _] d3 rfl rfl ⟨rfl, rfl, trivial⟩ rfl) ?_ | refine callK_rf rfl (EvR.fr [_, _] d3 rfl rfl ⟨rfl, rfl, trivial⟩ rfl) ?_ | refine callK_rft rfl (EvR.fr [_, _] d3 rfl rfl ⟨rfl, rfl, trivial⟩ rfl) ?_ | refine wpfS_seq1 ?_ | refine wpfS_go ?_ | fail) <;> conv => whnf)
    refine SemS.loop1 false hm ?_
    refine wpf_seq1 ?_
    conv => whnf
    repeat' ((first | refine brP_t (by assumption) ?_ | refine brP_f (by assumption) ?_ | refine brP_t (decide_eq_true (by omega)) ?_ | refine brP_f (decide_eq_false (by omega)) ?_ | refine brP_t (nd_t (by omega)) ?_ | refine brP_f (nd_f (by omega)) ?_ | refine wpfS_seq1 ?_ | refine wpfS_go ?_ | fail) <;> conv => whnf)
  · rintro H1 rfl
    have hmap : (bitsL p.live).map Int.toNat = bitsN p.live := by
      unfold bitsL
      rw [List.map_map]
      conv => rhs; rw [← List.map_id (bitsN p.live)]
      rfl
    rw [hmap]
    have hlen : (numB p.live 2 ++ (bitsN p.live).flatMap (recB p)).length ≤ 100 := by
      have := bitsN_len p.live
      rw [List.length_append, recs_len, numB_len]; omega
    unfold polB
    generalize numB p.live 2 ++ (bitsN p.live).flatMap (recB p) = b0 at *
    have ha := hp.active
    have wa : IntKind.i64.wrap (p.active : Int) = p.active := wrap64 (by omega)
    have d1 := w_num_ok 0 b0 (by omega) p.active 2 (okNum_of (by omega) (by omega))
    have n1 : (b0 ++ numB p.active 2).length ≤ 102 := by rw [List.length_append, numB_len]; omega
    generalize b0 ++ numB p.active 2 = b1 at *
    conv => whnf
    repeat' ((first | refine brP_t (by assumption) ?_ | refine brP_f (by assumption) ?_ | refine brP_t (decide_eq_true (by omega)) ?_ | refine brP_f (decide_eq_false (by omega)) ?_ | refine brP_t (nd_t (by omega)) ?_ | refine brP_f (nd_f (by omega)) ?_ | ((rw [wa])) | refine callK_r (EvR.fr [_, _] d1 rfl rfl ⟨rfl, rfl, trivial⟩ rfl) ?_ | refine callM_l (LEv.fr [_, _] d1 rfl rfl ⟨rfl, rfl, trivial⟩ rfl rfl) ?_ | refine callK_rt (EvR.fr [_, _] d1 rfl rfl ⟨rfl, rfl, trivial⟩ rfl) ?_ | refine callK_rf rfl (EvR.fr [_, _] d1 rfl rfl ⟨rfl, rfl, trivial⟩ rfl) ?_ | refine callK_rft rfl (EvR.fr [_, _] d1 rfl rfl ⟨rfl, rfl, trivial⟩ rfl) ?_ | refine wpfS_seq1 ?_ | refine wpfS_go ?_ | fail) <;> conv => whnf)
    refine SemS.loopF false hm (σ := Nat) (fun j => [(3, .c (.ptr (.loc 1) 0)), (48, .agg (mrow p.own)), (49, iv j)]) (fun j => ⟨[], [.row p.row, .mrow [.p (.int .i64 0), .os (.loc 2) (b1 ++ ownsB p j).length], .arr 1 false (bytesOf (b1 ++ ownsB p j)), .row [.int .u16 p.live]]⟩) (fun j => 16 - j) (fun j => j ≤ 16) 0 (Nat.zero_le _) ⟨rfl, rfl, rfl, trivial⟩ ?_ ?_
    · show _ = (⟨[], [.row p.row, .mrow [.p (.int .i64 0), .os (.loc 2) (b1 ++ []).length], .arr 1 false (bytesOf (b1 ++ [])), .row [.int .u16 p.live]]⟩ : Hp)
      rw [List.append_nil]
    intro j hj
    have hl2 : (b1 ++ ownsB p j).length ≤ 120 := by rw [List.length_append, owns_len]; omega
    have hst : b1 ++ ownsB p (j + 1) = (b1 ++ ownsB p j) ++ numB (p.own j) 1 := by rw [owns_step, List.append_assoc]
    refine wpf_seq1 ?_
    conv => whnf
    try (refine wpfS_seq1 ?_; conv => whnf)
    refine brP_mk (fun h => ?_) (fun h => ?_)
    · have hj' : j < 16 := by have := of_decide_eq_true h; omega
      clear h
      have hw2 : IntKind.i64.wrap ((j : Int) + 1) = ((j + 1 : Nat) : Int) := by rw [wrap64 (by omega)]; rfl
      have hget := own_at p.own hj'
      have hw := wrapU8 (p.own j) (hp.own j hj')
      have ho := hp.own j hj'
      generalize b1 ++ ownsB p j = b2 at *
      have d2 := w_num_ok 0 b2 (by omega) (p.own j) 1 (okNum_of (by omega) (by omega))
      repeat' ((first | refine brP_t (by assumption) ?_ | refine brP_f (by assumption) ?_ | refine brP_t (decide_eq_true (by omega)) ?_ | refine brP_f (decide_eq_false (by omega)) ?_ | refine brP_t (nd_t (by omega)) ?_ | refine brP_f (nd_f (by omega)) ?_ | ((conv in (opS _ _ _ _) => whnf); rw [Int.toNat_natCast, hget]) | ((conv in (opM _ _ _ _ _) => whnf); (conv in (opS _ _ _ _) => whnf); rw [Int.toNat_natCast, hget]) | ((rw [hw])) | refine callK_r (EvR.fr [_, _] d2 rfl rfl ⟨rfl, rfl, trivial⟩ rfl) ?_ | refine callM_l (LEv.fr [_, _] d2 rfl rfl ⟨rfl, rfl, trivial⟩ rfl rfl) ?_ | refine callK_rt (EvR.fr [_, _] d2 rfl rfl ⟨rfl, rfl, trivial⟩ rfl) ?_ | refine callK_rf rfl (EvR.fr [_, _] d2 rfl rfl ⟨rfl, rfl, trivial⟩ rfl) ?_ | refine callK_rft rfl (EvR.fr [_, _] d2 rfl rfl ⟨rfl, rfl, trivial⟩ rfl) ?_ | refine wpfS_seq1 ?_ | refine wpfS_go ?_ | fail) <;> conv => whnf)
      rw [hw2]
      refine ⟨j + 1, hj', (show 16 - (j + 1) < 16 - j by omega), ⟨rfl, rfl, rfl, trivial⟩, ?_⟩
      show _ = (⟨[], [.row p.row, .mrow [.p (.int .i64 0), .os (.loc 2) (b1 ++ ownsB p (j + 1)).length], .arr 1 false (bytesOf (b1 ++ ownsB p (j + 1))), .row [.int .u16 p.live]]⟩ : Hp)
      rw [hst]
    · have hj' : j = 16 := by have := of_decide_eq_false h; omega
      subst hj'
      clear h hst
      generalize b1 ++ ownsB p 16 = b2 at *
      have d2 := w_done_os b2 (by omega)
      conv => whnf
      repeat' ((first | refine brP_t (by assumption) ?_ | refine brP_f (by assumption) ?_ | refine brP_t (decide_eq_true (by omega)) ?_ | refine brP_f (decide_eq_false (by omega)) ?_ | refine brP_t (nd_t (by omega)) ?_ | refine brP_f (nd_f (by omega)) ?_ | refine callK_r (EvR.fr [_, _] d2 rfl rfl ⟨rfl, rfl, trivial⟩ rfl) ?_ | refine callM_l (LEv.fr [_, _] d2 rfl rfl ⟨rfl, rfl, trivial⟩ rfl rfl) ?_ | refine callK_rt (EvR.fr [_, _] d2 rfl rfl ⟨rfl, rfl, trivial⟩ rfl) ?_ | refine callK_rf rfl (EvR.fr [_, _] d2 rfl rfl ⟨rfl, rfl, trivial⟩ rfl) ?_ | refine callK_rft rfl (EvR.fr [_, _] d2 rfl rfl ⟨rfl, rfl, trivial⟩ rfl) ?_ | refine wpfS_seq1 ?_ | refine wpfS_go ?_ | fail) <;> conv => whnf)
      exact ⟨rfl, rfl⟩
  · intro e H1 _ h
    exact h.elim
end Go.Ab.S
