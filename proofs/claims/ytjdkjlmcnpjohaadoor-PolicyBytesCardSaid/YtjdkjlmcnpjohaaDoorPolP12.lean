/- Part of a proof; no condition. -/
import Derived.Test.YtjdkjlmcnpjohaaDoorPolP11
import Derived.Test.YtjdkjlmcnpjohaaDoorLibWZ
set_option linter.unusedSimpArgs false
set_option linter.unusedVariables false
namespace Go.Ab.S
open Go Go.Ab Go.Proofs
attribute [local irreducible] SemS
set_option maxRecDepth 100000
/-! ### A policy's bytes -/
def recB (p : Pol) (r : Nat) : List UInt8 := numB (p.ls r) 2 ++ (numB (p.li r) 2 ++ numB (p.acts r) 2)
def ownsB (p : Pol) (n : Nat) : List UInt8 := (List.range n).flatMap fun t => numB (p.own t) 1
def polB (p : Pol) : List UInt8 := numB p.live 2 ++ (bitsN p.live).flatMap (recB p) ++ numB p.active 2 ++ ownsB p 16
theorem rec_len (p : Pol) (r : Nat) : (recB p r).length = 6 := by simp [recB, numB_len]
theorem recs_len (p : Pol) : ∀ (l : List Nat), (l.flatMap (recB p)).length = 6 * l.length
  | [] => rfl
  | r :: l => by rw [List.flatMap_cons, List.length_append, rec_len, recs_len p l, List.length_cons]; omega
theorem owns_len (p : Pol) (n : Nat) : (ownsB p n).length = n := by
  induction n with
  | zero => rfl
  | succ n ih => unfold ownsB at ih ⊢; rw [List.range_succ, List.flatMap_append, List.length_append, ih]; simp [numB_len]
theorem owns_step (p : Pol) (n : Nat) : ownsB p (n + 1) = ownsB p n ++ numB (p.own n) 1 := by
  unfold ownsB; rw [List.range_succ, List.flatMap_append]; simp
theorem bitsN_len (s : Nat) : (bitsN s).length ≤ 16 := by
  unfold bitsN
  exact Nat.le_trans (List.length_filter_le _ _) (by simp)
theorem pol_ls (p : Pol) {r : Nat} (h : r < 16) : partP false 1 p.row (0 + 1 + r * 2 + 0) = some (true, uv (p.ls r)) := by
  rcases cases16 h with rfl | rfl | rfl | rfl | rfl | rfl | rfl | rfl | rfl | rfl | rfl | rfl | rfl | rfl | rfl | rfl <;> rfl
theorem pol_li (p : Pol) {r : Nat} (h : r < 16) : partP false 1 p.row (0 + 1 + r * 2 + 1) = some (true, uv (p.li r)) := by
  rcases cases16 h with rfl | rfl | rfl | rfl | rfl | rfl | rfl | rfl | rfl | rfl | rfl | rfl | rfl | rfl | rfl | rfl <;> rfl
theorem policy_Bytes_ok (p : Pol) (hp : p.Ok) : EvP PR G f_policy_Bytes [p.v] (slv (bytesOf (polB p))) := by
  have c0 := fresh_w (w_num_ok 0 [] (by simp) p.live 2 (okNum_of (by omega) (by have := hp.live; omega))) rfl rfl rfl
  have e3 := Each0_ok p.live
  have hwl : IntKind.i64.wrap (p.live : Int) = p.live := wrap64 (by have := hp.live; omega)
  refine EvP.of_wpf false hm c_policy_Bytes rfl ?_
  refine wpf_seq1 ?_
  conv => whnf
  repeat' ((first | refine brP_t (by assumption) ?_ | refine brP_f (by assumption) ?_ | refine brP_t (decide_eq_true (by omega)) ?_ | refine brP_f (decide_eq_false (by omega)) ?_ | refine brP_t (nd_t (by omega)) ?_ | refine brP_f (nd_f (by omega)) ?_ | ((rw [hwl])) | refine callK_r (EvR.fr [_] c0 rfl rfl ⟨rfl, trivial⟩ rfl) ?_ | refine callM_l (LEv.fr [_] c0 rfl rfl ⟨rfl, trivial⟩ rfl rfl) ?_ | refine callK_rt (EvR.fr [_] c0 rfl rfl ⟨rfl, trivial⟩ rfl) ?_ | refine callK_rf rfl (EvR.fr [_] c0 rfl rfl ⟨rfl, trivial⟩ rfl) ?_ | refine callK_rft rfl (EvR.fr [_] c0 rfl rfl ⟨rfl, trivial⟩ rfl) ?_ | refine callK_r (EvR.fr [] e3 rfl rfl trivial rfl) ?_ | refine callM_l (LEv.fr [] e3 rfl rfl trivial rfl rfl) ?_ | refine callK_rt (EvR.fr [] e3 rfl rfl trivial rfl) ?_ | refine callK_rf rfl (EvR.fr [] e3 rfl rfl trivial rfl) ?_ | refine callK_rft rfl (EvR.fr [] e3 rfl rfl trivial rfl) ?_ | refine wpfS_seq1 ?_ | refine wpfS_go ?_ | fail) <;> conv => whnf)
  have hpre : ∀ {pre : List Int} {x : Int}, pre ++ [x] <+: bitsL p.live → (∀ q ∈ pre.map Int.toNat, q < 16) ∧ ∃ q : Nat, x = q ∧ q < 16 := by
    intro pre x h
    refine ⟨fun q hq => ?_, ?_⟩
    · obtain ⟨y, hy, rfl⟩ := List.mem_map.1 hq
      obtain ⟨z, hz, rfl⟩ := List.mem_map.1 (h.subset (show y ∈ pre ++ [x] by simp [hy]))
      exact (mem_bitsN.1 hz).1
    · obtain ⟨z, hz, rfl⟩ := List.mem_map.1 (h.subset (show x ∈ pre ++ [x] by simp))
      exact ⟨z, rfl, (mem_bitsN.1 hz).1⟩
  have hbl : (bitsL p.live).length ≤ 16 := by unfold bitsL; rw [List.length_map]; exact bitsN_len _
  refine SemS.rf false hm (s := p.live) (xs := bitsL p.live) rfl each_callable rfl (fun F w r' hG hF hc => each1 p.live hp.live F w r' hG hF hc)
    (fun pre H => H = ⟨[], [.row p.row, .mrow [.p (.int .i64 0), .os (.loc 2) (numB p.live 2 ++ (pre.map Int.toNat).flatMap (recB p)).length], .arr 1 false (bytesOf (numB p.live 2 ++ (pre.map Int.toNat).flatMap (recB p))), .row [.int .u16 p.live]]⟩) (fun _ _ => False) ?_ ?_ ?_ ?_
  · show _ = (⟨[], [.row p.row, .mrow [.p (.int .i64 0), .os (.loc 2) (numB p.live 2 ++ []).length], .arr 1 false (bytesOf (numB p.live 2 ++ [])), .row [.int .u16 p.live]]⟩ : Hp)
    rw [List.append_nil]
    rfl
  · rintro pre x H1 hpx rfl
    obtain ⟨hp1, q, rfl, hq⟩ := hpre hpx
    have hpl : pre.length ≤ 16 := by
      have := hpx.length_le
      simp at this
      omega
    have hfold : numB p.live 2 ++ ((pre ++ [(q : Int)]).map Int.toNat).flatMap (recB p) = ((numB p.live 2 ++ (pre.map Int.toNat).flatMap (recB p)) ++ numB (p.ls q) 2 ++ numB (p.li q) 2) ++ numB (p.acts q) 2 := by
      rw [List.map_append, List.flatMap_append]
      simp [recB, List.append_assoc]
    rw [hfold]
    have hlen : (numB p.live 2 ++ (pre.map Int.toNat).flatMap (recB p)).length ≤ 100 := by
      rw [List.length_append, recs_len, numB_len, List.length_map]; omega
    generalize numB p.live 2 ++ (pre.map Int.toNat).flatMap (recB p) = b0 at *
    have g1 := pol_ls p hq
    have g2 := pol_li p hq
    have g3 := pol_act p hq
    have h1 := hp.ls q hq
    have h2 := hp.li q hq
    have h3 := hp.acts q hq
    generalize p.ls q = x1 at *
    generalize p.li q = x2 at *
    generalize p.acts q = x3 at *
    have w1 : IntKind.i64.wrap (x1 : Int) = x1 := wrap64 (by omega)
    have w2 : IntKind.i64.wrap (x2 : Int) = x2 := wrap64 (by omega)
    have w3 : IntKind.i64.wrap (x3 : Int) = x3 := wrap64 (by omega)
    have d1 := w_num_ok 0 b0 (by omega) x1 2 (okNum_of (by omega) (by omega))
    have n1 : (b0 ++ numB x1 2).length ≤ 102 := by rw [List.length_append, numB_len]; omega
    generalize b0 ++ numB x1 2 = b1 at *
    have d2 := w_num_ok 0 b1 (by omega) x2 2 (okNum_of (by omega) (by omega))
    have n2 : (b1 ++ numB x2 2).length ≤ 104 := by rw [List.length_append, numB_len]; omega
    generalize b1 ++ numB x2 2 = b2 at *
    have d3 := w_num_ok 0 b2 (by omega) x3 2 (okNum_of (by omega) (by omega))
    generalize b2 ++ numB x3 2 = b3 at *
    conv => whnf
    refine ⟨rfl, ?_⟩
    conv => whnf
    repeat' ((first | refine brP_t (by assumption) ?_ | refine brP_f (by assumption) ?_ | refine brP_t (decide_eq_true (by omega)) ?_ | refine brP_f (decide_eq_false (by omega)) ?_ | refine brP_t (nd_t (by omega)) ?_ | refine brP_f (nd_f (by omega)) ?_ | ((conv in (opS _ _ _ _) => whnf); rw [Int.toNat_natCast, g1]) | ((conv in (opM _ _ _ _ _) => whnf); (conv in (opS _ _ _ _) => whnf); rw [Int.toNat_natCast, g1]) | ((conv in (opS _ _ _ _) => whnf); rw [Int.toNat_natCast, g2]) | ((conv in (opM _ _ _ _ _) => whnf); (conv in (opS _ _ _ _) => whnf); rw [Int.toNat_natCast, g2]) | ((conv in (opS _ _ _ _) => whnf); rw [Int.toNat_natCast, g3]) | ((conv in (opM _ _ _ _ _) => whnf); (conv in (opS _ _ _ _) => whnf); rw [Int.toNat_natCast, g3]) | refine wpfS_seq1 ?_ | refine wpfS_go ?_ | fail) <;> conv => whnf)
    refine SemS.loop1 false hm ?_
    refine wpf_seq1 ?_
    conv => whnf
    repeat' ((first | refine brP_t (by assumption) ?_ | refine brP_f (by assumption) ?_ | refine brP_t (decide_eq_true (by omega)) ?_ | refine brP_f (decide_eq_false (by omega)) ?_ | refine brP_t (nd_t (by omega)) ?_ | refine brP_f (nd_f (by omega)) ?_ | ((rw [w1])) | refine callK_r (EvR.fr [_, _] d1 rfl rfl ⟨rfl, rfl, trivial⟩ rfl) ?_ | refine callM_l (LEv.fr [_, _] d1 rfl rfl ⟨rfl, rfl, trivial⟩ rfl rfl) ?_ | refine callK_rt (EvR.fr [_, _] d1 rfl rfl ⟨rfl, rfl, trivial⟩ rfl) ?_ | refine callK_rf rfl (EvR.fr [_, _] d1 rfl rfl ⟨rfl, rfl, trivial⟩ rfl) ?_ | refine callK_rft rfl (EvR.fr [_, _] d1 rfl rfl ⟨rfl, rfl, trivial⟩ rfl) ?_ | refine wpfS_seq1 ?_ | refine wpfS_go ?_ | fail) <;> conv => whnf)
    refine SemS.loop1 false hm ?_
    refine wpf_seq1 ?_
    conv => whnf
    repeat' ((first | refine brP_t (by assumption) ?_ | refine brP_f (by assumption) ?_ | refine brP_t (decide_eq_true (by omega)) ?_ | refine brP_f (decide_eq_false (by omega)) ?_ | refine brP_t (nd_t (by omega)) ?_ | refine brP_f (nd_f (by omega)) ?_ | ((rw [w2])) | refine callK_r (EvR.fr [_, _] d2 rfl rfl ⟨rfl, rfl, trivial⟩ rfl) ?_ | refine callM_l (LEv.fr [_, _] d2 rfl rfl ⟨rfl, rfl, trivial⟩ rfl rfl) ?_ | refine callK_rt (EvR.fr [_, _] d2 rfl rfl ⟨rfl, rfl, trivial⟩ rfl) ?_ | refine callK_rf rfl (EvR.fr [_, _] d2 rfl rfl ⟨rfl, rfl, trivial⟩ rfl) ?_ | refine callK_rft rfl (EvR.fr [_, _] d2 rfl rfl ⟨rfl, rfl, trivial⟩ rfl) ?_ | refine wpfS_seq1 ?_ | refine wpfS_go ?_ | fail) <;> conv => whnf)
    refine SemS.loop1 false hm ?_
    refine wpf_seq1 ?_
    conv => whnf
    repeat' ((first | refine brP_t (by assumption) ?_ | refine brP_f (by assumption) ?_ | refine brP_t (decide_eq_true (by omega)) ?_ | refine brP_f (decide_eq_false (by omega)) ?_ | refine brP_t (nd_t (by omega)) ?_ | refine brP_f (nd_f (by omega)) ?_ | ((rw [w3])) | refine callK_r (EvR.fr [_, _] d3 rfl rfl ⟨rfl, rfl, trivial⟩ rfl) ?_ | refine callM_l (LEv.fr [_, _] d3 rfl rfl ⟨rfl, rfl, trivial⟩ rfl rfl) ?_ | refine callK_rt (EvR.fr [_, _] d3 rfl rfl ⟨rfl, rfl, trivial⟩ rfl) ?_ | refine callK_rf rfl (EvR.fr [_, _] d3 rfl rfl ⟨rfl, rfl, trivial⟩ rfl) ?_ | refine callK_rft rfl (EvR.fr [_, _] d3 rfl rfl ⟨rfl, rfl, trivial⟩ rfl) ?_ | refine wpfS_seq1 ?_ | refine wpfS_go ?_ | fail) <;> conv => whnf)
    refine SemS.loop1 false hm ?_
    refine wpf_seq1 ?_
    conv => whnf
    repeat' ((first | refine brP_t (by assumption) ?_ | refine brP_f (by assumption) ?_ | refine brP_t (decide_eq_true (by omega)) ?_ | refine brP_f (decide_eq_false (by omega)) ?_ | refine brP_t (nd_t (by omega)) ?_ | refine brP_f (nd_f (by omega)) ?_ | refine wpfS_seq1 ?_ | refine wpfS_go ?_ | fail) <;> conv => whnf)
  · rintro H1 rfl
    have hmap : (bitsL p.live).map Int.toNat = bitsN p.live := by
      unfold bitsL
      rw [List.map_map]
      conv => rhs; rw [← List.map_id (bitsN p.live)]
      rfl
    rw [hmap]
    have hlen : (numB p.live 2 ++ (bitsN p.live).flatMap (recB p)).length ≤ 100 := by
      have := bitsN_len p.live
      rw [List.length_append, recs_len, numB_len]; omega
    unfold polB
    generalize numB p.live 2 ++ (bitsN p.live).flatMap (recB p) = b0 at *
    have ha := hp.active
    have wa : IntKind.i64.wrap (p.active : Int) = p.active := wrap64 (by omega)
    have d1 := w_num_ok 0 b0 (by omega) p.active 2 (okNum_of (by omega) (by omega))
    have n1 : (b0 ++ numB p.active 2).length ≤ 102 := by rw [List.length_append, numB_len]; omega
    generalize b0 ++ numB p.active 2 = b1 at *
    conv => whnf
    repeat' ((first | refine brP_t (by assumption) ?_ | refine brP_f (by assumption) ?_ | refine brP_t (decide_eq_true (by omega)) ?_ | refine brP_f (decide_eq_false (by omega)) ?_ | refine brP_t (nd_t (by omega)) ?_ | refine brP_f (nd_f (by omega)) ?_ | ((rw [wa])) | refine callK_r (EvR.fr [_, _] d1 rfl rfl ⟨rfl, rfl, trivial⟩ rfl) ?_ | refine callM_l (LEv.fr [_, _] d1 rfl rfl ⟨rfl, rfl, trivial⟩ rfl rfl) ?_ | refine callK_rt (EvR.fr [_, _] d1 rfl rfl ⟨rfl, rfl, trivial⟩ rfl) ?_ | refine callK_rf rfl (EvR.fr [_, _] d1 rfl rfl ⟨rfl, rfl, trivial⟩ rfl) ?_ | refine callK_rft rfl (EvR.fr [_, _] d1 rfl rfl ⟨rfl, rfl, trivial⟩ rfl) ?_ | refine wpfS_seq1 ?_ | refine wpfS_go ?_ | fail) <;> conv => whnf)
    refine SemS.loopF false hm (σ := Nat) (fun j => [(3, .c (.ptr (.loc 1) 0)), (48, .agg (mrow p.own)), (49, iv j)]) (fun j => ⟨[], [.row p.row, .mrow [.p (.int .i64 0), .os (.loc 2) (b1 ++ ownsB p j).length], .arr 1 false (bytesOf (b1 ++ ownsB p j)), .row [.int .u16 p.live]]⟩) (fun j => 16 - j) (fun j => j ≤ 16) 0 (Nat.zero_le _) ⟨rfl, rfl, rfl, trivial⟩ ?_ ?_
    · show _ = (⟨[], [.row p.row, .mrow [.p (.int .i64 0), .os (.loc 2) (b1 ++ []).length], .arr 1 false (bytesOf (b1 ++ [])), .row [.int .u16 p.live]]⟩ : Hp)
      rw [List.append_nil]
    intro j hj
    have hl2 : (b1 ++ ownsB p j).length ≤ 120 := by rw [List.length_append, owns_len]; omega
    have hst : b1 ++ ownsB p (j + 1) = (b1 ++ ownsB p j) ++ numB (p.own j) 1 := by rw [owns_step, List.append_assoc]
    refine wpf_seq1 ?_
    conv => whnf
    try (refine wpfS_seq1 ?_; conv => whnf)
    refine brP_mk (fun h => ?_) (fun h => ?_)
    · have hj' : j < 16 := by have := of_decide_eq_true h; omega
      clear h
      have hw2 : IntKind.i64.wrap ((j : Int) + 1) = ((j + 1 : Nat) : Int) := by rw [wrap64 (by omega)]; rfl
      have hget := own_at p.own hj'
      have hw := wrapU8 (p.own j) (hp.own j hj')
      have ho := hp.own j hj'
      generalize b1 ++ ownsB p j = b2 at *
      have d2 := w_num_ok 0 b2 (by omega) (p.own j) 1 (okNum_of (by omega) (by omega))
      repeat' ((first | refine brP_t (by assumption) ?_ | refine brP_f (by assumption) ?_ | refine brP_t (decide_eq_true (by omega)) ?_ | refine brP_f (decide_eq_false (by omega)) ?_ | refine brP_t (nd_t (by omega)) ?_ | refine brP_f (nd_f (by omega)) ?_ | ((conv in (opS _ _ _ _) => whnf); rw [Int.toNat_natCast, hget]) | ((conv in (opM _ _ _ _ _) => whnf); (conv in (opS _ _ _ _) => whnf); rw [Int.toNat_natCast, hget]) | ((rw [hw])) | refine callK_r (EvR.fr [_, _] d2 rfl rfl ⟨rfl, rfl, trivial⟩ rfl) ?_ | refine callM_l (LEv.fr [_, _] d2 rfl rfl ⟨rfl, rfl, trivial⟩ rfl rfl) ?_ | refine callK_rt (EvR.fr [_, _] d2 rfl rfl ⟨rfl, rfl, trivial⟩ rfl) ?_ | refine callK_rf rfl (EvR.fr [_, _] d2 rfl rfl ⟨rfl, rfl, trivial⟩ rfl) ?_ | refine callK_rft rfl (EvR.fr [_, _] d2 rfl rfl ⟨rfl, rfl, trivial⟩ rfl) ?_ | refine wpfS_seq1 ?_ | refine wpfS_go ?_ | fail) <;> conv => whnf)
      rw [hw2]
      refine ⟨j + 1, hj', (show 16 - (j + 1) < 16 - j by omega), ⟨rfl, rfl, rfl, trivial⟩, ?_⟩
      show _ = (⟨[], [.row p.row, .mrow [.p (.int .i64 0), .os (.loc 2) (b1 ++ ownsB p (j + 1)).length], .arr 1 false (bytesOf (b1 ++ ownsB p (j + 1))), .row [.int .u16 p.live]]⟩ : Hp)
      rw [hst]
    · have hj' : j = 16 := by have := of_decide_eq_false h; omega
      subst hj'
      clear h hst
      generalize b1 ++ ownsB p 16 = b2 at *
      have d2 := w_done_ok b2 (by omega)
      conv => whnf
      repeat' ((first | refine brP_t (by assumption) ?_ | refine brP_f (by assumption) ?_ | refine brP_t (decide_eq_true (by omega)) ?_ | refine brP_f (decide_eq_false (by omega)) ?_ | refine brP_t (nd_t (by omega)) ?_ | refine brP_f (nd_f (by omega)) ?_ | refine callK_r (EvR.fr [_, _] d2 rfl rfl ⟨rfl, rfl, trivial⟩ rfl) ?_ | refine callM_l (LEv.fr [_, _] d2 rfl rfl ⟨rfl, rfl, trivial⟩ rfl rfl) ?_ | refine callK_rt (EvR.fr [_, _] d2 rfl rfl ⟨rfl, rfl, trivial⟩ rfl) ?_ | refine callK_rf rfl (EvR.fr [_, _] d2 rfl rfl ⟨rfl, rfl, trivial⟩ rfl) ?_ | refine callK_rft rfl (EvR.fr [_, _] d2 rfl rfl ⟨rfl, rfl, trivial⟩ rfl) ?_ | refine wpfS_seq1 ?_ | refine wpfS_go ?_ | fail) <;> conv => whnf)
      rfl
  · intro e H1 _ h
    exact h.elim
/-! ### The document's bytes -/
theorem R12_two_ok (s : Nat) (hs : s < 65536) : EvR PR G f_R12_two [uv s] ⟨[], []⟩ (.c (.ti (bytesOf (numB s 2)))) ⟨[], []⟩ := by
  refine EvR.of_wpf false false hm c_R12_two rfl ?_
  refine wpf_seq1 ?_
  conv => whnf
  repeat' ((first | refine brP_t (by assumption) ?_ | refine brP_f (by assumption) ?_ | refine brP_t (decide_eq_true (by omega)) ?_ | refine brP_f (decide_eq_false (by omega)) ?_ | refine brP_t (nd_t (by omega)) ?_ | refine brP_f (nd_f (by omega)) ?_ | refine wpfS_seq1 ?_ | refine wpfS_go ?_ | fail) <;> conv => whnf)
  have e1 : IntKind.u8.wrap (IntKind.u16.wrap ((s : Int).tdiv 256)) = (((UInt8.ofNat (s / 256 ^ 1)).toNat : Nat) : Int) := by
    rw [show (s : Int).tdiv 256 = ((s / 256 : Nat) : Int) from rfl, wrapN16 (by omega), wrap8 (by omega), UInt8.toNat_ofNat']
    omega
  have e2 : IntKind.u8.wrap ((s : Int).tmod 256) = (((UInt8.ofNat (s / 256 ^ 0)).toNat : Nat) : Int) := by
    rw [show (s : Int).tmod 256 = ((s % 256 : Nat) : Int) from rfl, wrap8 (by omega), UInt8.toNat_ofNat']
    omega
  refine ⟨?_, rfl⟩
  show AV.c (.ti [[.int .u8 (IntKind.u8.wrap (IntKind.u16.wrap ((s : Int).tdiv 256)))], [.int .u8 (IntKind.u8.wrap ((s : Int).tmod 256))]]) = _
  rw [e1, e2]
  rfl
theorem app_ok {n : Nat} {x y : List (List PV)} (hx : n = x.length) (hy : (y.all fun r => r.length == 1) = true) (hl : n + y.length ≤ 1000000) : (true && decide (n = x.length ∧ 1 = 1 ∧ (n + y.length) * 1 ≤ 2 ^ 47 ∧ n + y.length < 2 ^ 62) && y.all fun r => r.length == 1) = true := by
  rw [hy, decide_eq_true ⟨hx, rfl, by omega, by omega⟩]; rfl
theorem own_byte {n : Nat} (h : n ≤ 255) : bytesOf (numB n 1) = [[.int .u8 n]] := by
  have : (UInt8.ofNat (n / 256 ^ 0)).toNat = n := by rw [UInt8.toNat_ofNat']; omega
  show [[PV.int .u8 ((UInt8.ofNat (n / 256 ^ 0)).toNat : Nat)]] = _
  rw [this]
/-- The records of the roles below i. -/
def recsB (p : Pol) (i : Nat) : List UInt8 := ((List.range i).filter fun r => p.live.testBit r).flatMap (recB p)
theorem recs_yes (p : Pol) {i : Nat} (h : p.live.testBit i = true) : recsB p (i + 1) = recsB p i ++ numB (p.ls i) 2 ++ numB (p.li i) 2 ++ numB (p.acts i) 2 := by
  unfold recsB; rw [List.range_succ, List.filter_append, List.flatMap_append]
  simp [h, recB]
theorem recs_no (p : Pol) {i : Nat} (h : p.live.testBit i = false) : recsB p (i + 1) = recsB p i := by
  unfold recsB; rw [List.range_succ, List.filter_append, List.flatMap_append]
  simp [h]
theorem recsB_len (p : Pol) (i : Nat) : (recsB p i).length ≤ 6 * i := by
  unfold recsB
  rw [recs_len]
  have := List.length_filter_le (fun r => p.live.testBit r) (List.range i)
  rw [List.length_range] at this
  omega
set_option maxHeartbeats 1000000 in
theorem R12_Bytes_ok (p : Pol) (hp : p.Ok) : EvP PR G f_R12_Bytes [p.v] (slv (bytesOf (polB p))) := by
  have c0 := R12_two_ok p.live hp.live
  refine EvP.of_wpf false hm c_R12_Bytes rfl ?_
  refine wpf_seq1 ?_
  conv => whnf
  repeat' ((first | refine brP_t (by assumption) ?_ | refine brP_f (by assumption) ?_ | refine brP_t (decide_eq_true (by omega)) ?_ | refine brP_f (decide_eq_false (by omega)) ?_ | refine brP_t (nd_t (by omega)) ?_ | refine brP_f (nd_f (by omega)) ?_ | refine callK_r (EvR.fr [] c0 rfl rfl trivial rfl) ?_ | refine callM_l (LEv.fr [] c0 rfl rfl trivial rfl rfl) ?_ | refine callK_rt (EvR.fr [] c0 rfl rfl trivial rfl) ?_ | refine callK_rf rfl (EvR.fr [] c0 rfl rfl trivial rfl) ?_ | refine callK_rft rfl (EvR.fr [] c0 rfl rfl trivial rfl) ?_ | refine wpfS_seq1 ?_ | refine wpfS_go ?_ | fail) <;> conv => whnf)
  refine SemS.loopF false hm (σ := Nat × Bool) (fun q => match q with
      | (i, false) => [(1, .c (.ptr (.loc 0) 0)), (3, .c (.ti (bytesOf (numB p.live 2)))), (4, iv i)]
      | (i, true) => [(1, .c (.ptr (.loc 0) 0)), (3, .c (.os (.loc 1) (numB p.live 2 ++ recsB p i).length)), (4, iv i)])
    (fun q => match q with
      | (_, false) => ⟨[], [.row p.row]⟩
      | (i, true) => ⟨[], [.row p.row, .arr 1 false (bytesOf (numB p.live 2 ++ recsB p i))]⟩) (fun q => 16 - q.1)
    (fun q => q.1 ≤ 16 ∧ (q.2 = false → recsB p q.1 = [])) (0, false) ⟨Nat.zero_le _, fun _ => rfl⟩ ⟨rfl, rfl, rfl, trivial⟩ rfl ?_
  rintro ⟨i, b⟩ ⟨hi, hb⟩
  have hi : i ≤ 16 := hi
  have hy := recs_yes p (i := i)
  have hn := recs_no p (i := i)
  have hl := recsB_len p i
  cases b with
  | false =>
    have hb : recsB p i = [] := hb rfl
    rw [hb] at hy hn
    show wpf PR G false _ _ [(1, .c (.ptr (.loc 0) 0)), (3, .c (.ti (bytesOf (numB p.live 2)))), (4, iv i)] ⟨[], [.row p.row]⟩ _
    refine wpf_seq1 ?_
    conv => whnf
    try (refine wpfS_seq1 ?_; conv => whnf)
    refine brP_mk (fun h => ?_) (fun h => ?_)
    · have hi' : i < 16 := by have := of_decide_eq_true h; omega
      clear h
      have hw2 : IntKind.i64.wrap ((i : Int) + 1) = ((i + 1 : Nat) : Int) := by rw [wrap64 (by omega)]; rfl
      have e0 := R01_Has_ok p.live i hp.live
      rw [hasN_nat hi'] at e0
      cases h1 : p.live.testBit i with
      | true =>
        rw [h1] at e0
        have hy := hy h1
        have g1 := pol_ls p hi'
        have g2 := pol_li p hi'
        have g3 := pol_act p hi'
        have c1 := R12_two_ok (p.ls i) (hp.ls i hi')
        have c2 := R12_two_ok (p.li i) (hp.li i hi')
        have c3 := R12_two_ok (p.acts i) (hp.acts i hi')
        repeat' ((first | refine brP_t (by assumption) ?_ | refine brP_f (by assumption) ?_ | refine brP_t (decide_eq_true (by omega)) ?_ | refine brP_f (decide_eq_false (by omega)) ?_ | refine brP_t (nd_t (by omega)) ?_ | refine brP_f (nd_f (by omega)) ?_ | refine callK_p e0 ?_ | refine callM_p e0 rfl ?_ | refine callK_pf rfl e0 ?_ | ((conv in (opS _ _ _ _) => whnf); rw [Int.toNat_natCast, g1]) | ((conv in (opM _ _ _ _ _) => whnf); (conv in (opS _ _ _ _) => whnf); rw [Int.toNat_natCast, g1]) | ((conv in (opS _ _ _ _) => whnf); rw [Int.toNat_natCast, g2]) | ((conv in (opM _ _ _ _ _) => whnf); (conv in (opS _ _ _ _) => whnf); rw [Int.toNat_natCast, g2]) | ((conv in (opS _ _ _ _) => whnf); rw [Int.toNat_natCast, g3]) | ((conv in (opM _ _ _ _ _) => whnf); (conv in (opS _ _ _ _) => whnf); rw [Int.toNat_natCast, g3]) | refine callK_r (EvR.fr [] c1 rfl rfl trivial rfl) ?_ | refine callM_l (LEv.fr [] c1 rfl rfl trivial rfl rfl) ?_ | refine callK_rt (EvR.fr [] c1 rfl rfl trivial rfl) ?_ | refine callK_rf rfl (EvR.fr [] c1 rfl rfl trivial rfl) ?_ | refine callK_rft rfl (EvR.fr [] c1 rfl rfl trivial rfl) ?_ | refine callK_r (EvR.fr [] c2 rfl rfl trivial rfl) ?_ | refine callM_l (LEv.fr [] c2 rfl rfl trivial rfl rfl) ?_ | refine callK_rt (EvR.fr [] c2 rfl rfl trivial rfl) ?_ | refine callK_rf rfl (EvR.fr [] c2 rfl rfl trivial rfl) ?_ | refine callK_rft rfl (EvR.fr [] c2 rfl rfl trivial rfl) ?_ | refine callK_r (EvR.fr [] c3 rfl rfl trivial rfl) ?_ | refine callM_l (LEv.fr [] c3 rfl rfl trivial rfl rfl) ?_ | refine callK_rt (EvR.fr [] c3 rfl rfl trivial rfl) ?_ | refine callK_rf rfl (EvR.fr [] c3 rfl rfl trivial rfl) ?_ | refine callK_rft rfl (EvR.fr [] c3 rfl rfl trivial rfl) ?_ | refine wpfS_seq1 ?_ | refine wpfS_go ?_ | fail) <;> conv => whnf)
        rw [hw2]
        refine ⟨(i + 1, true), ⟨hi', fun h => by cases h⟩, (show 16 - (i + 1) < 16 - i by omega), ⟨rfl, ?_, rfl, trivial⟩, ?_⟩
        · show AV.c (.os (.loc 1) ((bytesOf (numB p.live 2)).length + (bytesOf (numB (p.ls i) 2)).length + (bytesOf (numB (p.li i) 2)).length + (bytesOf (numB (p.acts i) 2)).length)) = .c (.os (.loc 1) (numB p.live 2 ++ recsB p (i + 1)).length)
          rw [hy]
          simp only [bytesOf_len, numB_len, List.length_append, List.length_nil]
        · show (⟨[], [.row p.row, .arr 1 false (((bytesOf (numB p.live 2)) ++ bytesOf (numB (p.ls i) 2)) ++ bytesOf (numB (p.li i) 2) ++ bytesOf (numB (p.acts i) 2))]⟩ : Hp) = ⟨[], [.row p.row, .arr 1 false (bytesOf (numB p.live 2 ++ recsB p (i + 1)))]⟩
          rw [hy]
          simp only [bytesOf_app, List.append_assoc, List.nil_append]
      | false =>
        rw [h1] at e0
        have hn := hn h1
        repeat' ((first | refine brP_t (by assumption) ?_ | refine brP_f (by assumption) ?_ | refine brP_t (decide_eq_true (by omega)) ?_ | refine brP_f (decide_eq_false (by omega)) ?_ | refine brP_t (nd_t (by omega)) ?_ | refine brP_f (nd_f (by omega)) ?_ | refine callK_p e0 ?_ | refine callM_p e0 rfl ?_ | refine callK_pf rfl e0 ?_ | refine wpfS_seq1 ?_ | refine wpfS_go ?_ | fail) <;> conv => whnf)
        rw [hw2]
        exact ⟨(i + 1, false), ⟨hi', fun _ => hn⟩, (show 16 - (i + 1) < 16 - i by omega), ⟨rfl, rfl, rfl, trivial⟩, rfl⟩
    · have hi' : i = 16 := by have := of_decide_eq_false h; omega
      subst hi'
      clear h hy hn
      have hP : polB p = (numB p.live 2 ++ numB p.active 2) ++ ownsB p 16 := by
        have : (bitsN p.live).flatMap (recB p) = [] := hb
        unfold polB; rw [this, List.append_nil]
      rw [hP]
      have c1 := R12_two_ok p.active hp.active
      have hl2 : (numB p.live 2 ++ numB p.active 2).length ≤ 4 := by simp [numB_len]
      conv => whnf
      repeat' ((first | refine brP_t (by assumption) ?_ | refine brP_f (by assumption) ?_ | refine brP_t (decide_eq_true (by omega)) ?_ | refine brP_f (decide_eq_false (by omega)) ?_ | refine brP_t (nd_t (by omega)) ?_ | refine brP_f (nd_f (by omega)) ?_ | refine callK_r (EvR.fr [] c1 rfl rfl trivial rfl) ?_ | refine callM_l (LEv.fr [] c1 rfl rfl trivial rfl rfl) ?_ | refine callK_rt (EvR.fr [] c1 rfl rfl trivial rfl) ?_ | refine callK_rf rfl (EvR.fr [] c1 rfl rfl trivial rfl) ?_ | refine callK_rft rfl (EvR.fr [] c1 rfl rfl trivial rfl) ?_ | refine wpfS_seq1 ?_ | refine wpfS_go ?_ | fail) <;> conv => whnf)
      generalize hX : numB p.live 2 ++ numB p.active 2 = X at *
      refine SemS.loopF false hm (σ := Nat) (fun j => [(1, .c (.ptr (.loc 0) 0)), (3, .c (.os (.loc 1) (X ++ ownsB p j).length)), (5, iv j)]) (fun j => ⟨[], [.row p.row, .arr 1 false (bytesOf (X ++ ownsB p j))]⟩) (fun j => 16 - j) (fun j => j ≤ 16) 0 (Nat.zero_le _) ⟨rfl, ?_, rfl, trivial⟩ ?_ ?_
      · show AV.c (.os (.loc 1) ((bytesOf (numB p.live 2)).length + (bytesOf (numB p.active 2)).length)) = .c (.os (.loc 1) (X ++ []).length)
        rw [← hX]; simp only [List.length_append, bytesOf_len, List.append_nil]
      · show (⟨[], [.row p.row, .arr 1 false (bytesOf (numB p.live 2) ++ bytesOf (numB p.active 2))]⟩ : Hp) = ⟨[], [.row p.row, .arr 1 false (bytesOf (X ++ []))]⟩
        rw [← hX]; simp [bytesOf_app]
      intro j hj
      have hst : X ++ ownsB p (j + 1) = (X ++ ownsB p j) ++ numB (p.own j) 1 := by rw [owns_step, List.append_assoc]
      have hlo : (X ++ ownsB p j).length ≤ 200 := by rw [List.length_append, owns_len]; omega
      refine wpf_seq1 ?_
      conv => whnf
      try (refine wpfS_seq1 ?_; conv => whnf)
      refine brP_mk (fun h => ?_) (fun h => ?_)
      · have hj' : j < 16 := by have := of_decide_eq_true h; omega
        clear h
        have hw2 : IntKind.i64.wrap ((j : Int) + 1) = ((j + 1 : Nat) : Int) := by rw [wrap64 (by omega)]; rfl
        have hget := pol_own p hj'
        have ho := own_byte (hp.own j hj')
        repeat' ((first | refine brP_t (by assumption) ?_ | refine brP_f (by assumption) ?_ | refine brP_t (decide_eq_true (by omega)) ?_ | refine brP_f (decide_eq_false (by omega)) ?_ | refine brP_t (nd_t (by omega)) ?_ | refine brP_f (nd_f (by omega)) ?_ | ((conv in (opS _ _ _ _) => whnf); rw [Int.toNat_natCast, hget]) | ((conv in (opM _ _ _ _ _) => whnf); (conv in (opS _ _ _ _) => whnf); rw [Int.toNat_natCast, hget]) | (refine gd_mk ?_ ?_; focus (exact app_ok (by (try simp only [List.length_append, bytesOf_len]) <;> omega) rfl (by simp only [List.length_cons, List.length_nil]; omega); done)) | refine wpfS_seq1 ?_ | refine wpfS_go ?_ | fail) <;> conv => whnf)
        rw [hw2]
        refine ⟨j + 1, hj', (show 16 - (j + 1) < 16 - j by omega), ⟨rfl, ?_, rfl, trivial⟩, ?_⟩
        · show AV.c (.os (.loc 1) ((X ++ ownsB p j).length + 1)) = .c (.os (.loc 1) (X ++ ownsB p (j + 1)).length)
          rw [hst]; simp only [List.length_append, numB_len]
        · show (⟨[], [.row p.row, .arr 1 false (bytesOf (X ++ ownsB p j) ++ [[.int .u8 (p.own j)]])]⟩ : Hp) = ⟨[], [.row p.row, .arr 1 false (bytesOf (X ++ ownsB p (j + 1)))]⟩
          rw [hst, bytesOf_app (X ++ ownsB p j), ho]
      · have hj' : j = 16 := by have := of_decide_eq_false h; omega
        subst hj'
        clear h hst
        generalize X ++ ownsB p 16 = Y at *
        have hY := bytesOf_len Y
        conv => whnf
        repeat' ((first | refine brP_t (by assumption) ?_ | refine brP_f (by assumption) ?_ | refine brP_t (decide_eq_true (by omega)) ?_ | refine brP_f (decide_eq_false (by omega)) ?_ | refine brP_t (nd_t (by omega)) ?_ | refine brP_f (nd_f (by omega)) ?_ | (refine gd_mk ?_ ?_; focus (simp [hY]; done)) | refine wpfS_seq1 ?_ | refine wpfS_go ?_ | fail) <;> conv => whnf)
        rfl
  | true =>
    clear hb
    show wpf PR G false _ _ [(1, .c (.ptr (.loc 0) 0)), (3, .c (.os (.loc 1) (numB p.live 2 ++ recsB p i).length)), (4, iv i)] ⟨[], [.row p.row, .arr 1 false (bytesOf (numB p.live 2 ++ recsB p i))]⟩ _
    have hlen : (numB p.live 2 ++ recsB p i).length ≤ 100 := by rw [List.length_append, numB_len]; omega
    refine wpf_seq1 ?_
    conv => whnf
    try (refine wpfS_seq1 ?_; conv => whnf)
    refine brP_mk (fun h => ?_) (fun h => ?_)
    · have hi' : i < 16 := by have := of_decide_eq_true h; omega
      clear h
      have hw2 : IntKind.i64.wrap ((i : Int) + 1) = ((i + 1 : Nat) : Int) := by rw [wrap64 (by omega)]; rfl
      have e0 := R01_Has_ok p.live i hp.live
      rw [hasN_nat hi'] at e0
      cases h1 : p.live.testBit i with
      | true =>
        rw [h1] at e0
        have hy := hy h1
        have g1 := pol_ls p hi'
        have g2 := pol_li p hi'
        have g3 := pol_act p hi'
        have c1 := R12_two_ok (p.ls i) (hp.ls i hi')
        have c2 := R12_two_ok (p.li i) (hp.li i hi')
        have c3 := R12_two_ok (p.acts i) (hp.acts i hi')
        simp only [List.length_append, numB_len] at hlen
        repeat' ((first | refine brP_t (by assumption) ?_ | refine brP_f (by assumption) ?_ | refine brP_t (decide_eq_true (by omega)) ?_ | refine brP_f (decide_eq_false (by omega)) ?_ | refine brP_t (nd_t (by omega)) ?_ | refine brP_f (nd_f (by omega)) ?_ | refine callK_p e0 ?_ | refine callM_p e0 rfl ?_ | refine callK_pf rfl e0 ?_ | ((conv in (opS _ _ _ _) => whnf); rw [Int.toNat_natCast, g1]) | ((conv in (opM _ _ _ _ _) => whnf); (conv in (opS _ _ _ _) => whnf); rw [Int.toNat_natCast, g1]) | ((conv in (opS _ _ _ _) => whnf); rw [Int.toNat_natCast, g2]) | ((conv in (opM _ _ _ _ _) => whnf); (conv in (opS _ _ _ _) => whnf); rw [Int.toNat_natCast, g2]) | ((conv in (opS _ _ _ _) => whnf); rw [Int.toNat_natCast, g3]) | ((conv in (opM _ _ _ _ _) => whnf); (conv in (opS _ _ _ _) => whnf); rw [Int.toNat_natCast, g3]) | refine callK_r (EvR.fr [] c1 rfl rfl trivial rfl) ?_ | refine callM_l (LEv.fr [] c1 rfl rfl trivial rfl rfl) ?_ | refine callK_rt (EvR.fr [] c1 rfl rfl trivial rfl) ?_ | refine callK_rf rfl (EvR.fr [] c1 rfl rfl trivial rfl) ?_ | refine callK_rft rfl (EvR.fr [] c1 rfl rfl trivial rfl) ?_ | refine callK_r (EvR.fr [] c2 rfl rfl trivial rfl) ?_ | refine callM_l (LEv.fr [] c2 rfl rfl trivial rfl rfl) ?_ | refine callK_rt (EvR.fr [] c2 rfl rfl trivial rfl) ?_ | refine callK_rf rfl (EvR.fr [] c2 rfl rfl trivial rfl) ?_ | refine callK_rft rfl (EvR.fr [] c2 rfl rfl trivial rfl) ?_ | refine callK_r (EvR.fr [] c3 rfl rfl trivial rfl) ?_ | refine callM_l (LEv.fr [] c3 rfl rfl trivial rfl rfl) ?_ | refine callK_rt (EvR.fr [] c3 rfl rfl trivial rfl) ?_ | refine callK_rf rfl (EvR.fr [] c3 rfl rfl trivial rfl) ?_ | refine callK_rft rfl (EvR.fr [] c3 rfl rfl trivial rfl) ?_ | (refine gd_mk ?_ ?_; focus (exact app_ok (by (try simp only [List.length_append, bytesOf_len]) <;> omega) (bytesOf_all _) (by simp only [List.length_append, bytesOf_len, numB_len]; omega); done)) | refine wpfS_seq1 ?_ | refine wpfS_go ?_ | fail) <;> conv => whnf)
        rw [hw2]
        refine ⟨(i + 1, true), ⟨hi', fun h => by cases h⟩, (show 16 - (i + 1) < 16 - i by omega), ⟨rfl, ?_, rfl, trivial⟩, ?_⟩
        · show AV.c (.os (.loc 1) ((numB p.live 2 ++ recsB p i).length + (bytesOf (numB (p.ls i) 2)).length + (bytesOf (numB (p.li i) 2)).length + (bytesOf (numB (p.acts i) 2)).length)) = .c (.os (.loc 1) (numB p.live 2 ++ recsB p (i + 1)).length)
          rw [hy]
          simp only [bytesOf_len, numB_len, List.length_append]
          congr 2
        · show (⟨[], [.row p.row, .arr 1 false ((bytesOf (numB p.live 2 ++ recsB p i) ++ bytesOf (numB (p.ls i) 2)) ++ bytesOf (numB (p.li i) 2) ++ bytesOf (numB (p.acts i) 2))]⟩ : Hp) = ⟨[], [.row p.row, .arr 1 false (bytesOf (numB p.live 2 ++ recsB p (i + 1)))]⟩
          rw [hy]
          simp only [bytesOf_app, List.append_assoc]
      | false =>
        rw [h1] at e0
        have hn := hn h1
        repeat' ((first | refine brP_t (by assumption) ?_ | refine brP_f (by assumption) ?_ | refine brP_t (decide_eq_true (by omega)) ?_ | refine brP_f (decide_eq_false (by omega)) ?_ | refine brP_t (nd_t (by omega)) ?_ | refine brP_f (nd_f (by omega)) ?_ | refine callK_p e0 ?_ | refine callM_p e0 rfl ?_ | refine callK_pf rfl e0 ?_ | refine wpfS_seq1 ?_ | refine wpfS_go ?_ | fail) <;> conv => whnf)
        rw [hw2]
        refine ⟨(i + 1, true), ⟨hi', fun h => by cases h⟩, (show 16 - (i + 1) < 16 - i by omega), ⟨rfl, ?_, rfl, trivial⟩, ?_⟩
        · show AV.c (.os (.loc 1) (numB p.live 2 ++ recsB p i).length) = .c (.os (.loc 1) (numB p.live 2 ++ recsB p (i + 1)).length)
          rw [hn]
        · show (⟨[], [.row p.row, .arr 1 false (bytesOf (numB p.live 2 ++ recsB p i))]⟩ : Hp) = ⟨[], [.row p.row, .arr 1 false (bytesOf (numB p.live 2 ++ recsB p (i + 1)))]⟩
          rw [hn]
    · have hi' : i = 16 := by have := of_decide_eq_false h; omega
      subst hi'
      clear h hy hn
      have hP : polB p = (numB p.live 2 ++ recsB p 16 ++ numB p.active 2) ++ ownsB p 16 := rfl
      rw [hP]
      have c1 := R12_two_ok p.active hp.active
      have hl2 : (numB p.live 2 ++ recsB p 16 ++ numB p.active 2).length ≤ 150 := by simp only [List.length_append, numB_len]; omega
      simp only [List.length_append, numB_len] at hlen
      conv => whnf
      repeat' ((first | refine brP_t (by assumption) ?_ | refine brP_f (by assumption) ?_ | refine brP_t (decide_eq_true (by omega)) ?_ | refine brP_f (decide_eq_false (by omega)) ?_ | refine brP_t (nd_t (by omega)) ?_ | refine brP_f (nd_f (by omega)) ?_ | refine callK_r (EvR.fr [] c1 rfl rfl trivial rfl) ?_ | refine callM_l (LEv.fr [] c1 rfl rfl trivial rfl rfl) ?_ | refine callK_rt (EvR.fr [] c1 rfl rfl trivial rfl) ?_ | refine callK_rf rfl (EvR.fr [] c1 rfl rfl trivial rfl) ?_ | refine callK_rft rfl (EvR.fr [] c1 rfl rfl trivial rfl) ?_ | (refine gd_mk ?_ ?_; focus (exact app_ok (by (try simp only [List.length_append, bytesOf_len]) <;> omega) (bytesOf_all _) (by simp only [List.length_append, bytesOf_len, numB_len]; omega); done)) | refine wpfS_seq1 ?_ | refine wpfS_go ?_ | fail) <;> conv => whnf)
      generalize hX : numB p.live 2 ++ recsB p 16 ++ numB p.active 2 = X at *
      refine SemS.loopF false hm (σ := Nat) (fun j => [(1, .c (.ptr (.loc 0) 0)), (3, .c (.os (.loc 1) (X ++ ownsB p j).length)), (5, iv j)]) (fun j => ⟨[], [.row p.row, .arr 1 false (bytesOf (X ++ ownsB p j))]⟩) (fun j => 16 - j) (fun j => j ≤ 16) 0 (Nat.zero_le _) ⟨rfl, ?_, rfl, trivial⟩ ?_ ?_
      · show AV.c (.os (.loc 1) ((numB p.live 2 ++ recsB p 16).length + (bytesOf (numB p.active 2)).length)) = .c (.os (.loc 1) (X ++ []).length)
        rw [← hX]; simp only [List.length_append, bytesOf_len, List.append_nil]
      · show (⟨[], [.row p.row, .arr 1 false (bytesOf (numB p.live 2 ++ recsB p 16) ++ bytesOf (numB p.active 2))]⟩ : Hp) = ⟨[], [.row p.row, .arr 1 false (bytesOf (X ++ []))]⟩
        rw [← hX]; simp [bytesOf_app]
      intro j hj
      have hst : X ++ ownsB p (j + 1) = (X ++ ownsB p j) ++ numB (p.own j) 1 := by rw [owns_step, List.append_assoc]
      have hlo : (X ++ ownsB p j).length ≤ 200 := by rw [List.length_append, owns_len]; omega
      refine wpf_seq1 ?_
      conv => whnf
      try (refine wpfS_seq1 ?_; conv => whnf)
      refine brP_mk (fun h => ?_) (fun h => ?_)
      · have hj' : j < 16 := by have := of_decide_eq_true h; omega
        clear h
        have hw2 : IntKind.i64.wrap ((j : Int) + 1) = ((j + 1 : Nat) : Int) := by rw [wrap64 (by omega)]; rfl
        have hget := pol_own p hj'
        have ho := own_byte (hp.own j hj')
        repeat' ((first | refine brP_t (by assumption) ?_ | refine brP_f (by assumption) ?_ | refine brP_t (decide_eq_true (by omega)) ?_ | refine brP_f (decide_eq_false (by omega)) ?_ | refine brP_t (nd_t (by omega)) ?_ | refine brP_f (nd_f (by omega)) ?_ | ((conv in (opS _ _ _ _) => whnf); rw [Int.toNat_natCast, hget]) | ((conv in (opM _ _ _ _ _) => whnf); (conv in (opS _ _ _ _) => whnf); rw [Int.toNat_natCast, hget]) | (refine gd_mk ?_ ?_; focus (exact app_ok (by (try simp only [List.length_append, bytesOf_len]) <;> omega) rfl (by simp only [List.length_cons, List.length_nil]; omega); done)) | refine wpfS_seq1 ?_ | refine wpfS_go ?_ | fail) <;> conv => whnf)
        rw [hw2]
        refine ⟨j + 1, hj', (show 16 - (j + 1) < 16 - j by omega), ⟨rfl, ?_, rfl, trivial⟩, ?_⟩
        · show AV.c (.os (.loc 1) ((X ++ ownsB p j).length + 1)) = .c (.os (.loc 1) (X ++ ownsB p (j + 1)).length)
          rw [hst]; simp only [List.length_append, numB_len]
        · show (⟨[], [.row p.row, .arr 1 false (bytesOf (X ++ ownsB p j) ++ [[.int .u8 (p.own j)]])]⟩ : Hp) = ⟨[], [.row p.row, .arr 1 false (bytesOf (X ++ ownsB p (j + 1)))]⟩
          rw [hst, bytesOf_app (X ++ ownsB p j), ho]
      · have hj' : j = 16 := by have := of_decide_eq_false h; omega
        subst hj'
        clear h hst
        generalize X ++ ownsB p 16 = Y at *
        have hY := bytesOf_len Y
        conv => whnf
        repeat' ((first | refine brP_t (by assumption) ?_ | refine brP_f (by assumption) ?_ | refine brP_t (decide_eq_true (by omega)) ?_ | refine brP_f (decide_eq_false (by omega)) ?_ | refine brP_t (nd_t (by omega)) ?_ | refine brP_f (nd_f (by omega)) ?_ | (refine gd_mk ?_ ?_; focus (simp [hY]; done)) | refine wpfS_seq1 ?_ | refine wpfS_go ?_ | fail) <;> conv => whnf)
        rfl
end Go.Ab.S
