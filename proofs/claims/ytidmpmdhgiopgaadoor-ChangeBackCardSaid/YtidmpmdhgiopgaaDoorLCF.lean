/- An update's bytes. No condition. An update's bytes, by the document. No condition. -/
import Derived.Test.YtidmpmdhgiopgaaDoorLCD
set_option linter.unusedSimpArgs false
set_option linter.unusedVariables false
namespace Go.Ab.S
open Go Go.Ab Go.Proofs
attribute [local irreducible] SemS
set_option maxRecDepth 100000
def chB (c : Chg) : List UInt8 := numB c.k.toNat 1 ++ numB c.a.toNat 1 ++ numB c.b.toNat 1 ++ numB c.s 2 ++ numB c.i 2
def chsB (n : Nat) (l : List Chg) : List UInt8 := numB n 1 ++ l.flatMap chB
def bytesC (l : List Chg) : List UInt8 := chsB l.length l
theorem chB_len (c : Chg) : (chB c).length = 7 := by simp [chB, numB_len]
theorem chsB_len (n : Nat) : ∀ l : List Chg, (chsB n l).length = 1 + 7 * l.length := by
  intro l
  unfold chsB
  rw [List.length_append, numB_len]
  congr 1
  induction l with
  | nil => rfl
  | cons c l ih => rw [List.flatMap_cons, List.length_append, chB_len, ih, List.length_cons]; omega
theorem chsB_take (n : Nat) {l : List Chg} {i : Nat} (h : i < l.length) : chsB n (l.take (i + 1)) = chsB n (l.take i) ++ chB l[i] := by
  unfold chsB
  rw [List.take_succ_eq_append_getElem h, List.flatMap_append]
  simp
set_option maxHeartbeats 8000000 in
theorem change_Bytes_ok (l : List Chg) (hl : l.length ≤ 6) (hf : ∀ c ∈ l, c.fine = true) (hc : ∀ c ∈ l, c.s < 65536 ∧ c.i < 65536) : EvP PR G f_change_Bytes [slv (chgs l)] (slv (bytesOf (bytesC l))) := by
  have hlen := chgs_len (l := l)
  have c0 := fresh_w (w_num_ok 0 [] (by simp) l.length 1 (okNum_of (by omega) (by omega))) rfl rfl rfl
  refine EvP.of_wpf false hm c_change_Bytes rfl ?_
  refine wpf_seq1 ?_
  conv => whnf
  repeat' ((first | refine brP_t (by assumption) ?_ | refine brP_f (by assumption) ?_ | refine brP_t (decide_eq_true (by omega)) ?_ | refine brP_f (decide_eq_false (by omega)) ?_ | refine brP_t (nd_t (by omega)) ?_ | refine brP_f (nd_f (by omega)) ?_ | ((rw [hlen])) | refine callK_r (EvR.fr [_] c0 rfl rfl ⟨rfl, trivial⟩ rfl) ?_ | refine callM_l (LEv.fr [_] c0 rfl rfl ⟨rfl, trivial⟩ rfl rfl) ?_ | refine callK_rt (EvR.fr [_] c0 rfl rfl ⟨rfl, trivial⟩ rfl) ?_ | refine callK_rf rfl (EvR.fr [_] c0 rfl rfl ⟨rfl, trivial⟩ rfl) ?_ | refine callK_rft rfl (EvR.fr [_] c0 rfl rfl ⟨rfl, trivial⟩ rfl) ?_ | refine wpfS_seq1 ?_ | refine wpfS_go ?_ | fail) <;> conv => whnf)
  refine SemS.loopC false hm (σ := Nat) (fun i => [(15, iv i), (14, iv l.length), (13, slv (chgs l)), (3, .c (.ptr (.loc 0) 0))]) (fun i => ⟨[], [.mrow [.p (.int .i64 0), .os (.loc 1) (chsB l.length (l.take i)).length], .arr 1 false (bytesOf (chsB l.length (l.take i)))]⟩) (fun i => l.length - i) (fun i => i ≤ l.length) 0 (Nat.zero_le _) ⟨rfl, rfl, rfl, rfl, trivial⟩ ?_ ?_
  · show _ = (⟨[], [.mrow [.p (.int .i64 0), .os (.loc 1) (numB l.length 1 ++ []).length], .arr 1 false (bytesOf (numB l.length 1 ++ []))]⟩ : Hp)
    rw [List.append_nil]
    rfl
  intro i hi
  have hbl := chsB_len l.length (l.take i)
  refine wpf_seq1 ?_
  conv => whnf
  try (refine wpfS_seq1 ?_; conv => whnf)
  refine brP_mk (fun h => ?_) (fun h => ?_)
  · have hi' : i < l.length := by have := of_decide_eq_true h; omega
    clear h
    have hget := chgs_get hi'
    have hw2 : IntKind.i64.wrap ((i : Int) + 1) = ((i + 1 : Nat) : Int) := by rw [wrap64 (by omega)]; rfl
    have hst := chsB_take l.length hi'
    obtain ⟨h1, h2⟩ := hc _ (List.getElem_mem hi')
    obtain ⟨hk, ha, hb0, hb⟩ := Chg.fine_iff (hf _ (List.getElem_mem hi'))
    generalize hcc : l[i] = c at *
    obtain ⟨k, a, b, s, i0⟩ := c
    dsimp only at h1 h2 hk ha hb0 hb
    have hb16 : b ≤ 16 := Int.le_trans hb (by unfold mostB; split <;> (try split) <;> (try split) <;> omega)
    obtain ⟨k, rfl⟩ := Int.eq_ofNat_of_zero_le (show 0 ≤ k by omega)
    obtain ⟨a, rfl⟩ := Int.eq_ofNat_of_zero_le ha.1
    obtain ⟨b, rfl⟩ := Int.eq_ofNat_of_zero_le hb0
    rw [chgrow] at hget
    have hst : chsB l.length (l.take (i + 1)) = ((((chsB l.length (l.take i) ++ numB k 1) ++ numB a 1) ++ numB b 1) ++ numB s 2) ++ numB i0 2 := by
      rw [hst]; simp [chB, List.append_assoc]
    have hws : IntKind.i64.wrap (s : Int) = s := wrap64 (by omega)
    have hwi : IntKind.i64.wrap (i0 : Int) = i0 := wrap64 (by omega)
    rw [List.length_take] at hbl
    have n0 : (chsB l.length (l.take i)).length ≤ 100 := by omega
    generalize hB0 : chsB l.length (l.take i) = B0 at *
    have w1 := w_num_ok 0 B0 (by omega) k 1 (okNum_of (by omega) (by omega))
    have n1 : (B0 ++ numB k 1).length ≤ 101 := by rw [List.length_append, numB_len]; omega
    generalize B0 ++ numB k 1 = B1 at *
    have w2 := w_num_ok 0 B1 (by omega) a 1 (okNum_of (by omega) (by omega))
    have n2 : (B1 ++ numB a 1).length ≤ 102 := by rw [List.length_append, numB_len]; omega
    generalize B1 ++ numB a 1 = B2 at *
    have w3 := w_num_ok 0 B2 (by omega) b 1 (okNum_of (by omega) (by omega))
    have n3 : (B2 ++ numB b 1).length ≤ 103 := by rw [List.length_append, numB_len]; omega
    generalize B2 ++ numB b 1 = B3 at *
    have w4 := w_num_ok 0 B3 (by omega) s 2 (okNum_of (by omega) (by omega))
    have n4 : (B3 ++ numB s 2).length ≤ 105 := by rw [List.length_append, numB_len]; omega
    generalize B3 ++ numB s 2 = B4 at *
    have w5 := w_num_ok 0 B4 (by omega) i0 2 (okNum_of (by omega) (by omega))
    generalize hB5 : B4 ++ numB i0 2 = B5 at *
    clear hB0 hB5 hcc hc hf
    repeat' ((first | refine brP_t (by assumption) ?_ | refine brP_f (by assumption) ?_ | refine brP_t (decide_eq_true (by omega)) ?_ | refine brP_f (decide_eq_false (by omega)) ?_ | refine brP_t (nd_t (by omega)) ?_ | refine brP_f (nd_f (by omega)) ?_ | ((rw [hw2])) | ((rw [hws])) | ((rw [hwi])) | refine SemS.loop1 false hm ?_ | refine wpfS_seq1 ?_ | refine wpfS_go ?_ | fail) <;> conv => whnf)
    (first | ((conv in (opS _ _ _ _) => whnf); rw [Int.toNat_natCast, hget]) | ((conv in (opM _ _ _ _ _) => whnf); (conv in (opS _ _ _ _) => whnf); rw [Int.toNat_natCast, hget]))
    conv => whnf
    repeat' ((first | refine brP_t (by assumption) ?_ | refine brP_f (by assumption) ?_ | refine brP_t (decide_eq_true (by omega)) ?_ | refine brP_f (decide_eq_false (by omega)) ?_ | refine brP_t (nd_t (by omega)) ?_ | refine brP_f (nd_f (by omega)) ?_ | ((rw [hw2])) | ((rw [hws])) | ((rw [hwi])) | refine SemS.loop1 false hm ?_ | refine wpfS_seq1 ?_ | refine wpfS_go ?_ | fail) <;> conv => whnf)
    (first | refine callK_r (EvR.fr [_, _] w1 rfl rfl ⟨rfl, rfl, trivial⟩ rfl) ?_ | refine callM_l (LEv.fr [_, _] w1 rfl rfl ⟨rfl, rfl, trivial⟩ rfl rfl) ?_ | refine callK_rt (EvR.fr [_, _] w1 rfl rfl ⟨rfl, rfl, trivial⟩ rfl) ?_ | refine callK_rf rfl (EvR.fr [_, _] w1 rfl rfl ⟨rfl, rfl, trivial⟩ rfl) ?_ | refine callK_rft rfl (EvR.fr [_, _] w1 rfl rfl ⟨rfl, rfl, trivial⟩ rfl) ?_)
    conv => whnf
    repeat' ((first | refine brP_t (by assumption) ?_ | refine brP_f (by assumption) ?_ | refine brP_t (decide_eq_true (by omega)) ?_ | refine brP_f (decide_eq_false (by omega)) ?_ | refine brP_t (nd_t (by omega)) ?_ | refine brP_f (nd_f (by omega)) ?_ | ((rw [hw2])) | ((rw [hws])) | ((rw [hwi])) | refine SemS.loop1 false hm ?_ | refine wpfS_seq1 ?_ | refine wpfS_go ?_ | fail) <;> conv => whnf)
    (first | refine callK_r (EvR.fr [_, _] w2 rfl rfl ⟨rfl, rfl, trivial⟩ rfl) ?_ | refine callM_l (LEv.fr [_, _] w2 rfl rfl ⟨rfl, rfl, trivial⟩ rfl rfl) ?_ | refine callK_rt (EvR.fr [_, _] w2 rfl rfl ⟨rfl, rfl, trivial⟩ rfl) ?_ | refine callK_rf rfl (EvR.fr [_, _] w2 rfl rfl ⟨rfl, rfl, trivial⟩ rfl) ?_ | refine callK_rft rfl (EvR.fr [_, _] w2 rfl rfl ⟨rfl, rfl, trivial⟩ rfl) ?_)
    conv => whnf
    repeat' ((first | refine brP_t (by assumption) ?_ | refine brP_f (by assumption) ?_ | refine brP_t (decide_eq_true (by omega)) ?_ | refine brP_f (decide_eq_false (by omega)) ?_ | refine brP_t (nd_t (by omega)) ?_ | refine brP_f (nd_f (by omega)) ?_ | ((rw [hw2])) | ((rw [hws])) | ((rw [hwi])) | refine SemS.loop1 false hm ?_ | refine wpfS_seq1 ?_ | refine wpfS_go ?_ | fail) <;> conv => whnf)
    (first | refine callK_r (EvR.fr [_, _] w3 rfl rfl ⟨rfl, rfl, trivial⟩ rfl) ?_ | refine callM_l (LEv.fr [_, _] w3 rfl rfl ⟨rfl, rfl, trivial⟩ rfl rfl) ?_ | refine callK_rt (EvR.fr [_, _] w3 rfl rfl ⟨rfl, rfl, trivial⟩ rfl) ?_ | refine callK_rf rfl (EvR.fr [_, _] w3 rfl rfl ⟨rfl, rfl, trivial⟩ rfl) ?_ | refine callK_rft rfl (EvR.fr [_, _] w3 rfl rfl ⟨rfl, rfl, trivial⟩ rfl) ?_)
    conv => whnf
    repeat' ((first | refine brP_t (by assumption) ?_ | refine brP_f (by assumption) ?_ | refine brP_t (decide_eq_true (by omega)) ?_ | refine brP_f (decide_eq_false (by omega)) ?_ | refine brP_t (nd_t (by omega)) ?_ | refine brP_f (nd_f (by omega)) ?_ | ((rw [hw2])) | ((rw [hws])) | ((rw [hwi])) | refine SemS.loop1 false hm ?_ | refine wpfS_seq1 ?_ | refine wpfS_go ?_ | fail) <;> conv => whnf)
    (first | refine callK_r (EvR.fr [_, _] w4 rfl rfl ⟨rfl, rfl, trivial⟩ rfl) ?_ | refine callM_l (LEv.fr [_, _] w4 rfl rfl ⟨rfl, rfl, trivial⟩ rfl rfl) ?_ | refine callK_rt (EvR.fr [_, _] w4 rfl rfl ⟨rfl, rfl, trivial⟩ rfl) ?_ | refine callK_rf rfl (EvR.fr [_, _] w4 rfl rfl ⟨rfl, rfl, trivial⟩ rfl) ?_ | refine callK_rft rfl (EvR.fr [_, _] w4 rfl rfl ⟨rfl, rfl, trivial⟩ rfl) ?_)
    conv => whnf
    repeat' ((first | refine brP_t (by assumption) ?_ | refine brP_f (by assumption) ?_ | refine brP_t (decide_eq_true (by omega)) ?_ | refine brP_f (decide_eq_false (by omega)) ?_ | refine brP_t (nd_t (by omega)) ?_ | refine brP_f (nd_f (by omega)) ?_ | ((rw [hw2])) | ((rw [hws])) | ((rw [hwi])) | refine SemS.loop1 false hm ?_ | refine wpfS_seq1 ?_ | refine wpfS_go ?_ | fail) <;> conv => whnf)
    (first | refine callK_r (EvR.fr [_, _] w5 rfl rfl ⟨rfl, rfl, trivial⟩ rfl) ?_ | refine callM_l (LEv.fr [_, _] w5 rfl rfl ⟨rfl, rfl, trivial⟩ rfl rfl) ?_ | refine callK_rt (EvR.fr [_, _] w5 rfl rfl ⟨rfl, rfl, trivial⟩ rfl) ?_ | refine callK_rf rfl (EvR.fr [_, _] w5 rfl rfl ⟨rfl, rfl, trivial⟩ rfl) ?_ | refine callK_rft rfl (EvR.fr [_, _] w5 rfl rfl ⟨rfl, rfl, trivial⟩ rfl) ?_)
    conv => whnf
    repeat' ((first | refine brP_t (by assumption) ?_ | refine brP_f (by assumption) ?_ | refine brP_t (decide_eq_true (by omega)) ?_ | refine brP_f (decide_eq_false (by omega)) ?_ | refine brP_t (nd_t (by omega)) ?_ | refine brP_f (nd_f (by omega)) ?_ | ((rw [hw2])) | ((rw [hws])) | ((rw [hwi])) | refine SemS.loop1 false hm ?_ | refine wpfS_seq1 ?_ | refine wpfS_go ?_ | fail) <;> conv => whnf)
    refine ⟨i + 1, 2, hi', (show l.length - (i + 1) < l.length - i by omega), ⟨rfl, rfl, rfl, rfl, trivial⟩, Nat.le_refl _, ?_, rfl, rfl⟩
    show _ = (⟨[], [.mrow [.p (.int .i64 0), .os (.loc 1) (chsB l.length (l.take (i + 1))).length], .arr 1 false (bytesOf (chsB l.length (l.take (i + 1))))]⟩ : Hp)
    rw [hst]
    rfl
  · have hi' : i = l.length := by have := of_decide_eq_false h; omega
    subst hi'
    clear h
    rw [List.take_length] at hbl ⊢
    have hbb : bytesC l = chsB l.length l := rfl
    rw [hbb]
    generalize chsB l.length l = B0 at *
    have d2 := w_done_ok B0 (by omega)
    repeat' ((first | refine brP_t (by assumption) ?_ | refine brP_f (by assumption) ?_ | refine brP_t (decide_eq_true (by omega)) ?_ | refine brP_f (decide_eq_false (by omega)) ?_ | refine brP_t (nd_t (by omega)) ?_ | refine brP_f (nd_f (by omega)) ?_ | refine callK_r (EvR.fr [_, _] d2 rfl rfl ⟨rfl, rfl, trivial⟩ rfl) ?_ | refine callM_l (LEv.fr [_, _] d2 rfl rfl ⟨rfl, rfl, trivial⟩ rfl rfl) ?_ | refine callK_rt (EvR.fr [_, _] d2 rfl rfl ⟨rfl, rfl, trivial⟩ rfl) ?_ | refine callK_rf rfl (EvR.fr [_, _] d2 rfl rfl ⟨rfl, rfl, trivial⟩ rfl) ?_ | refine callK_rft rfl (EvR.fr [_, _] d2 rfl rfl ⟨rfl, rfl, trivial⟩ rfl) ?_ | refine wpfS_seq1 ?_ | refine wpfS_go ?_ | fail) <;> conv => whnf)
    rfl
end Go.Ab.S

namespace Go.Ab.S
open Go Go.Ab Go.Proofs
attribute [local irreducible] SemS
set_option maxRecDepth 100000
def chR (k a b s i : Nat) : List (List PV) := [[.int .u8 (IntKind.u8.wrap (k : Int))], [.int .u8 (IntKind.u8.wrap (a : Int))], [.int .u8 (IntKind.u8.wrap (b : Int))], [.int .u8 (IntKind.u8.wrap (IntKind.u16.wrap ((s : Int).tdiv 256)))], [.int .u8 (IntKind.u8.wrap ((s : Int).tmod 256))], [.int .u8 (IntKind.u8.wrap (IntKind.u16.wrap ((i : Int).tdiv 256)))], [.int .u8 (IntKind.u8.wrap ((i : Int).tmod 256))]]
end Go.Ab.S
