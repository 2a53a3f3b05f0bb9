/- Part of a proof; no condition. -/
import Derived.Test.YtbiaoocflpkmeaaDoorLaneTellsB
set_option linter.unusedSimpArgs false
set_option linter.unusedVariables false
namespace Go.Ab.S
open Go Go.Ab Go.Proofs
attribute [local irreducible] SemS
set_option maxRecDepth 100000
theorem e9 {p a : Int} (h : (p, a) ∈ anyL) : EvP Tryd.prog G 9 [cur p a] (curE (next p a)) := EvP.of_rEq R1_ok 10 rfl (List.all_eq_true.1 chk9 (p, a) h)
theorem e10 {p a : Int} (h : (p, a) ∈ anyL) : EvP Tryd.prog G 10 [cur p a] (curE (next p a)) := EvP.of_rEq R1_ok 10 rfl (List.all_eq_true.1 chk10 (p, a) h)
theorem e11 {p a : Int} (h : (p, a) ∈ anyL) : EvP Tryd.prog G 11 [cur p a] (curE (turn p a)) := EvP.of_rEq R1_ok 10 rfl (List.all_eq_true.1 chk11 (p, a) h)
theorem e12 {p a : Int} (h : (p, a) ∈ anyL) : EvP Tryd.prog G 12 [cur p a] (curE (turn p a)) := EvP.of_rEq R1_ok 10 rfl (List.all_eq_true.1 chk12 (p, a) h)
theorem e13 {p a : Int} (h : (p, a) ∈ anyL) : EvP Tryd.prog G 13 [cur p a] (iv (left p a)) := EvP.of_rEq R1_ok 10 rfl (List.all_eq_true.1 chk13 (p, a) h)
theorem e14 {p a : Int} (h : (p, a) ∈ anyL) : EvP Tryd.prog G 14 [cur p a] (iv (left p a)) := EvP.of_rEq R1_ok 10 rfl (List.all_eq_true.1 chk14 (p, a) h)
theorem e3 (p a n e k : Int) (h0 : 0 ≤ n) (h1 : n ≤ 255) : EvP Tryd.prog G 3 [cur p a, .c (.p (.int .u8 n)), .c (.p (.int .u16 e)), iv k] tt := by
  by_cases hc : (p, a) ∈ anyL
  · refine EvP.of_wpf true hm c3 rfl ?_
    refine wpf_seq1 ?_
    conv => whnf
    repeat' ((first | refine brP_t (by assumption) ?_ | refine brP_f (by assumption) ?_ | refine brP_mk (fun h => ?_) (fun h => ?_) | refine wpfS_seq1 ?_ | refine wpfS_go ?_ | refine callK_p (e6t hc) ?_ | refine callK_p (e7t hc) ?_ | refine callK_p (e9 hc) ?_ | refine callK_p (e10 hc) ?_ | refine callK_p (e11 hc) ?_ | refine callK_p (e12 hc) ?_ | refine callK_p (e13 hc) ?_ | refine callK_p (e14 hc) ?_ | refine callK_p e15 ?_ | refine callK_p e16 ?_ | refine callK_p e23 ?_ | refine callK_p (e17 _ _ _) ?_ | refine callK_p (e18 hc _) ?_ | refine callK_p (e19 _ _ _) ?_ | refine callK_p (e20 _ _ _) ?_ | refine callK_p (e21 _ _ _ _) ?_ | refine callK_p (e22 hc _ _) ?_) <;> conv => whnf)
    all_goals first
      | rfl
      | (simp at h)
  · obtain ⟨p', a', hd, h8⟩ := e8 n h0 h1
    refine EvP.of_wpf true hm c3 rfl ?_
    refine wpf_seq1 ?_
    conv => whnf
    repeat' ((first | refine brP_t (by assumption) ?_ | refine brP_f (by assumption) ?_ | refine brP_mk (fun h => ?_) (fun h => ?_) | refine wpfS_seq1 ?_ | refine wpfS_go ?_ | refine callK_p (e6f hc) ?_ | refine callK_p (e7f hc) ?_ | refine callK_p h8 ?_ | refine callK_p (e9 hd) ?_ | refine callK_p (e10 hd) ?_ | refine callK_p (e11 hd) ?_ | refine callK_p (e12 hd) ?_ | refine callK_p (e13 hd) ?_ | refine callK_p (e14 hd) ?_ | refine callK_p e15 ?_ | refine callK_p e16 ?_ | refine callK_p e23 ?_ | refine callK_p (e17 _ _ _) ?_ | refine callK_p (e18 hd _) ?_ | refine callK_p (e19 _ _ _) ?_ | refine callK_p (e20 _ _ _) ?_ | refine callK_p (e21 _ _ _ _) ?_ | refine callK_p (e22 hd _ _) ?_) <;> conv => whnf)
    all_goals first
      | rfl
      | (simp at h)
theorem law3 (pvss : List (List PV)) (hw : wts [(.st (.cons 1 (.int .i64) (.cons 1 (.int .i64) .nil))), (.int .u8), (.int .u16), (.int .i64)] pvss) : EvP Tryd.prog G 3 (argAVs [(.st (.cons 1 (.int .i64) (.cons 1 (.int .i64) .nil))), (.int .u8), (.int .u16), (.int .i64)] pvss) tt := by
  obtain ⟨c, _, rfl, hc, hw⟩ := wts_cons hw
  obtain ⟨n, _, rfl, hn, hw⟩ := wts_cons hw
  obtain ⟨e, _, rfl, he, hw⟩ := wts_cons hw
  obtain ⟨k, _, rfl, hk, hw⟩ := wts_cons hw
  cases wts_nil hw
  obtain ⟨a, b, rfl, -, ⟨p, rfl, -⟩, ⟨b', c', rfl, -, ⟨q, rfl, -⟩, rfl⟩⟩ := hc
  obtain ⟨n, rfl, h0, h1⟩ := hn
  obtain ⟨e, rfl, -⟩ := he
  obtain ⟨k, rfl, -⟩ := hk
  exact e3 p q n e k (by simpa [IntKind.min, IntKind.signed] using h0) (by simpa [IntKind.max, IntKind.signed, IntKind.bits] using h1)
end Go.Ab.S
