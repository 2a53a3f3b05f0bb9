/- Part of a proof; no condition. -/
import Derived.Test.YtbiaoocflpkmeaaDoorLaneStepsLaw
set_option linter.unusedSimpArgs false
set_option linter.unusedVariables false
namespace Go.Ab.S
open Go Go.Ab Go.Proofs
attribute [local irreducible] SemS
set_option maxRecDepth 100000
def iv (n : Int) : AV := .c (.p (.int .i64 n))
def bv (b : Bool) : AV := .c (.p (.bool b))
theorem wrap64 {n : Int} (h : -9223372036854775808 ≤ n ∧ n < 9223372036854775808) : IntKind.i64.wrap n = n := by
  simp [IntKind.wrap, IntKind.signed, IntKind.bits]; omega
theorem e24 (l : List (Int × Int)) (p a : Int) (hc : (p, a) ∉ l) (hl : l.length < 1000) : EvP Tryd.prog G 24 [slL l, cur p a] (iv (-1)) := by
  refine EvP.of_wpf true hm c24 rfl ?_
  refine wpf_seq1 ?_
  conv => whnf
  refine wpfS_seq1 ?_
  conv => whnf
  refine SemS.loopF true hm (σ := Nat) (fun i => [(0, slL l), (3, .c (.ptr (.loc 0) 0)), (4, iv 0), (5, iv i)]) (fun _ => ⟨[], [.row [.int .i64 p, .int .i64 a]]⟩) (fun i => l.length - i) (fun i => i ≤ l.length) 0 (Nat.zero_le _) ⟨rfl, rfl, rfl, rfl, trivial⟩ rfl ?_
  intro i hi
  have hll : (rows l).length = l.length := by simp [rows]
  conv => whnf
  refine brP_mk (fun h => ?_) (fun h => ?_)
  · have h' : i < l.length := by rw [hll] at h; simpa using h
    conv => whnf
    conv in (opS _ _ _ _) => whnf
    have hg : (rows l)[(i : Int).toNat]? = some [.int .i64 l[i].1, .int .i64 l[i].2] := by
      rw [Int.toNat_natCast, rows, List.getElem?_map, List.getElem?_eq_getElem h']; rfl
    rw [hg]
    conv => whnf
    refine brP_f ?_ ?_
    · have : l[i] ≠ (p, a) := fun e => hc (e ▸ List.getElem_mem h')
      simpa [Prod.ext_iff] using this
    conv => whnf
    refine ⟨i + 1, by omega, (show l.length - (i + 1) < l.length - i by omega), ?_, rfl⟩
    refine ⟨rfl, rfl, rfl, ?_, trivial⟩
    show AV.c (.p (.int .i64 (IntKind.i64.wrap (i + 1)))) = _
    rw [wrap64 (by omega)]; rfl
  · conv => whnf
    refine wpfS_go ?_
    conv => whnf
    rfl

def many (p a : Int) : Int := if p = 2 ∨ p = 3 then 12 else if p = 1 ∨ p = 4 then a else 0
theorem e26 (p a : Int) : EvP Tryd.prog G 26 [cur p a] (iv (many p a)) := by
  refine EvP.of_wpf true hm c26 rfl ?_
  conv => whnf
  repeat' ((first | refine brP_t (by assumption) ?_ | refine brP_f (by assumption) ?_ | refine brP_mk (fun h => ?_) (fun h => ?_)) <;> conv => whnf)
  all_goals simp_all [many, finV, iv]
theorem e27 (p a : Int) : EvP Tryd.prog G 27 [cur p a] (iv (if p = 0 then 0 else if p = 2 ∨ p = 3 then 12 else a)) := by
  refine EvP.of_wpf true hm c27 rfl ?_
  conv => whnf
  repeat' ((first | refine brP_t (by assumption) ?_ | refine brP_f (by assumption) ?_ | refine brP_mk (fun h => ?_) (fun h => ?_)) <;> conv => whnf)
  all_goals simp_all [finV, iv]
theorem manyEq {p a : Int} (h : (p, a) ∈ anyL) : (if p = 0 then 0 else if p = 2 ∨ p = 3 then 12 else a) = many p a := by
  simp only [anyL, allL, backL, List.cons_append, List.nil_append, List.mem_cons, Prod.mk.injEq, List.not_mem_nil, or_false] at h
  rcases h with ⟨rfl, rfl⟩ | h
  · rfl
  repeat (rcases h with ⟨rfl, rfl⟩ | h; · rfl)
theorem e27' {p a : Int} (h : (p, a) ∈ anyL) : EvP Tryd.prog G 27 [cur p a] (iv (many p a)) := manyEq h ▸ e27 p a
def sweptB (p a k : Int) : Bool := decide (0 ≤ k) && decide (k < many p a)
theorem e17 (p a k : Int) : EvP Tryd.prog G 17 [cur p a, iv k] (bv (sweptB p a k)) := by
  refine EvP.of_wpf true hm c17 rfl ?_
  conv => whnf
  repeat' ((first | refine brP_t (by assumption) ?_ | refine brP_f (by assumption) ?_ | refine brP_mk (fun h => ?_) (fun h => ?_) | refine callK_p (e26 _ _) ?_) <;> conv => whnf)
  all_goals simp_all [sweptB, finV, bv]
  all_goals omega
theorem e18 {p a : Int} (hpa : (p, a) ∈ anyL) (k : Int) : EvP Tryd.prog G 18 [cur p a, iv k] (bv (sweptB p a k)) := by
  refine EvP.of_wpf true hm c18 rfl ?_
  conv => whnf
  repeat' ((first | refine brP_t (by assumption) ?_ | refine brP_f (by assumption) ?_ | refine brP_mk (fun h => ?_) (fun h => ?_) | refine callK_p (e27' hpa) ?_) <;> conv => whnf)
  all_goals simp_all [sweptB, finV, bv]
  all_goals omega
def looseB (p a k : Int) : Bool := decide (0 ≤ k) && decide (k < 4) && (decide (p = 3) || decide (p = 2) && decide (k < a))
theorem e19 (p a k : Int) : EvP Tryd.prog G 19 [cur p a, iv k] (bv (looseB p a k)) := by
  refine EvP.of_wpf true hm c19 rfl ?_
  conv => whnf
  repeat' ((first | refine brP_t (by assumption) ?_ | refine brP_f (by assumption) ?_ | refine brP_mk (fun h => ?_) (fun h => ?_)) <;> conv => whnf)
  all_goals simp_all [looseB, finV, bv]
  all_goals omega
theorem e20 (p a k : Int) : EvP Tryd.prog G 20 [cur p a, iv k] (bv (looseB p a k)) := by
  refine EvP.of_wpf true hm c20 rfl ?_
  conv => whnf
  repeat' ((first | refine brP_t (by assumption) ?_ | refine brP_f (by assumption) ?_ | refine brP_mk (fun h => ?_) (fun h => ?_)) <;> conv => whnf)
  all_goals simp_all [looseB, finV, bv]
  all_goals omega
def stampV (p a e k : Int) : Int := if sweptB p a k = true then IntKind.i64.wrap (e + 1) else e
theorem e21 (p a e k : Int) : EvP Tryd.prog G 21 [cur p a, iv e, iv k] (iv (stampV p a e k)) := by
  refine EvP.of_wpf true hm c21 rfl ?_
  conv => whnf
  repeat' ((first | refine brP_t (by assumption) ?_ | refine brP_f (by assumption) ?_ | refine brP_mk (fun h => ?_) (fun h => ?_) | refine callK_p (e17 _ _ _) ?_) <;> conv => whnf)
  all_goals simp_all [stampV, finV, iv]
theorem e22 {p a : Int} (hpa : (p, a) ∈ anyL) (e k : Int) : EvP Tryd.prog G 22 [cur p a, iv e, iv k] (iv (stampV p a e k)) := by
  refine EvP.of_wpf true hm c22 rfl ?_
  conv => whnf
  repeat' ((first | refine brP_t (by assumption) ?_ | refine brP_f (by assumption) ?_ | refine brP_mk (fun h => ?_) (fun h => ?_) | refine callK_p (e18 hpa _) ?_) <;> conv => whnf)
  all_goals simp_all [stampV, finV, iv]
end Go.Ab.S
