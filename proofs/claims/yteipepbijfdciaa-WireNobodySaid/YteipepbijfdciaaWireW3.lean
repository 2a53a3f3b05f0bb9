/- Part of a proof; no condition. -/
import Derived.Test.YteipepbijfdciaaWireW2
set_option linter.unusedSimpArgs false
set_option linter.unusedVariables false
namespace Go.Ab.S
open Go Go.Ab Go.Proofs
attribute [local irreducible] SemS
set_option maxRecDepth 100000
structure Part where
  t : Bool
  n : Int
  size : Int
  most : Int
  s : List UInt8
def prt (p : Part) : List PV := [.bool p.t, .int .i64 p.n, .int .i64 p.size, .int .i64 p.most, .str p.s]
def prts (l : List Part) : List (List PV) := l.map prt
theorem prts_get {l : List Part} {i : Nat} (h : i < l.length) : (prts l)[i]? = some (prt l[i]) := by
  rw [prts, List.getElem?_map, List.getElem?_eq_getElem h]; rfl
theorem prts_len {l : List Part} : (prts l).length = l.length := by simp [prts]
def farB (l : List Part) : Bool := l.any (fun p => decide (300 < p.s.length)) || decide (40 < l.length)
theorem far_ok (l : List Part) (hl : l.length < 2 ^ 63) : EvP PR G f_L05_far [slv (prts l)] (bv (farB l)) := by
  refine EvP.of_wpf false hm c_L05_far rfl ?_
  have hlen := prts_len (l := l)
  refine wpf_seq1 ?_
  conv => whnf
  refine wpfS_seq1 ?_
  conv => whnf
  refine SemS.loopF false hm (σ := Nat) (fun i => [(0, slv (prts l)), (3, iv i)]) (fun _ => ⟨[], []⟩) (fun i => l.length - i) (fun i => i ≤ l.length ∧ ∀ p ∈ l.take i, ¬ 300 < p.s.length) 0 ⟨Nat.zero_le _, by simp⟩ ⟨rfl, rfl, trivial⟩ rfl ?_
  intro i ⟨hi, hq⟩
  conv => whnf
  rw [hlen]
  refine brP_mk (fun h => ?_) (fun h => ?_)
  · have hi' : i < l.length := by have := of_decide_eq_true h; omega
    clear h
    have hget := prts_get hi'
    have hw2 : IntKind.i64.wrap ((i : Int) + 1) = ((i + 1 : Nat) : Int) := by rw [wrap64 (by omega)]; rfl
    have htk : l.take (i + 1) = l.take i ++ [l[i]] := List.take_succ_eq_append_getElem hi'
    have hmem : l[i] ∈ l := List.getElem_mem hi'
    generalize l[i] = p at *
    obtain ⟨t, n, size, most, s⟩ := p
    have hget : (prts l)[i]? = some [.bool t, .int .i64 n, .int .i64 size, .int .i64 most, .str s] := hget
    by_cases hs : 300 < s.length
    · have hf : farB l = true := by
        unfold farB
        rw [Bool.or_eq_true]
        exact .inl (List.any_eq_true.2 ⟨_, hmem, decide_eq_true hs⟩)
      rw [hf]
      conv => whnf
      repeat' ((first | refine brP_t (by assumption) ?_ | refine brP_f (by assumption) ?_ | refine brP_t (decide_eq_true (by omega)) ?_ | refine brP_f (decide_eq_false (by omega)) ?_ | refine brP_t (nd_t (by omega)) ?_ | refine brP_f (nd_f (by omega)) ?_ | ((conv in (opS _ _ _ _) => whnf); rw [Int.toNat_natCast, hget]) | refine wpfS_go ?_ | refine brP_mk (fun h => ?_) (fun h => ?_) | fail) <;> conv => whnf)
      rfl
    · conv => whnf
      repeat' ((first | refine brP_t (by assumption) ?_ | refine brP_f (by assumption) ?_ | refine brP_t (decide_eq_true (by omega)) ?_ | refine brP_f (decide_eq_false (by omega)) ?_ | refine brP_t (nd_t (by omega)) ?_ | refine brP_f (nd_f (by omega)) ?_ | ((conv in (opS _ _ _ _) => whnf); rw [Int.toNat_natCast, hget]) | refine wpfS_go ?_ | refine brP_mk (fun h => ?_) (fun h => ?_) | fail) <;> conv => whnf)
      rw [hw2]
      refine ⟨i + 1, ⟨hi', fun q hq' => ?_⟩, (show l.length - (i + 1) < l.length - i by omega), ⟨rfl, rfl, trivial⟩, rfl⟩
      rw [htk] at hq'
      rcases List.mem_append.1 hq' with hq' | hq'
      · exact hq q hq'
      · rw [List.mem_singleton.1 hq']; exact hs
  · have hi' : i = l.length := by have := of_decide_eq_false h; omega
    subst hi'
    rw [List.take_length] at hq
    have hf : farB l = decide (40 < l.length) := by
      unfold farB
      have : l.any (fun p => decide (300 < p.s.length)) = false := by
        rw [List.any_eq_false]
        intro p hp
        simpa using hq p hp
      rw [this]; rfl
    rw [hf]
    clear h
    conv => whnf
    refine wpfS_go ?_
    conv => whnf
    show finV [AV.c (C.p (PV.bool (decide ((((prts l).length : Nat) : Int) > 40))))] = _
    rw [hlen]
    exact congrArg bv (decide_eq_decide.2 (by omega))
theorem L05_alive_ok : EvP PR G f_L05_alive [] (bv true) := EvP.of_isT R0_ok 10 rfl (by kernel_rfl)
end Go.Ab.S
