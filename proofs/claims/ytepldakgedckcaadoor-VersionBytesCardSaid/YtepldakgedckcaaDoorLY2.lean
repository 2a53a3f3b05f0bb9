/- Versions: how many are kept; the same versions; the calls at the end. No condition. -/
import Derived.Test.YtepldakgedckcaaDoorLY1
import Derived.Test.YtepldakgedckcaaDoorFwH
set_option linter.unusedSimpArgs false
set_option linter.unusedVariables false
namespace Go.Ab.S
open Go Go.Ab Go.Proofs
attribute [local irreducible] SemS
set_option maxRecDepth 100000
def polK : List LK := List.replicate 49 (.int .u16) ++ List.replicate 16 (.int .u8) ++ [.int .u16]
theorem pol_typ (p : Pol) : typK polK p.row = true := rfl
theorem row66 (p : Pol) : p.row.length = 66 := rfl
theorem td66 {R : List PV} (h : R.length = 66) : List.take 66 (List.drop 0 R) = R := by
  rw [List.drop_zero, List.take_of_length_le (by omega)]
theorem put66 {z R : List PV} (h : R.length = 66) (hz : z.length = 66) : putAt z 0 R = R := by
  unfold putAt
  rw [List.take_zero, List.nil_append, List.drop_eq_nil_of_le (by omega), List.append_nil]
theorem R14_Kept_ok (e : Int) : EvP PR G f_R14_Kept [iv e] (iv (keptN e)) := by
  refine EvP.of_wpf true hm c_R14_Kept rfl ?_
  conv => whnf
  by_cases h1 : e < 0
  · have : keptN e = 0 := by unfold keptN; rw [if_neg (by omega)]
    rw [this]
    repeat' ((first | refine brP_t (by assumption) ?_ | refine brP_f (by assumption) ?_ | refine brP_t (decide_eq_true (by omega)) ?_ | refine brP_f (decide_eq_false (by omega)) ?_ | refine brP_t (nd_t (by omega)) ?_ | refine brP_f (nd_f (by omega)) ?_ | refine brP_mk (fun h => ?_) (fun h => ?_) | fail) <;> conv => whnf)
    rfl
  by_cases h2 : 255 < e
  · have : keptN e = 0 := by unfold keptN; rw [if_neg (by omega)]
    rw [this]
    repeat' ((first | refine brP_t (by assumption) ?_ | refine brP_f (by assumption) ?_ | refine brP_t (decide_eq_true (by omega)) ?_ | refine brP_f (decide_eq_false (by omega)) ?_ | refine brP_t (nd_t (by omega)) ?_ | refine brP_f (nd_f (by omega)) ?_ | refine brP_mk (fun h => ?_) (fun h => ?_) | fail) <;> conv => whnf)
    rfl
  by_cases h3 : 6 < e
  · have : keptN e = 8 := by unfold keptN; rw [if_pos (by omega)]; omega
    rw [this]
    repeat' ((first | refine brP_t (by assumption) ?_ | refine brP_f (by assumption) ?_ | refine brP_t (decide_eq_true (by omega)) ?_ | refine brP_f (decide_eq_false (by omega)) ?_ | refine brP_t (nd_t (by omega)) ?_ | refine brP_f (nd_f (by omega)) ?_ | refine brP_mk (fun h => ?_) (fun h => ?_) | fail) <;> conv => whnf)
    rfl
  · have : ((keptN e : Nat) : Int) = e + 1 := by unfold keptN; rw [if_pos (by omega)]; omega
    rw [this]
    repeat' ((first | refine brP_t (by assumption) ?_ | refine brP_f (by assumption) ?_ | refine brP_t (decide_eq_true (by omega)) ?_ | refine brP_f (decide_eq_false (by omega)) ?_ | refine brP_t (nd_t (by omega)) ?_ | refine brP_f (nd_f (by omega)) ?_ | refine brP_mk (fun h => ?_) (fun h => ?_) | fail) <;> conv => whnf)
    show iv (IntKind.i64.wrap (e + 1)) = _
    rw [wrap64 (by omega)]
def epB (e : Int) : Bool := decide (0 ≤ e ∧ e ≤ 255)
theorem version_epoch_ok (e : Int) : EvP PR G f_version_epoch [iv e] (bv (epB e)) := by
  refine EvP.of_wpf true hm c_version_epoch rfl ?_
  conv => whnf
  by_cases h1 : 0 ≤ e
  · have ev : epB e = decide (e ≤ 255) := by unfold epB; simp [h1]
    rw [ev]
    repeat' ((first | refine brP_t (by assumption) ?_ | refine brP_f (by assumption) ?_ | refine brP_t (decide_eq_true (by omega)) ?_ | refine brP_f (decide_eq_false (by omega)) ?_ | refine brP_t (nd_t (by omega)) ?_ | refine brP_f (nd_f (by omega)) ?_ | refine brP_mk (fun h => ?_) (fun h => ?_) | fail) <;> conv => whnf)
    rfl
  · have ev : epB e = false := by unfold epB; simp; omega
    rw [ev]
    repeat' ((first | refine brP_t (by assumption) ?_ | refine brP_f (by assumption) ?_ | refine brP_t (decide_eq_true (by omega)) ?_ | refine brP_f (decide_eq_false (by omega)) ?_ | refine brP_t (nd_t (by omega)) ?_ | refine brP_f (nd_f (by omega)) ?_ | refine brP_mk (fun h => ?_) (fun h => ?_) | fail) <;> conv => whnf)
    rfl
theorem version_Kept_ok (e : Int) : EvP PR G f_version_Kept [iv e] (iv (keptN e)) := by
  refine EvP.of_wpf true hm c_version_Kept rfl ?_
  conv => whnf
  by_cases h1 : 0 ≤ e ∧ e ≤ 255
  · have he := version_epoch_ok e
    rw [show epB e = true from decide_eq_true h1] at he
    repeat' ((first | refine brP_t (by assumption) ?_ | refine brP_f (by assumption) ?_ | refine brP_t (decide_eq_true (by omega)) ?_ | refine brP_f (decide_eq_false (by omega)) ?_ | refine brP_t (nd_t (by omega)) ?_ | refine brP_f (nd_f (by omega)) ?_ | refine callK_p he ?_ | refine callM_p he rfl ?_ | refine callK_pf rfl he ?_ | refine brP_mk (fun h => ?_) (fun h => ?_) | fail) <;> conv => whnf)
    show iv (if (8 : Int) < IntKind.i64.wrap (e + 1) then 8 else IntKind.i64.wrap (e + 1)) = _
    rw [wrap64 (by omega)]
    have : (if (8 : Int) < e + 1 then 8 else e + 1) = ((keptN e : Nat) : Int) := by
      unfold keptN
      rw [if_pos h1]
      split <;> omega
    rw [this]
  · have he := version_epoch_ok e
    rw [show epB e = false from decide_eq_false h1] at he
    repeat' ((first | refine brP_t (by assumption) ?_ | refine brP_f (by assumption) ?_ | refine brP_t (decide_eq_true (by omega)) ?_ | refine brP_f (decide_eq_false (by omega)) ?_ | refine brP_t (nd_t (by omega)) ?_ | refine brP_f (nd_f (by omega)) ?_ | refine callK_p he ?_ | refine callM_p he rfl ?_ | refine callK_pf rfl he ?_ | refine brP_mk (fun h => ?_) (fun h => ?_) | fail) <;> conv => whnf)
    unfold keptN
    rw [if_neg h1]
    rfl
set_option maxHeartbeats 2000000 in
theorem R14_Same_ok (l : List (List PV)) (hz : ∀ r ∈ l, typK polK r = true) (hl : l.length ≤ 1000) : EvP PR G f_R14_Same [slv l, slv l] (bv true) := by
  refine EvP.of_wpf false hm c_R14_Same rfl ?_
  refine wpf_seq1 ?_
  conv => whnf
  repeat' ((first | refine brP_t (by assumption) ?_ | refine brP_f (by assumption) ?_ | refine brP_t (decide_eq_true (by omega)) ?_ | refine brP_f (decide_eq_false (by omega)) ?_ | refine brP_t (nd_t (by omega)) ?_ | refine brP_f (nd_f (by omega)) ?_ | refine wpfS_seq1 ?_ | refine wpfS_go ?_ | fail) <;> conv => whnf)
  refine SemS.loopF false hm (σ := Nat) (fun i => [(0, slv l), (1, slv l), (5, iv i)]) (fun _ => ⟨[], []⟩) (fun i => l.length - i) (fun i => i ≤ l.length) 0 (Nat.zero_le _) ⟨rfl, rfl, rfl, trivial⟩ rfl ?_
  intro i hi
  refine wpf_seq1 ?_
  conv => whnf
  try (refine wpfS_seq1 ?_; conv => whnf)
  refine brP_mk (fun h => ?_) (fun h => ?_)
  · have hi' : i < l.length := by have := of_decide_eq_true h; omega
    clear h
    have hget : l[i]? = some l[i] := List.getElem?_eq_getElem hi'
    have hok : typK polK l[i] = true := hz _ (List.getElem_mem hi')
    have hlen : l[i].length = 66 := typK_len hok
    generalize l[i] = p at *
    have hself : ∀ ks, ks = polK → eqCells ks (List.take 66 (List.drop 0 p)) (List.take 66 (List.drop 0 p)) = some true := by
      intro ks e
      rw [td66 hlen]
      exact eqCells_self hok e
    have hw2 : IntKind.i64.wrap ((i : Int) + 1) = ((i + 1 : Nat) : Int) := by rw [wrap64 (by omega)]; rfl
    repeat' ((first | refine brP_t (by assumption) ?_ | refine brP_f (by assumption) ?_ | refine brP_t (decide_eq_true (by omega)) ?_ | refine brP_f (decide_eq_false (by omega)) ?_ | refine brP_t (nd_t (by omega)) ?_ | refine brP_f (nd_f (by omega)) ?_ | (refine gd_mk ?_ ?_; focus (simp [hlen]; done)) | ((conv in (opS _ _ _ _) => whnf); rw [Int.toNat_natCast, hget]) | ((conv in (opM _ _ _ _ _) => whnf); (conv in (opS _ _ _ _) => whnf); rw [Int.toNat_natCast, hget]) | ((conv in (eqS _ _ _) => whnf); rw [hself _ (by rfl)]) | ((rw [hw2])) | refine wpfS_seq1 ?_ | refine wpfS_go ?_ | fail) <;> conv => whnf)
    exact ⟨i + 1, by omega, (show l.length - (i + 1) < l.length - i by omega), ⟨rfl, rfl, rfl, trivial⟩, rfl⟩
  · have hi' : i = l.length := by have := of_decide_eq_false h; omega
    subst hi'
    clear h
    repeat' ((first | refine brP_t (by assumption) ?_ | refine brP_f (by assumption) ?_ | refine brP_t (decide_eq_true (by omega)) ?_ | refine brP_f (decide_eq_false (by omega)) ?_ | refine brP_t (nd_t (by omega)) ?_ | refine brP_f (nd_f (by omega)) ?_ | refine wpfS_seq1 ?_ | refine wpfS_go ?_ | fail) <;> conv => whnf)
    rfl
theorem L14_alive_ok : EvP PR G f_L14_alive [] (bv true) := EvP.of_isT R0_ok 10 rfl (by kernel_rfl)
end Go.Ab.S
