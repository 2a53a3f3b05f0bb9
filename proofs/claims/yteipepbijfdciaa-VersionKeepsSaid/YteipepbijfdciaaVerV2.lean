/- Part of a proof; no condition. -/
import Derived.Test.YteipepbijfdciaaVerV1
set_option linter.unusedSimpArgs false
set_option linter.unusedVariables false
namespace Go.Ab.S
open Go Go.Ab Go.Proofs
attribute [local irreducible] SemS
set_option maxRecDepth 100000
/-- A reference store's value. -/
def rs (e : Int) (es : List (List PV)) : AV := .agg [.int .i64 e, .sl es]
def keptN (e : Int) : Int := if e < 0 ∨ 255 < e then 0 else if 6 < e then 8 else e + 1
theorem R14_Kept_ok (e : Int) : EvP PR G f_R14_Kept [iv e] (iv (keptN e)) := by
  refine EvP.of_wpf true hm c_R14_Kept rfl ?_
  conv => whnf
  by_cases h1 : e < 0
  · have : keptN e = 0 := by unfold keptN; rw [if_pos (.inl h1)]
    rw [this]
    repeat' ((first | refine brP_t (by assumption) ?_ | refine brP_f (by assumption) ?_ | refine brP_t (decide_eq_true (by omega)) ?_ | refine brP_f (decide_eq_false (by omega)) ?_ | refine brP_t (nd_t (by omega)) ?_ | refine brP_f (nd_f (by omega)) ?_ | refine brP_mk (fun h => ?_) (fun h => ?_) | fail) <;> conv => whnf)
    rfl
  by_cases h2 : 255 < e
  · have : keptN e = 0 := by unfold keptN; rw [if_pos (.inr h2)]
    rw [this]
    repeat' ((first | refine brP_t (by assumption) ?_ | refine brP_f (by assumption) ?_ | refine brP_t (decide_eq_true (by omega)) ?_ | refine brP_f (decide_eq_false (by omega)) ?_ | refine brP_t (nd_t (by omega)) ?_ | refine brP_f (nd_f (by omega)) ?_ | refine brP_mk (fun h => ?_) (fun h => ?_) | fail) <;> conv => whnf)
    rfl
  by_cases h3 : 6 < e
  · have : keptN e = 8 := by unfold keptN; rw [if_neg (by omega), if_pos h3]
    rw [this]
    repeat' ((first | refine brP_t (by assumption) ?_ | refine brP_f (by assumption) ?_ | refine brP_t (decide_eq_true (by omega)) ?_ | refine brP_f (decide_eq_false (by omega)) ?_ | refine brP_t (nd_t (by omega)) ?_ | refine brP_f (nd_f (by omega)) ?_ | refine brP_mk (fun h => ?_) (fun h => ?_) | fail) <;> conv => whnf)
    rfl
  · have : keptN e = e + 1 := by unfold keptN; rw [if_neg (by omega), if_neg h3]
    rw [this]
    repeat' ((first | refine brP_t (by assumption) ?_ | refine brP_f (by assumption) ?_ | refine brP_t (decide_eq_true (by omega)) ?_ | refine brP_f (decide_eq_false (by omega)) ?_ | refine brP_t (nd_t (by omega)) ?_ | refine brP_f (nd_f (by omega)) ?_ | refine brP_mk (fun h => ?_) (fun h => ?_) | fail) <;> conv => whnf)
    show iv (IntKind.i64.wrap (e + 1)) = _
    rw [wrap64 (by omega)]
def epB (e : Int) : Bool := decide (0 ≤ e ∧ e ≤ 255)
theorem version_epoch_ok (e : Int) : EvP PR G f_version_epoch [iv e] (bv (epB e)) := by
  refine EvP.of_wpf true hm c_version_epoch rfl ?_
  conv => whnf
  by_cases h1 : 0 ≤ e
  · have ev : epB e = decide (e ≤ 255) := by unfold epB; simp [h1]
    rw [ev]
    repeat' ((first | refine brP_t (by assumption) ?_ | refine brP_f (by assumption) ?_ | refine brP_t (decide_eq_true (by omega)) ?_ | refine brP_f (decide_eq_false (by omega)) ?_ | refine brP_t (nd_t (by omega)) ?_ | refine brP_f (nd_f (by omega)) ?_ | refine brP_mk (fun h => ?_) (fun h => ?_) | fail) <;> conv => whnf)
    rfl
  · have ev : epB e = false := by unfold epB; simp; omega
    rw [ev]
    repeat' ((first | refine brP_t (by assumption) ?_ | refine brP_f (by assumption) ?_ | refine brP_t (decide_eq_true (by omega)) ?_ | refine brP_f (decide_eq_false (by omega)) ?_ | refine brP_t (nd_t (by omega)) ?_ | refine brP_f (nd_f (by omega)) ?_ | refine brP_mk (fun h => ?_) (fun h => ?_) | fail) <;> conv => whnf)
    rfl
theorem version_Kept_ok (e : Int) : EvP PR G f_version_Kept [iv e] (iv (keptN e)) := by
  refine EvP.of_wpf true hm c_version_Kept rfl ?_
  conv => whnf
  by_cases h1 : 0 ≤ e ∧ e ≤ 255
  · have he := version_epoch_ok e
    rw [show epB e = true from decide_eq_true h1] at he
    repeat' ((first | refine brP_t (by assumption) ?_ | refine brP_f (by assumption) ?_ | refine brP_t (decide_eq_true (by omega)) ?_ | refine brP_f (decide_eq_false (by omega)) ?_ | refine brP_t (nd_t (by omega)) ?_ | refine brP_f (nd_f (by omega)) ?_ | refine callK_p he ?_ | refine callM_p he rfl ?_ | refine callK_pf rfl he ?_ | refine brP_mk (fun h => ?_) (fun h => ?_) | fail) <;> conv => whnf)
    show iv (if (8 : Int) < IntKind.i64.wrap (e + 1) then 8 else IntKind.i64.wrap (e + 1)) = _
    rw [wrap64 (by omega)]
    have : (if (8 : Int) < e + 1 then 8 else e + 1) = keptN e := by
      unfold keptN
      repeat' split
      all_goals omega
    rw [this]
  · have he := version_epoch_ok e
    rw [show epB e = false from decide_eq_false h1] at he
    repeat' ((first | refine brP_t (by assumption) ?_ | refine brP_f (by assumption) ?_ | refine brP_t (decide_eq_true (by omega)) ?_ | refine brP_f (decide_eq_false (by omega)) ?_ | refine brP_t (nd_t (by omega)) ?_ | refine brP_f (nd_f (by omega)) ?_ | refine callK_p he ?_ | refine callM_p he rfl ?_ | refine callK_pf rfl he ?_ | refine brP_mk (fun h => ?_) (fun h => ?_) | fail) <;> conv => whnf)
    unfold keptN
    rw [if_pos (by omega)]
    rfl
theorem R14_Full_ok (es : List (List PV)) (p : List PV) : EvP PR G f_R14_Commit [rs 255 es, .agg p] (.tup [rs 255 es, iv 15]) := by
  refine EvP.of_wpf false hm c_R14_Commit rfl ?_
  conv => whnf
  repeat' ((first | refine brP_t (by assumption) ?_ | refine brP_f (by assumption) ?_ | refine brP_t (decide_eq_true (by omega)) ?_ | refine brP_f (decide_eq_false (by omega)) ?_ | refine brP_t (nd_t (by omega)) ?_ | refine brP_f (nd_f (by omega)) ?_ | fail) <;> conv => whnf)
  rfl
theorem R14_Commit_ok (e : Int) (es : List (List PV)) (he : 0 ≤ e ∧ e < 255) (hz : ∀ r ∈ es, Pok r) (hl : es.length ≤ 1000) (p : List PV) (hp : Pok p) : EvP PR G f_R14_Commit [rs e es, .agg p] (.tup [rs (e + 1) (es ++ [p]), iv 0]) := by
  refine EvP.of_wpf false hm c_R14_Commit rfl ?_
  have hz2 : ∀ r ∈ es, r.length = 66 := fun r hr => (hz r hr).len
  have hall : (es.all fun r => r.length == 66) = true := by
    rw [List.all_eq_true]; exact fun r hr => by rw [hz2 r hr]; rfl
  conv => whnf
  repeat' ((first | refine brP_t (by assumption) ?_ | refine brP_f (by assumption) ?_ | refine brP_t (decide_eq_true (by omega)) ?_ | refine brP_f (decide_eq_false (by omega)) ?_ | refine brP_t (nd_t (by omega)) ?_ | refine brP_f (nd_f (by omega)) ?_ | (refine gd_mk ?_ ?_; focus (simp [hp.len]; done)) | (refine gd_mk ?_ ?_; focus (rw [hall]; simp; omega; done)) | (refine gd_mk ?_ ?_; focus (simp [hp.len]; omega; done)) | fail) <;> conv => whnf)
  rw [wrap64 (by omega), td hp.len]
  rfl
/-- What the reference tells of an epoch. -/
def ratV (e : Int) (es : List (List PV)) (k : Int) : AV :=
  if k < 0 ∨ e < k then .tup [.agg zeroP, iv 8] else if k ≤ e - 8 then .tup [.agg zeroP, iv 6] else .tup [.agg (es.getD (es.length - 1 - e + k).toNat []), iv 0]
theorem R14_At_ok (e : Int) (es : List (List PV)) (hz : ∀ r ∈ es, Pok r) (he : 0 ≤ e ∧ e ≤ 1000) (hl : (es.length : Int) = e + 1 ∨ (es.length : Int) = keptN e ∧ e ≤ 255) (k : Int) : EvP PR G f_R14_At [rs e es, iv k] (ratV e es k) := by
  have hp : ([rs e es, iv k].all pureV1 && pureV (ratV e es k) && Nat.beq [rs e es, iv k].length s_R14_At.np) = true := by
    unfold ratV
    split
    · rfl
    · split <;> rfl
  have hl2 : (es.length : Int) ≤ e + 1 ∧ (8 ≤ e → 8 ≤ (es.length : Int)) ∧ (e < 8 → (es.length : Int) = e + 1) := by
    rcases hl with h | ⟨h, h'⟩
    · omega
    · unfold keptN at h
      rw [if_neg (by omega)] at h
      split at h <;> omega
  refine EvP.of_wpf false hm c_R14_At hp ?_
  refine wpf_seq1 ?_
  conv => whnf
  by_cases h1 : k < 0
  · have ev : ratV e es k = .tup [.agg zeroP, iv 8] := by unfold ratV; rw [if_pos (.inl h1)]
    rw [ev]
    refine wpfS_go ?_
    conv => whnf
    repeat' ((first | refine brP_t (by assumption) ?_ | refine brP_f (by assumption) ?_ | refine brP_t (decide_eq_true (by omega)) ?_ | refine brP_f (decide_eq_false (by omega)) ?_ | refine brP_t (nd_t (by omega)) ?_ | refine brP_f (nd_f (by omega)) ?_ | refine brP_mk (fun h => ?_) (fun h => ?_) | fail) <;> conv => whnf)
    rfl
  by_cases h2 : e < k
  · have ev : ratV e es k = .tup [.agg zeroP, iv 8] := by unfold ratV; rw [if_pos (.inr h2)]
    rw [ev]
    refine wpfS_go ?_
    conv => whnf
    repeat' ((first | refine brP_t (by assumption) ?_ | refine brP_f (by assumption) ?_ | refine brP_t (decide_eq_true (by omega)) ?_ | refine brP_f (decide_eq_false (by omega)) ?_ | refine brP_t (nd_t (by omega)) ?_ | refine brP_f (nd_f (by omega)) ?_ | refine brP_mk (fun h => ?_) (fun h => ?_) | fail) <;> conv => whnf)
    rfl
  have hw : IntKind.i64.wrap (e - 8) = e - 8 := wrap64 (by omega)
  by_cases h3 : k ≤ e - 8
  · have ev : ratV e es k = .tup [.agg zeroP, iv 6] := by unfold ratV; rw [if_neg (by omega), if_pos h3]
    rw [ev]
    refine wpfS_go ?_
    conv => whnf
    repeat' ((first | refine brP_t (by assumption) ?_ | refine brP_f (by assumption) ?_ | refine brP_t (decide_eq_true (by omega)) ?_ | refine brP_f (decide_eq_false (by omega)) ?_ | refine brP_t (nd_t (by omega)) ?_ | refine brP_f (nd_f (by omega)) ?_ | refine brP_mk (fun h => ?_) (fun h => ?_) | fail) <;> conv => whnf)
    rfl
  · have ev : ratV e es k = .tup [.agg (es.getD (es.length - 1 - e + k).toNat []), iv 0] := by unfold ratV; rw [if_neg (by omega), if_neg h3]
    have hlt : ((es.length : Int) - 1 - e + k).toNat < es.length := by omega
    have hget : es[((es.length : Int) - 1 - e + k).toNat]? = some (es.getD ((es.length : Int) - 1 - e + k).toNat []) := by
      rw [List.getD_eq_getElem?_getD, List.getElem?_eq_getElem hlt]; rfl
    have hok : Pok (es.getD ((es.length : Int) - 1 - e + k).toNat []) := hz _ (List.mem_of_getElem? hget)
    have hw1 : IntKind.i64.wrap ((es.length : Int) - 1) = es.length - 1 := wrap64 (by omega)
    have hw2 : IntKind.i64.wrap ((es.length : Int) - 1 - e) = es.length - 1 - e := wrap64 (by omega)
    have hw3 : IntKind.i64.wrap ((es.length : Int) - 1 - e + k) = es.length - 1 - e + k := wrap64 (by omega)
    rw [ev]
    generalize es.getD ((es.length : Int) - 1 - e + k).toNat [] = p at *
    refine wpfS_seq1 ?_
    conv => whnf
    repeat' ((first | refine brP_t (by assumption) ?_ | refine brP_f (by assumption) ?_ | refine brP_t (decide_eq_true (by omega)) ?_ | refine brP_f (decide_eq_false (by omega)) ?_ | refine brP_t (nd_t (by omega)) ?_ | refine brP_f (nd_f (by omega)) ?_ | refine brP_mk (fun h => ?_) (fun h => ?_) | fail) <;> conv => whnf)
    refine wpfS_go ?_
    conv => whnf
    repeat' ((first | refine brP_t (by assumption) ?_ | refine brP_f (by assumption) ?_ | refine brP_t (decide_eq_true (by omega)) ?_ | refine brP_f (decide_eq_false (by omega)) ?_ | refine brP_t (nd_t (by omega)) ?_ | refine brP_f (nd_f (by omega)) ?_ | (refine gd_mk ?_ ?_; focus (simp [hok.len, putAt]; done)) | ((conv in (opS _ _ _ _) => whnf); rw [hw1, hw2, hw3, hget]) | (refine gd_mk ?_ ?_; focus (simp [hok.len]; omega; done)) | fail) <;> conv => whnf)
    rw [td hok.len, take_put hok.len rfl]
    rfl
theorem R14_Same_ok (l : List (List PV)) (hz : ∀ r ∈ l, Pok r) (hl : l.length ≤ 1000) : EvP PR G f_R14_Same [slv l, slv l] (bv true) := by
  refine EvP.of_wpf false hm c_R14_Same rfl ?_
  refine wpf_seq1 ?_
  conv => whnf
  refine wpfS_seq1 ?_
  conv => whnf
  repeat' ((first | refine brP_t (by assumption) ?_ | refine brP_f (by assumption) ?_ | refine brP_t (decide_eq_true (by omega)) ?_ | refine brP_f (decide_eq_false (by omega)) ?_ | refine brP_t (nd_t (by omega)) ?_ | refine brP_f (nd_f (by omega)) ?_ | refine brP_mk (fun h => ?_) (fun h => ?_) | fail) <;> conv => whnf)
  refine wpfS_seq1 ?_
  conv => whnf
  refine SemS.loopF false hm (σ := Nat) (fun i => [(0, slv l), (1, slv l), (5, iv i)]) (fun _ => ⟨[], []⟩) (fun i => l.length - i) (fun i => i ≤ l.length) 0 (Nat.zero_le _) ⟨rfl, rfl, rfl, trivial⟩ rfl ?_
  intro i hi
  conv => whnf
  refine brP_mk (fun h => ?_) (fun h => ?_)
  · have hi' : i < l.length := by have := of_decide_eq_true h; omega
    clear h
    have hget : l[i]? = some l[i] := List.getElem?_eq_getElem hi'
    have hok : Pok l[i] := hz _ (List.getElem_mem hi')
    generalize l[i] = p at *
    have hself : ∀ ks, ks = polK → eqCells ks (List.take 66 (List.drop 0 p)) (List.take 66 (List.drop 0 p)) = some true := by
      intro ks e
      rw [td hok.len]
      exact eqCells_self hok e
    have hw2 : IntKind.i64.wrap ((i : Int) + 1) = ((i + 1 : Nat) : Int) := by rw [wrap64 (by omega)]; rfl
    conv => whnf
    repeat' ((first | refine brP_t (by assumption) ?_ | refine brP_f (by assumption) ?_ | refine brP_t (decide_eq_true (by omega)) ?_ | refine brP_f (decide_eq_false (by omega)) ?_ | refine brP_t (nd_t (by omega)) ?_ | refine brP_f (nd_f (by omega)) ?_ | (refine gd_mk ?_ ?_; focus (simp [hok.len]; done)) | ((conv in (opS _ _ _ _) => whnf); rw [Int.toNat_natCast, hget]) | ((conv in (eqS _ _ _) => whnf); rw [hself _ (by rfl)]) | fail) <;> conv => whnf)
    rw [hw2]
    exact ⟨i + 1, by omega, (show l.length - (i + 1) < l.length - i by omega), ⟨rfl, rfl, rfl, trivial⟩, rfl⟩
  · have hi' : i = l.length := by have := of_decide_eq_false h; omega
    subst hi'
    conv => whnf
    refine wpfS_go ?_
    conv => whnf
    rfl
end Go.Ab.S
