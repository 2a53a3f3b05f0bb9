/- Updates by the document; the map of an update. No condition. The same updates? No condition. The map of an update, by the document. No condition. -/
import Derived.Test.YtidmpmdhgiopgaaDoorLCA
set_option linter.unusedSimpArgs false
set_option linter.unusedVariables false
namespace Go.Ab.S
open Go Go.Ab Go.Proofs
attribute [local irreducible] SemS
set_option maxRecDepth 100000
/-! ### Its map -/
def movesC (l : List Chg) : List (Int × Int) := (l.filter fun c => decide (c.k = 6)).map fun c => (c.a, c.b)
def mapC (l : List Chg) : Nat → Nat := madeN (movesC l)
theorem moves_yes {l : List Chg} {i : Nat} (h : i < l.length) (hk : l[i].k = 6) : movesC (l.take (i + 1)) = movesC (l.take i) ++ [(l[i].a, l[i].b)] := by
  unfold movesC
  rw [List.take_succ_eq_append_getElem h, List.filter_append, List.map_append]
  simp [hk]
theorem moves_no {l : List Chg} {i : Nat} (h : i < l.length) (hk : ¬ l[i].k = 6) : movesC (l.take (i + 1)) = movesC (l.take i) := by
  unfold movesC
  rw [List.take_succ_eq_append_getElem h, List.filter_append, List.map_append]
  simp [hk]
theorem made_app (x : List (Int × Int)) (y : Int × Int) : madeN (x ++ [y]) = stepM (madeN x) y := by
  unfold madeN
  rw [List.foldl_append]; rfl
set_option maxHeartbeats 4000000 in
theorem change_Map_ok (l : List Chg) (hl : l.length < 2 ^ 62) : EvP PR G f_change_Map [slv (chgs l)] (mv (mapC l)) := by
  have hlen := chgs_len (l := l)
  refine EvP.of_wpf false hm c_change_Map rfl ?_
  refine wpf_seq1 ?_
  conv => whnf
  have c0 := relabel_Same_ok
  repeat' ((first | refine brP_t (by assumption) ?_ | refine brP_f (by assumption) ?_ | refine brP_t (decide_eq_true (by omega)) ?_ | refine brP_f (decide_eq_false (by omega)) ?_ | refine brP_t (nd_t (by omega)) ?_ | refine brP_f (nd_f (by omega)) ?_ | ((rw [hlen])) | refine wpfS_seq1 ?_ | refine wpfS_go ?_ | fail) <;> conv => whnf)
  (first | refine callK_p c0 ?_ | refine callM_p c0 rfl ?_ | refine callK_pf rfl c0 ?_ | refine callK_pk rfl c0 ?_)
  conv => whnf
  repeat' ((first | refine brP_t (by assumption) ?_ | refine brP_f (by assumption) ?_ | refine brP_t (decide_eq_true (by omega)) ?_ | refine brP_f (decide_eq_false (by omega)) ?_ | refine brP_t (nd_t (by omega)) ?_ | refine brP_f (nd_f (by omega)) ?_ | ((rw [hlen])) | refine wpfS_seq1 ?_ | refine wpfS_go ?_ | fail) <;> conv => whnf)
  refine SemS.loopC false hm (σ := Nat) (fun i => [(11, iv i), (10, iv l.length), (9, slv (chgs l)), (3, .c (.ptr (.loc 1) 0)), (2, .c (.ptr (.loc 0) 0))]) (fun i => ⟨[], [.row (mrow zeroM), .row (mrow (mapC (l.take i)))]⟩) (fun i => l.length - i) (fun i => i ≤ l.length) 0 (Nat.zero_le _) ⟨rfl, rfl, rfl, rfl, rfl, trivial⟩ rfl ?_
  intro i hi
  have hM := made_lt (movesC (l.take i))
  refine wpf_seq1 ?_
  conv => whnf
  try (refine wpfS_seq1 ?_; conv => whnf)
  refine brP_mk (fun h => ?_) (fun h => ?_)
  · have hi' : i < l.length := by have := of_decide_eq_true h; omega
    clear h
    have hget := chgs_get hi'
    have hw2 : IntKind.i64.wrap ((i : Int) + 1) = ((i + 1 : Nat) : Int) := by rw [wrap64 (by omega)]; rfl
    have hyes := moves_yes hi'
    have hno := moves_no hi'
    generalize hcc : l[i] = c at *
    obtain ⟨k, a, b, s, i0⟩ := c
    dsimp only at hyes hno
    rw [chgrow] at hget
    have c1 := relabel_Move_ok (mapC (l.take i)) (fun j hj => Nat.le_of_lt (Nat.lt_of_lt_of_le (hM j hj) (by omega))) a b
    by_cases hk : k = 6
    · subst hk
      have hn : mapC (l.take (i + 1)) = stepM (mapC (l.take i)) (a, b) := by unfold mapC; rw [hyes rfl, made_app]
      unfold stepM at hn
      dsimp only at hn
      cases hmay : mayB (mapC (l.take i)) a b with
      | true =>
        rw [hmay] at c1 hn
        rw [if_pos rfl] at hn
        rw [if_pos rfl, if_pos rfl] at c1
        repeat' ((first | refine brP_t (by assumption) ?_ | refine brP_f (by assumption) ?_ | refine brP_t (decide_eq_true (by omega)) ?_ | refine brP_f (decide_eq_false (by omega)) ?_ | refine brP_t (nd_t (by omega)) ?_ | refine brP_f (nd_f (by omega)) ?_ | ((rw [hw2])) | refine wpfS_seq1 ?_ | refine wpfS_go ?_ | fail) <;> conv => whnf)
        (first | ((conv in (opS _ _ _ _) => whnf); rw [Int.toNat_natCast, hget]) | ((conv in (opM _ _ _ _ _) => whnf); (conv in (opS _ _ _ _) => whnf); rw [Int.toNat_natCast, hget]))
        conv => whnf
        repeat' ((first | refine brP_t (by assumption) ?_ | refine brP_f (by assumption) ?_ | refine brP_t (decide_eq_true (by omega)) ?_ | refine brP_f (decide_eq_false (by omega)) ?_ | refine brP_t (nd_t (by omega)) ?_ | refine brP_f (nd_f (by omega)) ?_ | ((rw [hw2])) | refine wpfS_seq1 ?_ | refine wpfS_go ?_ | fail) <;> conv => whnf)
        (first | refine callK_p c1 ?_ | refine callM_p c1 rfl ?_ | refine callK_pf rfl c1 ?_ | refine callK_pk rfl c1 ?_)
        conv => whnf
        repeat' ((first | refine brP_t (by assumption) ?_ | refine brP_f (by assumption) ?_ | refine brP_t (decide_eq_true (by omega)) ?_ | refine brP_f (decide_eq_false (by omega)) ?_ | refine brP_t (nd_t (by omega)) ?_ | refine brP_f (nd_f (by omega)) ?_ | ((rw [hw2])) | refine wpfS_seq1 ?_ | refine wpfS_go ?_ | fail) <;> conv => whnf)
        refine ⟨i + 1, 2, hi', (show l.length - (i + 1) < l.length - i by omega), ⟨rfl, rfl, rfl, rfl, rfl, trivial⟩, Nat.le_refl _, ?_, rfl, rfl⟩
        show _ = (⟨[], [.row (mrow zeroM), .row (mrow (mapC (l.take (i + 1))))]⟩ : Hp)
        rw [hn]
        rfl
      | false =>
        rw [hmay] at c1 hn
        rw [if_neg (by decide)] at hn
        rw [if_neg (by decide), if_neg (by decide)] at c1
        repeat' ((first | refine brP_t (by assumption) ?_ | refine brP_f (by assumption) ?_ | refine brP_t (decide_eq_true (by omega)) ?_ | refine brP_f (decide_eq_false (by omega)) ?_ | refine brP_t (nd_t (by omega)) ?_ | refine brP_f (nd_f (by omega)) ?_ | ((rw [hw2])) | refine wpfS_seq1 ?_ | refine wpfS_go ?_ | fail) <;> conv => whnf)
        (first | ((conv in (opS _ _ _ _) => whnf); rw [Int.toNat_natCast, hget]) | ((conv in (opM _ _ _ _ _) => whnf); (conv in (opS _ _ _ _) => whnf); rw [Int.toNat_natCast, hget]))
        conv => whnf
        repeat' ((first | refine brP_t (by assumption) ?_ | refine brP_f (by assumption) ?_ | refine brP_t (decide_eq_true (by omega)) ?_ | refine brP_f (decide_eq_false (by omega)) ?_ | refine brP_t (nd_t (by omega)) ?_ | refine brP_f (nd_f (by omega)) ?_ | ((rw [hw2])) | refine wpfS_seq1 ?_ | refine wpfS_go ?_ | fail) <;> conv => whnf)
        (first | refine callK_p c1 ?_ | refine callM_p c1 rfl ?_ | refine callK_pf rfl c1 ?_ | refine callK_pk rfl c1 ?_)
        conv => whnf
        repeat' ((first | refine brP_t (by assumption) ?_ | refine brP_f (by assumption) ?_ | refine brP_t (decide_eq_true (by omega)) ?_ | refine brP_f (decide_eq_false (by omega)) ?_ | refine brP_t (nd_t (by omega)) ?_ | refine brP_f (nd_f (by omega)) ?_ | ((rw [hw2])) | refine wpfS_seq1 ?_ | refine wpfS_go ?_ | fail) <;> conv => whnf)
        refine ⟨i + 1, 2, hi', (show l.length - (i + 1) < l.length - i by omega), ⟨rfl, rfl, rfl, rfl, rfl, trivial⟩, Nat.le_refl _, ?_, rfl, rfl⟩
        show _ = (⟨[], [.row (mrow zeroM), .row (mrow (mapC (l.take (i + 1))))]⟩ : Hp)
        rw [hn]
        rfl
    · have hn : mapC (l.take (i + 1)) = mapC (l.take i) := by unfold mapC; rw [hno hk]
      repeat' ((first | refine brP_t (by assumption) ?_ | refine brP_f (by assumption) ?_ | refine brP_t (decide_eq_true (by omega)) ?_ | refine brP_f (decide_eq_false (by omega)) ?_ | refine brP_t (nd_t (by omega)) ?_ | refine brP_f (nd_f (by omega)) ?_ | ((rw [hw2])) | refine wpfS_seq1 ?_ | refine wpfS_go ?_ | fail) <;> conv => whnf)
      (first | ((conv in (opS _ _ _ _) => whnf); rw [Int.toNat_natCast, hget]) | ((conv in (opM _ _ _ _ _) => whnf); (conv in (opS _ _ _ _) => whnf); rw [Int.toNat_natCast, hget]))
      conv => whnf
      repeat' ((first | refine brP_t (by assumption) ?_ | refine brP_f (by assumption) ?_ | refine brP_t (decide_eq_true (by omega)) ?_ | refine brP_f (decide_eq_false (by omega)) ?_ | refine brP_t (nd_t (by omega)) ?_ | refine brP_f (nd_f (by omega)) ?_ | ((rw [hw2])) | refine wpfS_seq1 ?_ | refine wpfS_go ?_ | fail) <;> conv => whnf)
      refine ⟨i + 1, 2, hi', (show l.length - (i + 1) < l.length - i by omega), ⟨rfl, rfl, rfl, rfl, rfl, trivial⟩, Nat.le_refl _, ?_, rfl, rfl⟩
      show _ = (⟨[], [.row (mrow zeroM), .row (mrow (mapC (l.take (i + 1))))]⟩ : Hp)
      rw [hn]
      rfl
  · have hi' : i = l.length := by have := of_decide_eq_false h; omega
    subst hi'
    clear h
    repeat' ((first | refine brP_t (by assumption) ?_ | refine brP_f (by assumption) ?_ | refine brP_t (decide_eq_true (by omega)) ?_ | refine brP_f (decide_eq_false (by omega)) ?_ | refine brP_t (nd_t (by omega)) ?_ | refine brP_f (nd_f (by omega)) ?_ | refine wpfS_seq1 ?_ | refine wpfS_go ?_ | fail) <;> conv => whnf)
    rw [List.take_length]
    rfl
end Go.Ab.S

namespace Go.Ab.S
open Go Go.Ab Go.Proofs
attribute [local irreducible] SemS
set_option maxRecDepth 100000
def sameC (l m : List Chg) : Bool := decide (l = m)
theorem chg_ne {k a b k' a' b' : Int} {s i s' i' : Nat} (h : ¬ Chg.mk k a b s i = Chg.mk k' a' b' s' i') : (!(decide (k = k') && (decide (a = a') && (decide (b = b') && (decide ((s : Int) = s') && (decide ((i : Int) = i') && true)))))) = true := by
  rw [Bool.not_eq_true', ← Bool.not_eq_true]
  intro e
  simp only [Bool.and_eq_true, decide_eq_true_eq, Bool.and_true] at e
  obtain ⟨rfl, rfl, rfl, e4, e5⟩ := e
  exact h (by rw [Int.ofNat.inj e4, Int.ofNat.inj e5])
theorem chg_eq (k a b : Int) (s i : Nat) : (!(decide (k = k) && (decide (a = a) && (decide (b = b) && (decide ((s : Int) = s) && (decide ((i : Int) = i) && true)))))) = false := by simp
theorem sameC_len {l m : List Chg} (h : ¬ l.length = m.length) : sameC l m = false := decide_eq_false fun e => h (congrArg _ e)
set_option maxHeartbeats 4000000 in
theorem R13_Same_ok (l m : List Chg) (hl : l.length < 2 ^ 62) (hm2 : m.length < 2 ^ 62) : EvP PR G f_R13_Same [slv (chgs l), slv (chgs m)] (bv (sameC l m)) := by
  have hlen := chgs_len (l := l)
  have hlen2 := chgs_len (l := m)
  refine EvP.of_wpf false hm c_R13_Same rfl ?_
  refine wpf_seq1 ?_
  conv => whnf
  by_cases h0 : l.length = m.length
  case neg =>
    rw [sameC_len h0]
    repeat' ((first | refine brP_t (by assumption) ?_ | refine brP_f (by assumption) ?_ | refine brP_t (decide_eq_true (by omega)) ?_ | refine brP_f (decide_eq_false (by omega)) ?_ | refine brP_t (nd_t (by omega)) ?_ | refine brP_f (nd_f (by omega)) ?_ | ((rw [hlen])) | ((rw [hlen2])) | refine wpfS_seq1 ?_ | refine wpfS_go ?_ | fail) <;> conv => whnf)
    rfl
  repeat' ((first | refine brP_t (by assumption) ?_ | refine brP_f (by assumption) ?_ | refine brP_t (decide_eq_true (by omega)) ?_ | refine brP_f (decide_eq_false (by omega)) ?_ | refine brP_t (nd_t (by omega)) ?_ | refine brP_f (nd_f (by omega)) ?_ | ((rw [hlen])) | ((rw [hlen2])) | refine wpfS_seq1 ?_ | refine wpfS_go ?_ | fail) <;> conv => whnf)
  refine SemS.loopC false hm (σ := Nat) (fun i => [(5, iv i), (0, slv (chgs l)), (1, slv (chgs m))]) (fun i => ⟨[], []⟩) (fun i => l.length - i) (fun i => i ≤ l.length ∧ l.take i = m.take i) 0 ⟨Nat.zero_le _, rfl⟩ ⟨rfl, rfl, rfl, trivial⟩ rfl ?_
  rintro i ⟨hi, hpre⟩
  refine wpf_seq1 ?_
  conv => whnf
  try (refine wpfS_seq1 ?_; conv => whnf)
  rw [hlen]
  refine brP_mk (fun h => ?_) (fun h => ?_)
  · have hi' : i < l.length := by have := of_decide_eq_true h; omega
    have hi2 : i < m.length := by omega
    clear h
    have hget := chgs_get hi'
    have hget2 := chgs_get hi2
    have hw2 : IntKind.i64.wrap ((i : Int) + 1) = ((i + 1 : Nat) : Int) := by rw [wrap64 (by omega)]; rfl
    have e1 : l.take (i + 1) = l.take i ++ [l[i]] := List.take_succ_eq_append_getElem hi'
    have e2 : m.take (i + 1) = m.take i ++ [m[i]] := List.take_succ_eq_append_getElem hi2
    by_cases he : l[i] = m[i]
    · rw [he] at hget e1
      generalize hcc : m[i] = c at *
      obtain ⟨k, a, b, s, i0⟩ := c
      rw [chgrow] at hget hget2
      repeat' ((first | refine brP_t (by assumption) ?_ | refine brP_f (by assumption) ?_ | refine brP_t (decide_eq_true (by omega)) ?_ | refine brP_f (decide_eq_false (by omega)) ?_ | refine brP_t (nd_t (by omega)) ?_ | refine brP_f (nd_f (by omega)) ?_ | ((conv in (opS _ _ _ _) => whnf); rw [Int.toNat_natCast, hget]) | ((conv in (opM _ _ _ _ _) => whnf); (conv in (opS _ _ _ _) => whnf); rw [Int.toNat_natCast, hget]) | ((conv in (opS _ _ _ _) => whnf); rw [Int.toNat_natCast, hget2]) | ((conv in (opM _ _ _ _ _) => whnf); (conv in (opS _ _ _ _) => whnf); rw [Int.toNat_natCast, hget2]) | ((rw [hw2])) | refine brP_f (chg_eq k a b s i0) ?_ | refine wpfS_seq1 ?_ | refine wpfS_go ?_ | fail) <;> conv => whnf)
      exact ⟨i + 1, 0, ⟨hi', by rw [e1, e2, hpre]⟩, (show l.length - (i + 1) < l.length - i by omega), ⟨rfl, rfl, rfl, trivial⟩, Nat.le_refl _, rfl, rfl, rfl⟩
    · have hne : sameC l m = false := decide_eq_false fun e => he (by subst e; rfl)
      rw [hne]
      generalize hcc : l[i] = c at *
      generalize hdd : m[i] = d at *
      obtain ⟨k, a, b, s, i0⟩ := c
      obtain ⟨k', a', b', s', i1⟩ := d
      rw [chgrow] at hget hget2
      repeat' ((first | refine brP_t (by assumption) ?_ | refine brP_f (by assumption) ?_ | refine brP_t (decide_eq_true (by omega)) ?_ | refine brP_f (decide_eq_false (by omega)) ?_ | refine brP_t (nd_t (by omega)) ?_ | refine brP_f (nd_f (by omega)) ?_ | ((conv in (opS _ _ _ _) => whnf); rw [Int.toNat_natCast, hget]) | ((conv in (opM _ _ _ _ _) => whnf); (conv in (opS _ _ _ _) => whnf); rw [Int.toNat_natCast, hget]) | ((conv in (opS _ _ _ _) => whnf); rw [Int.toNat_natCast, hget2]) | ((conv in (opM _ _ _ _ _) => whnf); (conv in (opS _ _ _ _) => whnf); rw [Int.toNat_natCast, hget2]) | refine brP_t (chg_ne he) ?_ | refine wpfS_seq1 ?_ | refine wpfS_go ?_ | fail) <;> conv => whnf)
      rfl
  · have hi' : i = l.length := by have := of_decide_eq_false h; omega
    subst hi'
    clear h
    have : sameC l m = true := decide_eq_true (by rw [List.take_length, h0, List.take_length] at hpre; exact hpre)
    rw [this]
    repeat' ((first | refine brP_t (by assumption) ?_ | refine brP_f (by assumption) ?_ | refine brP_t (decide_eq_true (by omega)) ?_ | refine brP_f (decide_eq_false (by omega)) ?_ | refine brP_t (nd_t (by omega)) ?_ | refine brP_f (nd_f (by omega)) ?_ | refine wpfS_seq1 ?_ | refine wpfS_go ?_ | fail) <;> conv => whnf)
    rfl
end Go.Ab.S

namespace Go.Ab.S
open Go Go.Ab Go.Proofs
attribute [local irreducible] SemS
set_option maxRecDepth 100000
end Go.Ab.S
