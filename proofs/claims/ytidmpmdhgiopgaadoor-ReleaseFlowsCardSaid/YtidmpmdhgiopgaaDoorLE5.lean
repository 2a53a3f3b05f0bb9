/- ReleaseFlows and ReleaseAll. No condition. -/
import Derived.Test.YtidmpmdhgiopgaaDoorLE4
set_option linter.unusedSimpArgs false
set_option linter.unusedVariables false
namespace Go.Ab.S
open Go Go.Ab Go.Proofs
attribute [local irreducible] SemS
set_option maxRecDepth 100000
/-! ### What is used -/
def usedN (s i s' i' : Nat) : Nat := diffN s s' ||| diffN i' i
theorem used_lt {s i s' i' : Nat} : usedN s i s' i' < 65536 := or_lt diffN_lt diffN_lt
theorem diff_wrap {a b : Nat} : IntKind.u16.wrap ((BitVec.ofInt IntKind.u16.bits (a : Int) &&& ~~~BitVec.ofInt IntKind.u16.bits (b : Int)).toNat : Int) = ((diffN a b : Nat) : Int) := wrapN16 diffN_lt
theorem caps_union_ok (a b : Nat) (ha : a < 65536) (hb : b < 65536) : EvP PR G f_caps_union [slv [[.int .u16 a], [.int .u16 b]]] (uv ((a ||| b : Nat) : Int)) := by
  have h1 := or16 (a := 0) (b := a) (by omega) ha
  have h2 := or16 (a := a) (b := b) ha hb
  rw [Nat.zero_or] at h1
  refine EvP.of_wpf true hm c_caps_union rfl ?_
  conv => whnf
  repeat' ((first | refine brP_t (by assumption) ?_ | refine brP_f (by assumption) ?_ | refine SemS.loop1 true hm ?_ | refine brP_mk (fun h => ?_) (fun h => ?_) | fail) <;> conv => whnf)
  have h1' : IntKind.u16.wrap ((BitVec.ofInt IntKind.u16.bits (0 : Int) ||| BitVec.ofInt IntKind.u16.bits (a : Int)).toNat : Int) = (a : Int) := h1
  show uv (IntKind.u16.wrap ((BitVec.ofInt IntKind.u16.bits (IntKind.u16.wrap ((BitVec.ofInt IntKind.u16.bits (0 : Int) ||| BitVec.ofInt IntKind.u16.bits (a : Int)).toNat : Int)) ||| BitVec.ofInt IntKind.u16.bits (b : Int)).toNat : Int)) = _
  rw [h1']
  exact congrArg uv h2
theorem caps_Used_ok (s i s' i' : Nat) (h1 : s < 65536) (h2 : i < 65536) (h3 : s' < 65536) (h4 : i' < 65536) : EvP PR G f_caps_Used [lab s i, lab s' i'] (uv (usedN s i s' i')) := by
  have c1 := caps_union_ok (diffN s s') (diffN i' i) diffN_lt diffN_lt
  rw [← diff_wrap, ← diff_wrap] at c1
  refine EvP.of_wpf false hm c_caps_Used rfl ?_
  refine wpf_seq1 ?_
  conv => whnf
  repeat' ((first | refine brP_t (by assumption) ?_ | refine brP_f (by assumption) ?_ | refine brP_t (decide_eq_true (by omega)) ?_ | refine brP_f (decide_eq_false (by omega)) ?_ | refine brP_t (nd_t (by omega)) ?_ | refine brP_f (nd_f (by omega)) ?_ | refine callK_p c1 ?_ | refine callM_p c1 rfl ?_ | refine callK_pf rfl c1 ?_ | refine callK_pk rfl c1 ?_ | refine wpfS_seq1 ?_ | refine wpfS_go ?_ | fail) <;> conv => whnf)
  rfl
theorem caps_Flows_ok (s i s' i' c : Nat) (h1 : s < 65536) (h2 : i < 65536) (h3 : s' < 65536) (h4 : i' < 65536) (h5 : c < 65536) : EvP PR G f_caps_Flows [lab s i, lab s' i', uv c] (bv (subB (usedN s i s' i') c)) := by
  have c1 := caps_Used_ok s i s' i' h1 h2 h3 h4
  have c2 := tagset_Sub_ok (usedN s i s' i') c used_lt h5
  refine EvP.of_wpf false hm c_caps_Flows rfl ?_
  refine wpf_seq1 ?_
  conv => whnf
  repeat' ((first | refine brP_t (by assumption) ?_ | refine brP_f (by assumption) ?_ | refine brP_t (decide_eq_true (by omega)) ?_ | refine brP_f (decide_eq_false (by omega)) ?_ | refine brP_t (nd_t (by omega)) ?_ | refine brP_f (nd_f (by omega)) ?_ | refine callK_p c1 ?_ | refine callM_p c1 rfl ?_ | refine callK_pf rfl c1 ?_ | refine callK_pk rfl c1 ?_ | refine callK_p c2 ?_ | refine callM_p c2 rfl ?_ | refine callK_pf rfl c2 ?_ | refine callK_pk rfl c2 ?_ | refine wpfS_seq1 ?_ | refine wpfS_go ?_ | fail) <;> conv => whnf)
  rfl
theorem used_bit {s i s' i' j : Nat} (h1 : s < 65536) (h2 : i < 65536) (h3 : s' < 65536) (h4 : i' < 65536) (hj : j < 16) : (usedN s i s' i').testBit j = ((s.testBit j && !s'.testBit j) || (i'.testBit j && !i.testBit j)) := by
  rw [usedN, Nat.testBit_or, diffN_bit h1 h3 hj, diffN_bit h4 h2 hj]
/-- What flowed by what it used flows, all mapped. -/
theorem used_img {M : Nat → Nat} {s i s' i' more : Nat} (h1 : s < 65536) (h2 : i < 65536) (h3 : s' < 65536) (h4 : i' < 65536) : subB (usedN (setN M s) (setN M i) (setN M s') (setN M i')) (setN M (usedN s i s' i' ||| more)) = true := by
  refine (subB_iff used_lt setN_lt).2 fun j hj hb => ?_
  rw [used_bit setN_lt setN_lt setN_lt setN_lt hj, Bool.or_eq_true, Bool.and_eq_true, Bool.and_eq_true] at hb
  rw [setN_bit]
  have key : ∀ {a b : Nat}, (setN M a).testBit j = true → (!(setN M b).testBit j) = true → ∃ t, t < 16 ∧ (a.testBit t = true ∧ b.testBit t = false) ∧ M t = j := fun {a b} ha hb => by
    obtain ⟨-, t, t1, t2, t3⟩ := setN_bit.1 ha
    refine ⟨t, t1, ⟨t2, ?_⟩, t3⟩
    cases hbt : b.testBit t with
    | false => rfl
    | true =>
      have : (setN M b).testBit j = true := setN_bit.2 ⟨hj, t, t1, hbt, t3⟩
      rw [this] at hb; cases hb
  rcases hb with ⟨ha, hb⟩ | ⟨ha, hb⟩
  · obtain ⟨t, t1, ⟨t2, t3⟩, t4⟩ := key ha hb
    refine ⟨hj, t, t1, ?_, t4⟩
    rw [Nat.testBit_or, used_bit h1 h2 h3 h4 t1, t2, t3]; rfl
  · obtain ⟨t, t1, ⟨t2, t3⟩, t4⟩ := key ha hb
    refine ⟨hj, t, t1, ?_, t4⟩
    rw [Nat.testBit_or, used_bit h1 h2 h3 h4 t1, t2, t3, Bool.not_false, Bool.and_true, Bool.or_true]; rfl
set_option maxHeartbeats 8000000 in
theorem releaseFlows_ok (s i s' i' more : Nat) (h1 : s < 65536) (h2 : i < 65536) (h3 : s' < 65536) (h4 : i' < 65536) (h5 : more < 65536) (l : List (Int × Int)) (hl63 : l.length < 2 ^ 63) : EvP PR G f_L32_ReleaseFlows [lab s i, lab s' i', uv more, slv (prows l)] (bv true) := by
  have hlen : (prows l).length = l.length := by simp [prows]
  refine EvP.of_wpf false hm c_L32_ReleaseFlows rfl ?_
  refine wpf_seq1 ?_
  conv => whnf
  by_cases h20 : 20 < l.length
  · repeat' ((first | refine brP_t (by assumption) ?_ | refine brP_f (by assumption) ?_ | refine brP_t (decide_eq_true (by omega)) ?_ | refine brP_f (decide_eq_false (by omega)) ?_ | refine brP_t (nd_t (by omega)) ?_ | refine brP_f (nd_f (by omega)) ?_ | ((rw [hlen])) | refine callK_p L32_alive_ok ?_ | refine callM_p L32_alive_ok rfl ?_ | refine callK_pf rfl L32_alive_ok ?_ | refine callK_pk rfl L32_alive_ok ?_ | refine wpfS_seq1 ?_ | refine wpfS_go ?_ | fail) <;> conv => whnf)
    rfl
  have hM : mapOk (madeN l) := fun i hi => by have := made_lt l i hi; omega
  have c0 := R04_Made_ok l (by omega)
  generalize madeN l = M at *
  have c1 := caps_Used_ok s i s' i' h1 h2 h3 h4
  have hor := or16 (a := usedN s i s' i') (b := more) used_lt h5
  have hmo : (⟨0, 0, s, i, 0, usedN s i s' i' ||| more, []⟩ : Msg).Ok := ⟨⟨by show (-9223372036854775808 : Int) ≤ 0; decide, by show (0 : Int) < 9223372036854775808; decide⟩, ⟨by show (-9223372036854775808 : Int) ≤ 0; decide, by show (0 : Int) < 9223372036854775808; decide⟩, h1, h2, ⟨by show (-9223372036854775808 : Int) ≤ 0; decide, by show (0 : Int) < 9223372036854775808; decide⟩, or_lt used_lt h5⟩
  have c2 := release_AsItIs_ok M hM 1 _ hmo
  have hx : asIt M 1 ⟨0, 0, s, i, 0, usedN s i s' i' ||| more, []⟩ = ⟨0, 0, setN M s, setN M i, 0, setN M (usedN s i s' i' ||| more), []⟩ := if_neg (by show ¬ (0 : Int) = 1; decide)
  rw [hx] at c2
  have c3 := relabel_Label_ok M hM s' i' h3 h4
  have c4 := caps_Flows_ok (setN M s) (setN M i) (setN M s') (setN M i') (setN M (usedN s i s' i' ||| more)) setN_lt setN_lt setN_lt setN_lt setN_lt
  rw [used_img h1 h2 h3 h4] at c4
  have hmo2 : (⟨0, 1, s, i, 0, 0, []⟩ : Msg).Ok := ⟨hmo.no, ⟨by show (-9223372036854775808 : Int) ≤ 1; decide, by show (1 : Int) < 9223372036854775808; decide⟩, h1, h2, hmo.role, by show 0 < 65536; decide⟩
  have c5 := release_AsItIs_ok M hM 1 _ hmo2
  have hx2 : asIt M 1 ⟨0, 1, s, i, 0, 0, []⟩ = ⟨0, 1, s, i, 0, 0, []⟩ := if_pos rfl
  rw [hx2] at c5
  have e1 := lab_self s i
  have hor' : IntKind.u16.wrap ((BitVec.ofInt IntKind.u16.bits ((usedN s i s' i' : Nat) : Int) ||| BitVec.ofInt IntKind.u16.bits (more : Int)).toNat : Int) = ((usedN s i s' i' ||| more : Nat) : Int) := hor
  generalize setN M (usedN s i s' i' ||| more) = u2 at *
  generalize usedN s i s' i' ||| more = u1 at *
  repeat' ((first | refine brP_t (by assumption) ?_ | refine brP_f (by assumption) ?_ | refine brP_t (decide_eq_true (by omega)) ?_ | refine brP_f (decide_eq_false (by omega)) ?_ | refine brP_t (nd_t (by omega)) ?_ | refine brP_f (nd_f (by omega)) ?_ | ((rw [hlen])) | ((rw [hor'])) | ((rw [e1])) | refine wpfS_seq1 ?_ | refine wpfS_go ?_ | fail) <;> conv => whnf)
  (first | refine callK_p c0 ?_ | refine callM_p c0 rfl ?_ | refine callK_pf rfl c0 ?_ | refine callK_pk rfl c0 ?_)
  conv => whnf
  repeat' ((first | refine brP_t (by assumption) ?_ | refine brP_f (by assumption) ?_ | refine brP_t (decide_eq_true (by omega)) ?_ | refine brP_f (decide_eq_false (by omega)) ?_ | refine brP_t (nd_t (by omega)) ?_ | refine brP_f (nd_f (by omega)) ?_ | ((rw [hlen])) | ((rw [hor'])) | ((rw [e1])) | refine wpfS_seq1 ?_ | refine wpfS_go ?_ | fail) <;> conv => whnf)
  (first | refine callK_p c1 ?_ | refine callM_p c1 rfl ?_ | refine callK_pf rfl c1 ?_ | refine callK_pk rfl c1 ?_)
  conv => whnf
  repeat' ((first | refine brP_t (by assumption) ?_ | refine brP_f (by assumption) ?_ | refine brP_t (decide_eq_true (by omega)) ?_ | refine brP_f (decide_eq_false (by omega)) ?_ | refine brP_t (nd_t (by omega)) ?_ | refine brP_f (nd_f (by omega)) ?_ | ((rw [hlen])) | ((rw [hor'])) | ((rw [e1])) | refine wpfS_seq1 ?_ | refine wpfS_go ?_ | fail) <;> conv => whnf)
  (first | refine callK_p c2 ?_ | refine callM_p c2 rfl ?_ | refine callK_pf rfl c2 ?_ | refine callK_pk rfl c2 ?_)
  conv => whnf
  repeat' ((first | refine brP_t (by assumption) ?_ | refine brP_f (by assumption) ?_ | refine brP_t (decide_eq_true (by omega)) ?_ | refine brP_f (decide_eq_false (by omega)) ?_ | refine brP_t (nd_t (by omega)) ?_ | refine brP_f (nd_f (by omega)) ?_ | ((rw [hlen])) | ((rw [hor'])) | ((rw [e1])) | refine wpfS_seq1 ?_ | refine wpfS_go ?_ | fail) <;> conv => whnf)
  (first | refine callK_p c3 ?_ | refine callM_p c3 rfl ?_ | refine callK_pf rfl c3 ?_ | refine callK_pk rfl c3 ?_)
  conv => whnf
  repeat' ((first | refine brP_t (by assumption) ?_ | refine brP_f (by assumption) ?_ | refine brP_t (decide_eq_true (by omega)) ?_ | refine brP_f (decide_eq_false (by omega)) ?_ | refine brP_t (nd_t (by omega)) ?_ | refine brP_f (nd_f (by omega)) ?_ | ((rw [hlen])) | ((rw [hor'])) | ((rw [e1])) | refine wpfS_seq1 ?_ | refine wpfS_go ?_ | fail) <;> conv => whnf)
  (first | refine callK_p c4 ?_ | refine callM_p c4 rfl ?_ | refine callK_pf rfl c4 ?_ | refine callK_pk rfl c4 ?_)
  conv => whnf
  repeat' ((first | refine brP_t (by assumption) ?_ | refine brP_f (by assumption) ?_ | refine brP_t (decide_eq_true (by omega)) ?_ | refine brP_f (decide_eq_false (by omega)) ?_ | refine brP_t (nd_t (by omega)) ?_ | refine brP_f (nd_f (by omega)) ?_ | ((rw [hlen])) | ((rw [hor'])) | ((rw [e1])) | refine wpfS_seq1 ?_ | refine wpfS_go ?_ | fail) <;> conv => whnf)
  (first | refine callK_p c5 ?_ | refine callM_p c5 rfl ?_ | refine callK_pf rfl c5 ?_ | refine callK_pk rfl c5 ?_)
  conv => whnf
  repeat' ((first | refine brP_t (by assumption) ?_ | refine brP_f (by assumption) ?_ | refine brP_t (decide_eq_true (by omega)) ?_ | refine brP_f (decide_eq_false (by omega)) ?_ | refine brP_t (nd_t (by omega)) ?_ | refine brP_f (nd_f (by omega)) ?_ | ((rw [hlen])) | ((rw [hor'])) | ((rw [e1])) | refine wpfS_seq1 ?_ | refine wpfS_go ?_ | fail) <;> conv => whnf)
  (first | refine callK_p L32_alive_ok ?_ | refine callM_p L32_alive_ok rfl ?_ | refine callK_pf rfl L32_alive_ok ?_ | refine callK_pk rfl L32_alive_ok ?_)
  conv => whnf
  repeat' ((first | refine brP_t (by assumption) ?_ | refine brP_f (by assumption) ?_ | refine brP_t (decide_eq_true (by omega)) ?_ | refine brP_f (decide_eq_false (by omega)) ?_ | refine brP_t (nd_t (by omega)) ?_ | refine brP_f (nd_f (by omega)) ?_ | ((rw [hlen])) | ((rw [hor'])) | ((rw [e1])) | refine wpfS_seq1 ?_ | refine wpfS_go ?_ | fail) <;> conv => whnf)
  rfl
end Go.Ab.S
