/- Part of a proof; no condition. -/
import Derived.Test.YtjdkjlmcnpjohaaDoorPolP22
set_option linter.unusedSimpArgs false
set_option linter.unusedVariables false
namespace Go.Ab.S
open Go Go.Ab Go.Proofs
attribute [local irreducible] SemS
set_option maxRecDepth 100000
/-! ### What a mapped policy is like -/
section
variable {M : Nat → Nat} {p : Pol}
theorem map_ok (hp : p.Ok) : (mapP M p).Ok := by
  refine ⟨hp.live, fun r h => ?_, fun r h => ?_, hp.acts, fun r h => ?_, diffN_lt⟩
  · show (if p.live.testBit r then setN M (p.ls r) else p.ls r) < 65536
    split
    · exact setN_lt
    · exact hp.ls r h
  · show (if p.live.testBit r then setN M (p.li r) else p.li r) < 65536
    split
    · exact setN_lt
    · exact hp.li r h
  · show (if (movedN M).testBit r then 16 else p.own r) ≤ 255
    split
    · omega
    · exact hp.own r h
theorem mend_clean (p : Pol) : Clean (mendP p) := fun r _ h => by
  have h : p.live.testBit r = false := h
  refine ⟨?_, ?_⟩
  · show (if p.live.testBit r then p.ls r &&& p.active else 0) = 0
    rw [h]; rfl
  · show (if p.live.testBit r then p.li r &&& p.active else 0) = 0
    rw [h]; rfl
theorem clean_map (hc : Clean p) : Clean (mapP M p) := fun r hr h => by
  have h : p.live.testBit r = false := h
  refine ⟨?_, ?_⟩
  · show (if p.live.testBit r then setN M (p.ls r) else p.ls r) = 0
    rw [h, if_neg (by simp)]; exact (hc r hr h).1
  · show (if p.live.testBit r then setN M (p.li r) else p.li r) = 0
    rw [h, if_neg (by simp)]; exact (hc r hr h).2
theorem map_idem (hf : fineB M = true) : (mapP M (mapP M p)).row = (mapP M p).row := by
  refine Pol.row_ext rfl (fun r hr => ?_) (fun r hr => ?_) (fun _ _ => rfl) (fun t ht => ?_) ?_
  · show (if p.live.testBit r then setN M (if p.live.testBit r then setN M (p.ls r) else p.ls r) else (if p.live.testBit r then setN M (p.ls r) else p.ls r)) = if p.live.testBit r then setN M (p.ls r) else p.ls r
    split
    · exact setN_idem hf
    · rfl
  · show (if p.live.testBit r then setN M (if p.live.testBit r then setN M (p.li r) else p.li r) else (if p.live.testBit r then setN M (p.li r) else p.li r)) = if p.live.testBit r then setN M (p.li r) else p.li r
    split
    · exact setN_idem hf
    · rfl
  · show (if (movedN M).testBit t then 16 else if (movedN M).testBit t then 16 else p.own t) = if (movedN M).testBit t then 16 else p.own t
    split <;> rfl
  · show diffN (diffN p.active (movedN M)) (movedN M) = diffN p.active (movedN M)
    refine set_ext diffN_lt diffN_lt fun j hj => ?_
    by_cases ha : p.active < 65536
    · rw [diffN_bit diffN_lt movedN_lt hj, diffN_bit ha movedN_lt hj]
      cases p.active.testBit j <;> cases (movedN M).testBit j <;> rfl
    · rw [diffN_bit diffN_lt movedN_lt hj]
      have : (diffN p.active (movedN M)).testBit j = true → (movedN M).testBit j = false := fun h => by
        unfold diffN at h
        rw [BitVec.toNat_and, Nat.testBit_and, Bool.and_eq_true] at h
        have h2 := h.2
        rw [← BitVec.getLsbD, BitVec.getLsbD_not] at h2
        simp only [Bool.and_eq_true, Bool.not_eq_true'] at h2
        have h3 := h2.2
        rw [BitVec.getLsbD, bv16 movedN_lt] at h3
        exact h3
      cases h : (diffN p.active (movedN M)).testBit j with
      | false => rfl
      | true => rw [this h]; rfl
theorem map_id (hp : p.Ok) : (mapP id p).row = p.row := by
  have hm0 : movedN id = 0 := set_ext movedN_lt (by omega) fun j hj => by rw [moved_bit hj, Nat.zero_testBit]; simp
  refine Pol.row_ext rfl (fun r hr => ?_) (fun r hr => ?_) (fun _ _ => rfl) (fun t ht => ?_) ?_
  · show (if p.live.testBit r then setN id (p.ls r) else p.ls r) = p.ls r
    rw [setN_id (M := id) (fun _ _ => rfl) (hp.ls r hr)]; split <;> rfl
  · show (if p.live.testBit r then setN id (p.li r) else p.li r) = p.li r
    rw [setN_id (M := id) (fun _ _ => rfl) (hp.li r hr)]; split <;> rfl
  · show (if (movedN id).testBit t then 16 else p.own t) = p.own t
    rw [hm0, Nat.zero_testBit]; rfl
  · show diffN p.active (movedN id) = p.active
    refine set_ext diffN_lt hp.active fun j hj => ?_
    rw [diffN_bit hp.active movedN_lt hj, hm0, Nat.zero_testBit]; simp
theorem map_fine (hp : p.Ok) (hf : fineP p = true) (hc : Clean p) (hM : fineB M = true) (hg : ∀ t, t < 16 → M t ≠ t → p.active.testBit (M t) = true) : fineP (mapP M p) = true := by
  unfold fineP at hf
  rw [Bool.and_eq_true] at hf
  obtain ⟨f1, f2⟩ := hf
  rw [fineB_iff] at hM
  have e4 : (mapP M p).live = p.live := rfl
  have e5 : (mapP M p).active = diffN p.active (movedN M) := rfl
  have e3 : ∀ r, (mapP M p).acts r = p.acts r := fun _ => rfl
  unfold fineP
  rw [all16_t fun r hr => ?_, all16_t fun t ht => ?_]
  · rfl
  · have h := all16_at f2 ht
    have e : (mapP M p).own t = if (movedN M).testBit t then 16 else p.own t := rfl
    unfold ownB at h ⊢
    rw [e, e4, e5]
    cases hm : (movedN M).testBit t with
    | true => rw [if_pos rfl]; rfl
    | false =>
      rw [if_neg (by simp), diffN_bit hp.active movedN_lt ht, hm, Bool.not_false, Bool.and_true]
      exact h
  · have h := all16_at f1 hr
    unfold roleB at h ⊢
    have e1 : (mapP M p).ls r = if p.live.testBit r then setN M (p.ls r) else p.ls r := rfl
    have e2 : (mapP M p).li r = if p.live.testBit r then setN M (p.li r) else p.li r := rfl
    rw [e1, e2, e3, e4, e5]
    cases hb : p.live.testBit r with
    | false => rw [hb] at h; exact h
    | true =>
      rw [hb, if_pos rfl] at h
      rw [if_pos rfl, if_pos rfl, if_pos rfl]
      rw [Bool.and_eq_true] at h
      rw [h.2, Bool.and_true, ← setN_or]
      have h1 := (subB_iff (or_lt (hp.ls r hr) (hp.li r hr)) hp.active).1 h.1
      refine (subB_iff setN_lt diffN_lt).2 fun j hj hbit => ?_
      rw [setN_bit] at hbit
      obtain ⟨-, t, ht, hbt, rfl⟩ := hbit
      rw [diffN_bit hp.active movedN_lt hj, moved_bit hj, decide_eq_false (by simp [(hM t ht).2])]
      rw [Bool.not_false, Bool.and_true]
      by_cases hmt : M t = t
      · rw [hmt]; exact h1 t ht hbt
      · exact hg t ht hmt
end
end Go.Ab.S
