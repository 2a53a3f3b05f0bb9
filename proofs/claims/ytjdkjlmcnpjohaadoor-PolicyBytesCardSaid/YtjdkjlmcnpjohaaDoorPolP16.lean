/- What policies that may be are like; what a mended one is, one without unseen roles, and one seen from above. No condition. -/
import Derived.Test.YtjdkjlmcnpjohaaDoorPolP15
set_option linter.unusedSimpArgs false
set_option linter.unusedVariables false
namespace Go.Ab.S
open Go Go.Ab Go.Proofs
theorem mend_ok {p : Pol} (hp : p.Ok) : (mendP p).Ok := by
  refine ⟨hp.live, fun r h => ?_, fun r h => ?_, fun r h => ?_, fun r h => ?_, hp.active⟩
  · show (if p.live.testBit r then p.ls r &&& p.active else 0) < 65536
    split
    · exact and_lt (hp.ls r h)
    · omega
  · show (if p.live.testBit r then p.li r &&& p.active else 0) < 65536
    split
    · exact and_lt (hp.li r h)
    · omega
  · show (if p.live.testBit r then lessN (p.acts r &&& p.live) (2 ^ r) else 0) < 65536
    split
    · exact less_lt
    · omega
  · show (if hasN p.live (p.own r) && p.active.testBit r then p.own r else 16) ≤ 255
    split
    · exact hp.own r h
    · omega
theorem has_lt {s o : Nat} (h : hasN s o = true) : o < 16 := by
  unfold hasN at h
  simp only [Bool.and_eq_true, decide_eq_true_eq] at h
  omega
theorem has16 (s : Nat) : hasN s (16 : Nat) = false := by
  unfold hasN
  rw [decide_eq_false (show ¬ ((16 : Nat) : Int) ≤ 15 by omega), Bool.and_false]; rfl
theorem mend_fine {p : Pol} (hp : p.Ok) : fineP (mendP p) = true := by
  unfold fineP
  rw [all16_t fun r hr => ?_, all16_t fun t ht => ?_]
  · rfl
  · have e : (mendP p).own t = if hasN p.live (p.own t) && p.active.testBit t then p.own t else 16 := rfl
    unfold ownB
    rw [e]
    cases h : hasN p.live (p.own t) && p.active.testBit t with
    | true =>
      rw [if_pos rfl]
      rw [show (hasN (mendP p).live (p.own t) && (mendP p).active.testBit t) = true from h, Bool.or_true]
    | false => rw [if_neg (by simp)]; rfl
  · unfold roleB
    have e1 : (mendP p).ls r = if p.live.testBit r then p.ls r &&& p.active else 0 := rfl
    have e2 : (mendP p).li r = if p.live.testBit r then p.li r &&& p.active else 0 := rfl
    have e3 : (mendP p).acts r = if p.live.testBit r then lessN (p.acts r &&& p.live) (2 ^ r) else 0 := rfl
    have e4 : (mendP p).live = p.live := rfl
    have e5 : (mendP p).active = p.active := rfl
    rw [e1, e2, e3, e4, e5]
    cases h : p.live.testBit r with
    | true =>
      rw [if_pos rfl, if_pos rfl, if_pos rfl, if_pos rfl]
      have a1 : subB (p.ls r &&& p.active ||| p.li r &&& p.active) p.active = true := (subB_iff (or_lt (and_lt (hp.ls r hr)) (and_lt (hp.li r hr))) hp.active).2 fun j _ hj => by
        rw [Nat.testBit_or, Nat.testBit_and, Nat.testBit_and] at hj
        cases hb : p.active.testBit j with
        | true => rfl
        | false => rw [hb] at hj; simp at hj
      have a2 : subB (lessN (p.acts r &&& p.live) (2 ^ r)) p.live = true := (subB_iff less_lt hp.live).2 fun j hj16 hj => by
        rw [less_bit hj16, Nat.testBit_and] at hj
        cases hb : p.live.testBit j with
        | true => rfl
        | false => rw [hb] at hj; simp at hj
      have a3 : (lessN (p.acts r &&& p.live) (2 ^ r)).testBit r = false := by
        rw [less_bit hr, Nat.testBit_two_pow, decide_eq_true rfl]; simp
      rw [a1, a2, a3]; rfl
    | false => rfl
/-! ### Without some roles -/
theorem succ_cut {W : Nat} {g : Nat → Nat} {a b : Nat} (hb : b < 16) : succB W (cutA W g) a b = succB W g a b := by
  show (W.testBit a && (W.testBit b && (setOf (succB W g a) 16).testBit b)) = succB W g a b
  rw [setOf_bit' _ hb]
  unfold succB
  cases W.testBit a <;> cases W.testBit b <;> rfl
theorem rch_cut {W : Nat} {g : Nat → Nat} {s j : Nat} : Rch W (cutA W g) s j ↔ Rch W g s j := by
  constructor
  · intro h
    induction h with
    | start hr hs hW => exact .start hr hs hW
    | step h hb hs ih => exact .step ih hb (by rw [succ_cut hb] at hs; exact hs)
  · intro h
    induction h with
    | start hr hs hW => exact .start hr hs hW
    | step h hb hs ih => exact .step ih hb (by rw [succ_cut hb]; exact hs)
theorem cutA_lt {W : Nat} {g : Nat → Nat} {a : Nat} : cutA W g a < 65536 := setOf_lt _ (Nat.le_refl 16)
theorem down_cut {W : Nat} {g : Nat → Nat} (hg : ∀ r, r < 16 → g r < 65536) {s : Nat} : downN W (cutA W g) s = downN W g s := by
  refine set_ext downN_lt downN_lt fun j _ => ?_
  have h : (downN W (cutA W g) s).testBit j = true ↔ (downN W g s).testBit j = true := by
    rw [downN_iff fun _ _ => cutA_lt, downN_iff hg, rch_cut]
  cases h1 : (downN W g s).testBit j with
  | true => exact h.2 h1
  | false =>
    cases h2 : (downN W (cutA W g) s).testBit j with
    | false => rfl
    | true => rw [h.1 h2] at h1; cases h1
section
variable {p : Pol} {S : Nat}
theorem cut_ok (hp : p.Ok) (hS : S < 65536) : (cutS p S).Ok := by
  refine ⟨hS, fun r h => ?_, fun r h => ?_, fun r h => cutA_lt, fun r h => ?_, hp.active⟩
  · show (if S.testBit r then p.ls r else 0) < 65536
    split
    · exact hp.ls r h
    · omega
  · show (if S.testBit r then p.li r else 0) < 65536
    split
    · exact hp.li r h
    · omega
  · show (if hasN S (p.own r) then p.own r else 16) ≤ 255
    split
    · exact hp.own r h
    · omega
theorem cut_fine (hp : p.Ok) (hf : fineP p = true) (hS : S < 65536) (hsub : ∀ j, S.testBit j = true → p.live.testBit j = true) : fineP (cutS p S) = true := by
  unfold fineP at hf
  simp only [Bool.and_eq_true] at hf
  obtain ⟨f1, f2⟩ := hf
  unfold fineP
  rw [all16_t fun r hr => ?_, all16_t fun t ht => ?_]
  · rfl
  · have h := all16_at f2 ht
    have e : (cutS p S).own t = if hasN S (p.own t) then p.own t else 16 := rfl
    unfold ownB at h ⊢
    rw [e]
    cases hh : hasN S (p.own t) with
    | false => rw [if_neg (by simp)]; rfl
    | true =>
      rw [if_pos rfl]
      have e4 : (cutS p S).live = S := rfl
      have e5 : (cutS p S).active = p.active := rfl
      rw [e4, e5, hh]
      have hne : p.own t ≠ 16 := fun e => by rw [e, has16] at hh; cases hh
      rw [decide_eq_false hne, Bool.false_or, Bool.and_eq_true] at h
      rw [h.2]; simp
  · have h := all16_at f1 hr
    unfold roleB at h ⊢
    have e1 : (cutS p S).ls r = if S.testBit r then p.ls r else 0 := rfl
    have e2 : (cutS p S).li r = if S.testBit r then p.li r else 0 := rfl
    have e3 : (cutS p S).acts r = cutA S p.acts r := rfl
    have e4 : (cutS p S).live = S := rfl
    have e5 : (cutS p S).active = p.active := rfl
    rw [e1, e2, e3, e4, e5]
    cases hb : S.testBit r with
    | true =>
      rw [hsub r hb, if_pos rfl] at h
      simp only [Bool.and_eq_true] at h
      rw [if_pos rfl, if_pos rfl, if_pos rfl, h.1]
      have a2 : subB (cutA S p.acts r) S = true := (subB_iff cutA_lt hS).2 fun j hj16 hj => by
        unfold cutA at hj
        rw [setOf_bit' _ hj16] at hj
        simp only [succB, Bool.and_eq_true] at hj
        exact hj.2.1
      have a3 : (cutA S p.acts r).testBit r = false := by
        unfold cutA
        rw [setOf_bit' _ hr]
        have := h.2.2
        simp only [Bool.not_eq_true'] at this
        unfold succB
        rw [this]; simp
      rw [a2, a3]; rfl
    | false =>
      have a : cutA S p.acts r = 0 := by
        refine set_ext cutA_lt (by omega) fun j hj => ?_
        unfold cutA
        rw [setOf_bit' _ hj, Nat.zero_testBit]
        unfold succB
        rw [hb]; rfl
      rw [a]; rfl
end
section
variable {p : Pol} {s i : Nat}
theorem seen_sub (j : Nat) (h : (seenN p s i).testBit j = true) : p.live.testBit j = true := by
  unfold seenN at h
  rw [setOf_bit] at h
  simp only [Bool.and_eq_true] at h
  exact h.2.1
theorem cut_seen : seenN (cutS p (seenN p s i)) s i = seenN p s i := by
  refine set_ext seenN_lt seenN_lt fun j hj => ?_
  show (setOf (fun r => (seenN p s i).testBit r && flowsB (if (seenN p s i).testBit r then p.ls r else 0) (if (seenN p s i).testBit r then p.li r else 0) s i) 16).testBit j = _
  rw [setOf_bit' _ hj]
  cases h : (seenN p s i).testBit j with
  | false => rfl
  | true =>
    rw [if_pos rfl, if_pos rfl]
    unfold seenN at h
    rw [setOf_bit' _ hj, Bool.and_eq_true] at h
    rw [h.2]; rfl
theorem cut_dwn (hp : p.Ok) {a : Int} : dwnN (cutS p (seenN p s i)) a s i = dwnN p a s i := by
  unfold dwnN
  rw [cut_seen]
  exact down_cut hp.acts
theorem dwn_seen (hp : p.Ok) {a : Int} {j : Nat} (h : (dwnN p a s i).testBit j = true) : (seenN p s i).testBit j = true := Rch.inW ((downN_iff hp.acts).1 h)
theorem cut_caps (hp : p.Ok) {a : Int} : capsN (cutS p (seenN p s i)) a s i = capsN p a s i := by
  unfold capsN
  rw [cut_dwn hp]
  refine set_ext (and_lt ownedN_lt) (and_lt ownedN_lt) fun j hj => ?_
  rw [Nat.testBit_and, Nat.testBit_and]
  congr 1
  unfold ownedN
  rw [setOf_bit' _ hj, setOf_bit' _ hj]
  have e : (cutS p (seenN p s i)).own j = if hasN (seenN p s i) (p.own j) then p.own j else 16 := rfl
  rw [e]
  cases h : hasN (seenN p s i) (p.own j) with
  | true => rw [if_pos rfl]
  | false =>
    rw [if_neg (by simp), has16]
    cases h2 : hasN (dwnN p a s i) (p.own j) with
    | false => rfl
    | true =>
      have hl := has_lt h2
      rw [hasN_nat hl] at h h2
      rw [dwn_seen hp h2] at h
      cases h
/-! ### Under a label above -/
theorem flows_trans {a b c d e f : Nat} (h1 : a < 65536) (h2 : b < 65536) (h3 : c < 65536) (h4 : d < 65536) (h5 : e < 65536) (h6 : f < 65536) (x : flowsB a b c d = true) (y : flowsB c d e f = true) : flowsB a b e f = true := by
  unfold flowsB at x y ⊢
  rw [Bool.and_eq_true, subB_iff h1 h3, subB_iff h4 h2] at x
  rw [Bool.and_eq_true, subB_iff h3 h5, subB_iff h6 h4] at y
  rw [Bool.and_eq_true, subB_iff h1 h5, subB_iff h6 h2]
  exact ⟨fun j hj h => y.1 j hj (x.1 j hj h), fun j hj h => x.2 j hj (y.2 j hj h)⟩
variable {s' i' : Nat}
theorem seen_more (hp : p.Ok) (hs : s < 65536) (hi : i < 65536) (hs' : s' < 65536) (hi' : i' < 65536) (hf : flowsB s i s' i' = true) {j : Nat} (h : (seenN p s i).testBit j = true) : (seenN p s' i').testBit j = true := by
  unfold seenN at h ⊢
  rw [setOf_bit] at h ⊢
  simp only [Bool.and_eq_true, decide_eq_true_eq] at h ⊢
  exact ⟨h.1, h.2.1, flows_trans (hp.ls j h.1) (hp.li j h.1) hs hi hs' hi' h.2.2 hf⟩
theorem rch_more {W W' : Nat} (hW : ∀ j, W.testBit j = true → W'.testBit j = true) {g : Nat → Nat} {o j : Nat} (h : Rch W g o j) : Rch W' g o j := by
  induction h with
  | start hr hs h => exact .start hr hs (hW _ h)
  | step h hb hs ih =>
    refine .step ih hb ?_
    simp only [succB, Bool.and_eq_true] at hs ⊢
    exact ⟨hW _ hs.1, hW _ hs.2.1, hs.2.2⟩
theorem caps_more (hp : p.Ok) (hs : s < 65536) (hi : i < 65536) (hs' : s' < 65536) (hi' : i' < 65536) (hf : flowsB s i s' i' = true) {a : Int} {j : Nat} (h : (capsN p a s i).testBit j = true) : (capsN p a s' i').testBit j = true := by
  unfold capsN ownedN at h ⊢
  rw [Nat.testBit_and, setOf_bit] at h ⊢
  simp only [Bool.and_eq_true, decide_eq_true_eq] at h ⊢
  refine ⟨⟨h.1.1, ?_⟩, h.2⟩
  have hl := has_lt h.1.2
  have h2 := h.1.2
  rw [hasN_nat hl] at h2 ⊢
  unfold dwnN at h2 ⊢
  rw [downN_iff hp.acts] at h2 ⊢
  exact rch_more (fun j hj => seen_more hp hs hi hs' hi' hf hj) h2
theorem sub_diff {a b : Nat} (ha : a < 65536) (hb : b < 65536) (h : ∀ j, a.testBit j = true → b.testBit j = true) : diffN a b = 0 := by
  refine set_ext diffN_lt (by omega) fun j hj => ?_
  rw [diffN_bit ha hb hj, Nat.zero_testBit]
  cases hx : a.testBit j with
  | false => rfl
  | true => rw [h j hx]; rfl
end
end Go.Ab.S
