/- What is hidden changes nothing that is seen. No condition. What is undone leaves all as it was. No condition. -/
import Derived.Test.YtidmpmdhgiopgaaDoorLCL
set_option linter.unusedSimpArgs false
set_option linter.unusedVariables false
namespace Go.Ab.S
open Go Go.Ab Go.Proofs
set_option maxRecDepth 100000
theorem Rch.mono {W s : Nat} {g g' : Nat → Nat} (h : ∀ a b, a < 16 → b < 16 → succB W g a b = true → succB W g' a b = true) {r : Nat} (hr : Rch W g s r) : Rch W g' s r := by
  induction hr with
  | start hr hs hW => exact .start hr hs hW
  | step h1 hb hs ih => exact .step ih hb (h _ _ h1.lt hb hs)
theorem downN_congr {W s : Nat} {g g' : Nat → Nat} (hg : ∀ r, r < 16 → g r < 65536) (hg' : ∀ r, r < 16 → g' r < 65536) (h : ∀ a b, a < 16 → b < 16 → succB W g a b = succB W g' a b) : downN W g s = downN W g' s := by
  refine set_ext downN_lt downN_lt fun j _ => ?_
  rw [Bool.eq_iff_iff, downN_iff hg, downN_iff hg']
  exact ⟨Rch.mono fun a b ha hb hs => (h a b ha hb) ▸ hs, Rch.mono fun a b ha hb hs => (h a b ha hb).symm ▸ hs⟩
theorem seenN_bit {p : Pol} {s i j : Nat} (hj : j < 16) : (seenN p s i).testBit j = (p.live.testBit j && flowsB (p.ls j) (p.li j) s i) := by rw [seenN, setOf_bit' _ hj]
/-- Two policies look alike under a set. -/
structure Alike (p q : Pol) (S : Nat) : Prop where
  ls : ∀ r, r < 16 → S.testBit r = true → p.ls r = q.ls r
  li : ∀ r, r < 16 → S.testBit r = true → p.li r = q.li r
  succ : ∀ a b, a < 16 → b < 16 → succB S p.acts a b = succB S q.acts a b
  own : ∀ t, t < 16 → p.own t = q.own t ∨ (hasN S (p.own t) = false ∧ hasN S (q.own t) = false)
  active : p.active = q.active
theorem cut_same {p q : Pol} {S : Nat} (h : Alike p q S) : (cutS p S).row = (cutS q S).row := by
  refine Pol.row_ext rfl (fun r hr => ?_) (fun r hr => ?_) (fun r hr => ?_) (fun t ht => ?_) h.active
  · show (if S.testBit r then p.ls r else 0) = if S.testBit r then q.ls r else 0
    by_cases hS : S.testBit r = true
    · rw [if_pos hS, if_pos hS, h.ls r hr hS]
    · rw [if_neg hS, if_neg hS]
  · show (if S.testBit r then p.li r else 0) = if S.testBit r then q.li r else 0
    by_cases hS : S.testBit r = true
    · rw [if_pos hS, if_pos hS, h.li r hr hS]
    · rw [if_neg hS, if_neg hS]
  · show setOf (succB S p.acts r) 16 = setOf (succB S q.acts r) 16
    refine set_ext (setOf_lt _ (Nat.le_refl 16)) (setOf_lt _ (Nat.le_refl 16)) fun j hj => ?_
    rw [setOf_bit' _ hj, setOf_bit' _ hj]
    exact h.succ r j hr hj
  · show (if hasN S (p.own t) then p.own t else 16) = if hasN S (q.own t) then q.own t else 16
    rcases h.own t ht with e | ⟨e1, e2⟩
    · rw [e]
    · rw [e1, e2]; rfl
theorem has_sub {D S : Nat} (h : ∀ j, D.testBit j = true → S.testBit j = true) {x : Int} (hx : hasN S x = false) : hasN D x = false := by
  unfold hasN at hx ⊢
  cases hd : D.testBit x.toNat with
  | false => rw [Bool.and_false]
  | true => rw [h _ hd] at hx; rw [hx]
theorem caps_same {p q : Pol} (hp : p.Ok) (hq : q.Ok) {s i : Nat} (hS : seenN p s i = seenN q s i) (h : Alike p q (seenN p s i)) (a : Int) : capsN p a s i = capsN q a s i := by
  have hd : dwnN p a s i = dwnN q a s i := by
    unfold dwnN
    rw [← hS]
    exact downN_congr hp.acts hq.acts h.succ
  have hsub : ∀ j, (dwnN q a s i).testBit j = true → (seenN p s i).testBit j = true := fun j hj => by
    rw [← hd] at hj
    exact ((downN_iff hp.acts).1 hj).inW
  unfold capsN
  rw [hd, h.active]
  congr 1
  refine set_ext ownedN_lt ownedN_lt fun t ht => ?_
  unfold ownedN
  rw [setOf_bit' _ ht, setOf_bit' _ ht]
  rcases h.own t ht with e | ⟨e1, e2⟩
  · rw [e]
  · rw [has_sub hsub e1, has_sub hsub e2]
theorem ne2 {p q : Pol} {x : Int} (h : (p, x) = (q, (0 : Int))) (hx : x ≠ 0) : False := hx (congrArg Prod.snd h)
theorem oneQ_inv {p q : Pol} {c : Chg} (h : oneQ p c = (q, 0)) : c.fine = true ∧ doQ p c = (q, 0) := by
  unfold oneQ at h
  cases hf : c.fine with
  | false => rw [hf, if_neg (by decide)] at h; exact (ne2 h (by decide)).elim
  | true =>
    rw [hf, if_pos rfl] at h
    by_cases he : (doQ p c).2 = 0
    · rw [if_pos he] at h; exact ⟨rfl, h⟩
    · rw [if_neg he] at h; exact absurd (congrArg Prod.snd h) he
theorem succ_upd {g : Nat → Nat} {S a b v : Nat} (hh : S.testBit a = false ∨ S.testBit b = false) (hv : ∀ y, y < 16 → y ≠ b → v.testBit y = (g a).testBit y) : ∀ x y, x < 16 → y < 16 → succB S g x y = succB S (updF g a v) x y := fun x y _ hy => by
  unfold succB
  by_cases hx : x = a
  · subst hx
    rw [upd_at]
    rcases hh with h | h
    · rw [h]; rfl
    · by_cases e : y = b
      · subst e; rw [h]; simp
      · rw [hv y hy e]
  · rw [upd_ne _ hx]
theorem add_inv {p q : Pol} {c : Chg} (h : addQ p c = (q, 0)) : hasN p.live c.a = false ∧ subB (c.s ||| c.i) p.active = true ∧ q = setLab (setLive p (p.live ||| 2 ^ c.a.toNat)) c.a.toNat c.s c.i := by
  unfold addQ at h
  cases h1 : hasN p.live c.a with
  | true => rw [h1, if_pos rfl] at h; exact (ne2 h (by decide)).elim
  | false =>
    rw [h1, if_neg (by decide)] at h
    cases h2 : subB (c.s ||| c.i) p.active with
    | false => rw [h2, if_neg (by decide)] at h; exact (ne2 h (by decide)).elim
    | true => rw [h2, if_pos rfl] at h; exact ⟨rfl, rfl, (congrArg Prod.fst h).symm⟩
theorem drop_inv {p q : Pol} {c : Chg} (h : dropQ p c = (q, 0)) : hasN p.live c.a = true ∧ q = dropP p c.a.toNat := by
  unfold dropQ at h
  cases h1 : hasN p.live c.a with
  | false => rw [h1, if_neg (by decide)] at h; exact (ne2 h (by decide)).elim
  | true => rw [h1, if_pos rfl] at h; exact ⟨rfl, (congrArg Prod.fst h).symm⟩
theorem link_inv {p q : Pol} {c : Chg} (h : linkQ p c = (q, 0)) : (hasN p.live c.a = true ∧ hasN p.live c.b = true) ∧ c.a ≠ c.b ∧ hasN (p.acts c.a.toNat) c.b = false ∧ q = setAct p c.a.toNat (p.acts c.a.toNat ||| 2 ^ c.b.toNat) := by
  unfold linkQ at h
  cases h1 : (hasN p.live c.a && hasN p.live c.b) with
  | false => rw [h1, if_neg (by decide)] at h; exact (ne2 h (by decide)).elim
  | true =>
    rw [h1, if_pos rfl] at h
    by_cases e : c.a = c.b
    · rw [if_pos e] at h; exact (ne2 h (by decide)).elim
    · rw [if_neg e] at h
      cases h2 : hasN (p.acts c.a.toNat) c.b with
      | true => rw [h2, if_pos rfl] at h; exact (ne2 h (by decide)).elim
      | false =>
        rw [h2, if_neg (by decide)] at h
        rw [Bool.and_eq_true] at h1
        exact ⟨h1, e, rfl, (congrArg Prod.fst h).symm⟩
theorem unlink_inv {p q : Pol} {c : Chg} (h : unlinkQ p c = (q, 0)) : hasN (p.acts c.a.toNat) c.b = true ∧ q = setAct p c.a.toNat (diffN (p.acts c.a.toNat) (2 ^ c.b.toNat)) := by
  unfold unlinkQ at h
  cases h1 : hasN (p.acts c.a.toNat) c.b with
  | false => rw [h1, if_neg (by decide)] at h; exact (ne2 h (by decide)).elim
  | true => rw [h1, if_pos rfl] at h; exact ⟨rfl, (congrArg Prod.fst h).symm⟩
/-- Hidden: the role, or, of a link, one of both. -/
theorem hidden_same {p q : Pol} {c : Chg} {s i : Nat} (hp : p.Ok) (h : oneQ p c = (q, 0)) (hk : c.k ≤ 4)
    (hh : ((seenN p s i).testBit c.a.toNat = false ∧ (seenN q s i).testBit c.a.toNat = false) ∨ ((c.k = 3 ∨ c.k = 4) ∧ (seenN p s i).testBit c.b.toNat = false ∧ (seenN q s i).testBit c.b.toNat = false)) : seenN p s i = seenN q s i ∧ Alike p q (seenN p s i) := by
  obtain ⟨hf, hd⟩ := oneQ_inv h
  obtain ⟨hk1, ha, hb0, hb⟩ := Chg.fine_iff hf
  have hra : c.a.toNat < 16 := by omega
  have h4 : c.k = 1 ∨ c.k = 2 ∨ c.k = 3 ∨ c.k = 4 := by omega
  rcases h4 with e | e | e | e
  · have hA := (hh.resolve_right fun x => by omega)
    have hd : addQ p c = (q, 0) := by rw [← hd]; exact (if_pos e).symm
    obtain ⟨hl, hs, rfl⟩ := add_inv hd
    refine ⟨set_ext seenN_lt seenN_lt fun j hj => ?_, ⟨fun r hr hS => ?_, fun r hr hS => ?_, fun _ _ _ _ => rfl, fun _ _ => .inl rfl, rfl⟩⟩
    · by_cases ej : j = c.a.toNat
      · subst ej; rw [hA.1, hA.2]
      · rw [seenN_bit hj, seenN_bit hj]
        show _ = ((p.live ||| 2 ^ c.a.toNat).testBit j && flowsB (updF p.ls c.a.toNat c.s j) (updF p.li c.a.toNat c.i j) s i)
        rw [upd_ne _ ej, upd_ne _ ej, or_pow_bit, decide_eq_false (fun h => ej h.symm), Bool.or_false]
    · have er : r ≠ c.a.toNat := fun er => by subst er; rw [hA.1] at hS; cases hS
      exact (upd_ne p.ls er).symm
    · have er : r ≠ c.a.toNat := fun er => by subst er; rw [hA.1] at hS; cases hS
      exact (upd_ne p.li er).symm
  · have hA := (hh.resolve_right fun x => by omega)
    have hd : dropQ p c = (q, 0) := by rw [← hd]; unfold doQ; rw [if_neg (by omega), if_pos e]
    obtain ⟨hl, rfl⟩ := drop_inv hd
    refine ⟨set_ext seenN_lt seenN_lt fun j hj => ?_, ⟨fun r hr hS => ?_, fun r hr hS => ?_, fun x y hx hy => ?_, fun t ht => ?_, rfl⟩⟩
    · by_cases ej : j = c.a.toNat
      · subst ej; rw [hA.1, hA.2]
      · rw [seenN_bit hj, seenN_bit hj]
        show _ = ((diffN p.live (2 ^ c.a.toNat)).testBit j && flowsB (updF p.ls c.a.toNat 0 j) (updF p.li c.a.toNat 0 j) s i)
        rw [upd_ne _ ej, upd_ne _ ej, diff_pow_bit hp.live hra hj, decide_eq_false (fun h => ej h.symm), Bool.not_false, Bool.and_true]
    · have er : r ≠ c.a.toNat := fun er => by subst er; rw [hA.1] at hS; cases hS
      exact (upd_ne p.ls er).symm
    · have er : r ≠ c.a.toNat := fun er => by subst er; rw [hA.1] at hS; cases hS
      exact (upd_ne p.li er).symm
    · show ((seenN p s i).testBit x && ((seenN p s i).testBit y && (p.acts x).testBit y)) = ((seenN p s i).testBit x && ((seenN p s i).testBit y && (diffN (updF p.acts c.a.toNat 0 x) (2 ^ c.a.toNat)).testBit y))
      by_cases ex : x = c.a.toNat
      · subst ex; rw [hA.1]; rfl
      · by_cases ey : y = c.a.toNat
        · subst ey; rw [hA.1, Bool.false_and, Bool.false_and]
        · rw [upd_ne _ ex, diff_pow_bit (hp.acts x hx) hra hy, decide_eq_false (fun h => ey h.symm), Bool.not_false, Bool.and_true]
    · show p.own t = (if p.own t = c.a.toNat then 16 else p.own t) ∨ (hasN _ (p.own t) = false ∧ hasN _ ((if p.own t = c.a.toNat then 16 else p.own t : Nat) : Int) = false)
      by_cases eo : p.own t = c.a.toNat
      · rw [if_pos eo]
        refine .inr ⟨?_, rfl⟩
        rw [eo, hasN_nat hra, hA.1]
      · rw [if_neg eo]; exact .inl rfl
  · have hd : linkQ p c = (q, 0) := by rw [← hd]; unfold doQ; rw [if_neg (by omega), if_neg (by omega), if_pos e]
    obtain ⟨-, -, -, rfl⟩ := link_inv hd
    refine ⟨rfl, ⟨fun _ _ _ => rfl, fun _ _ _ => rfl, ?_, fun _ _ => .inl rfl, rfl⟩⟩
    refine succ_upd (b := c.b.toNat) (hh.elim (fun x => .inl x.1) fun x => .inr x.2.1) fun y hy hyb => ?_
    rw [or_pow_bit, decide_eq_false (fun h => hyb h.symm), Bool.or_false]
  · have hd : unlinkQ p c = (q, 0) := by rw [← hd]; unfold doQ; rw [if_neg (by omega), if_neg (by omega), if_neg (by omega), if_pos e]
    obtain ⟨-, rfl⟩ := unlink_inv hd
    have hm4 : mostB c.k = 15 := by rw [e]; rfl
    have hb16 : c.b.toNat < 16 := by omega
    refine ⟨rfl, ⟨fun _ _ _ => rfl, fun _ _ _ => rfl, ?_, fun _ _ => .inl rfl, rfl⟩⟩
    refine succ_upd (b := c.b.toNat) (hh.elim (fun x => .inl x.1) fun x => .inr x.2.1) fun y hy hyb => ?_
    rw [diff_pow_bit (hp.acts _ hra) hb16 hy, decide_eq_false (fun h => hyb h.symm), Bool.not_false, Bool.and_true]
end Go.Ab.S

namespace Go.Ab.S
open Go Go.Ab Go.Proofs
set_option maxRecDepth 100000
end Go.Ab.S
