/- What is hidden changes nothing that is seen. No condition. What is undone leaves all as it was. No condition. -/
import Derived.Test.YtidmpmdhgiopgaaDoorLCL
set_option linter.unusedSimpArgs false
set_option linter.unusedVariables false
namespace Go.Ab.S
open Go Go.Ab Go.Proofs
set_option maxRecDepth 100000
theorem Rch.mono {W s : Nat} {g g' : Nat → Nat} (h : ∀ a b, a < 16 → b < 16 → succB W g a b = true → succB W g' a b = true) {r : Nat} (hr : Rch W g s r) : Rch W g' s r := by
  induction hr with
  | start hr hs hW => exact .start hr hs hW
  | step h1 hb hs ih => exact .step ih hb (h _ _ h1.lt hb hs)
/-- Two policies look alike under a set. -/
structure Alike (p q : Pol) (S : Nat) : Prop where
  ls : ∀ r, r < 16 → S.testBit r = true → p.ls r = q.ls r
  li : ∀ r, r < 16 → S.testBit r = true → p.li r = q.li r
  succ : ∀ a b, a < 16 → b < 16 → succB S p.acts a b = succB S q.acts a b
  own : ∀ t, t < 16 → p.own t = q.own t ∨ (hasN S (p.own t) = false ∧ hasN S (q.own t) = false)
  active : p.active = q.active
theorem ne2 {p q : Pol} {x : Int} (h : (p, x) = (q, (0 : Int))) (hx : x ≠ 0) : False := hx (congrArg Prod.snd h)
theorem oneQ_inv {p q : Pol} {c : Chg} (h : oneQ p c = (q, 0)) : c.fine = true ∧ doQ p c = (q, 0) := by
  unfold oneQ at h
  cases hf : c.fine with
  | false => rw [hf, if_neg (by decide)] at h; exact (ne2 h (by decide)).elim
  | true =>
    rw [hf, if_pos rfl] at h
    by_cases he : (doQ p c).2 = 0
    · rw [if_pos he] at h; exact ⟨rfl, h⟩
    · rw [if_neg he] at h; exact absurd (congrArg Prod.snd h) he
theorem add_inv {p q : Pol} {c : Chg} (h : addQ p c = (q, 0)) : hasN p.live c.a = false ∧ subB (c.s ||| c.i) p.active = true ∧ q = setLab (setLive p (p.live ||| 2 ^ c.a.toNat)) c.a.toNat c.s c.i := by
  unfold addQ at h
  cases h1 : hasN p.live c.a with
  | true => rw [h1, if_pos rfl] at h; exact (ne2 h (by decide)).elim
  | false =>
    rw [h1, if_neg (by decide)] at h
    cases h2 : subB (c.s ||| c.i) p.active with
    | false => rw [h2, if_neg (by decide)] at h; exact (ne2 h (by decide)).elim
    | true => rw [h2, if_pos rfl] at h; exact ⟨rfl, rfl, (congrArg Prod.fst h).symm⟩
theorem link_inv {p q : Pol} {c : Chg} (h : linkQ p c = (q, 0)) : (hasN p.live c.a = true ∧ hasN p.live c.b = true) ∧ c.a ≠ c.b ∧ hasN (p.acts c.a.toNat) c.b = false ∧ q = setAct p c.a.toNat (p.acts c.a.toNat ||| 2 ^ c.b.toNat) := by
  unfold linkQ at h
  cases h1 : (hasN p.live c.a && hasN p.live c.b) with
  | false => rw [h1, if_neg (by decide)] at h; exact (ne2 h (by decide)).elim
  | true =>
    rw [h1, if_pos rfl] at h
    by_cases e : c.a = c.b
    · rw [if_pos e] at h; exact (ne2 h (by decide)).elim
    · rw [if_neg e] at h
      cases h2 : hasN (p.acts c.a.toNat) c.b with
      | true => rw [h2, if_pos rfl] at h; exact (ne2 h (by decide)).elim
      | false =>
        rw [h2, if_neg (by decide)] at h
        rw [Bool.and_eq_true] at h1
        exact ⟨h1, e, rfl, (congrArg Prod.fst h).symm⟩
end Go.Ab.S

namespace Go.Ab.S
open Go Go.Ab Go.Proofs
set_option maxRecDepth 100000
theorem or_diff {a r : Nat} (ha : a < 65536) (hr : r < 16) (h : a.testBit r = false) : diffN (a ||| 2 ^ r) (2 ^ r) = a := by
  refine set_ext diffN_lt ha fun j hj => ?_
  rw [diff_pow_bit (or_pow_lt ha hr) hr hj, or_pow_bit]
  by_cases e : r = j
  · subst e; rw [h, decide_eq_true rfl]; rfl
  · rw [decide_eq_false e, Bool.or_false, Bool.not_false, Bool.and_true]
theorem diff_none {a r : Nat} (ha : a < 65536) (hr : r < 16) (h : a.testBit r = false) : diffN a (2 ^ r) = a := by
  refine set_ext diffN_lt ha fun j hj => ?_
  rw [diff_pow_bit ha hr hj]
  by_cases e : r = j
  · subst e; rw [h]; rfl
  · rw [decide_eq_false e, Bool.not_false, Bool.and_true]
/-- A role that came, whatever it acts for, goes again. -/
theorem drop_back {p y : Pol} (hp : p.Ok) (hf : fineP p = true) {r : Nat} (hr : r < 16) (hd : p.live.testBit r = false) (h1 : y.live = p.live ||| 2 ^ r) (h2 : ∀ j, j ≠ r → y.ls j = p.ls j) (h3 : ∀ j, j ≠ r → y.li j = p.li j) (h4 : ∀ j, j ≠ r → y.acts j = p.acts j) (h5 : y.own = p.own) (h6 : y.active = p.active) : (dropP y r).row = p.row := by
  obtain ⟨d1, d2, d3⟩ := role_dead hf hr hd
  refine Pol.row_ext ?_ (fun j hj => ?_) (fun j hj => ?_) (fun j hj => ?_) (fun t ht => ?_) h6
  · show diffN y.live (2 ^ r) = p.live
    rw [h1, or_diff hp.live hr hd]
  · show updF y.ls r 0 j = p.ls j
    by_cases e : j = r
    · subst e; rw [upd_at, d1]
    · rw [upd_ne _ e, h2 j e]
  · show updF y.li r 0 j = p.li j
    by_cases e : j = r
    · subst e; rw [upd_at, d2]
    · rw [upd_ne _ e, h3 j e]
  · show diffN (updF y.acts r 0 j) (2 ^ r) = p.acts j
    by_cases e : j = r
    · subst e
      rw [upd_at, d3, diff_zero]
      have := pow16 (t := j) (by omega)
      omega
    · rw [upd_ne _ e, h4 j e]
      refine diff_none (hp.acts j hj) hr ?_
      cases hb : (p.acts j).testBit r with
      | false => rfl
      | true =>
        cases hl : p.live.testBit j with
        | true => have := (role_live hp hf hj hl).2.2.1 r hr hb; rw [hd] at this; cases this
        | false => rw [(role_dead hf hj hl).2.2, Nat.zero_testBit] at hb; cases hb
  · show (if y.own t = r then 16 else y.own t) = p.own t
    rw [h5]
    by_cases e : p.own t = r
    · rcases own_16 hf ht with h | ⟨-, h, -⟩
      · omega
      · rw [e, hd] at h; cases h
    · rw [if_neg e]
theorem fine_drop {a : Int} (ha : 0 ≤ a ∧ a ≤ 15) : (Chg.mk 2 a 0 0 0).fine = true := by
  unfold Chg.fine
  simp [mostB]
  omega
theorem link_or (x : Pol) (c : Chg) (hk : c.k = 3) : (oneQ x c).1 = zeroP ∧ (oneQ x c).2 ≠ 0 ∨ ∃ v, oneQ x c = (setAct x c.a.toNat v, 0) := by
  unfold oneQ
  cases hf : c.fine with
  | false => rw [if_neg (by decide)]; exact .inl ⟨rfl, by decide⟩
  | true =>
    rw [if_pos rfl]
    by_cases he : (doQ x c).2 = 0
    · rw [if_pos he]
      have hd : doQ x c = linkQ x c := by unfold doQ; rw [if_neg (by omega), if_neg (by omega), if_pos hk]
      have h0 : linkQ x c = ((linkQ x c).1, 0) := by rw [hd] at he; rw [← he]
      obtain ⟨-, -, -, h⟩ := link_inv h0
      rw [hd, h0, h]
      exact .inr ⟨_, rfl⟩
    · rw [if_neg he]; exact .inl ⟨rfl, he⟩
theorem ne_zero_row {y : Pol} {r : Nat} (h : y.live.testBit r = true) : y.row ≠ zeroP.row := fun e => by
  have e1 : PV.int .u16 (y.live : Int) = PV.int .u16 ((0 : Nat) : Int) := (List.cons.inj e).1
  injection e1 with _ e2
  have : y.live = 0 := Int.ofNat.inj e2
  rw [this, Nat.zero_testBit] at h
  cases h
/-- A role comes, is linked or not, and goes. -/
theorem back_add {p x : Pol} (hp : p.Ok) (hf : fineP p = true) {a b : Int} {s i : Nat} (h : oneQ p ⟨1, a, 0, s, i⟩ = (x, 0)) : (0 ≤ a ∧ a ≤ 15) ∧ ∃ e, ((oneQ x ⟨3, a, b, 0, 0⟩ = (zeroP, e) ∧ ∃ z, oneQ x ⟨2, a, 0, 0, 0⟩ = (z, 0) ∧ z.row = p.row) ∨ (∃ y, oneQ x ⟨3, a, b, 0, 0⟩ = (y, e) ∧ y.row ≠ zeroP.row ∧ ∃ z, oneQ y ⟨2, a, 0, 0, 0⟩ = (z, 0) ∧ z.row = p.row)) := by
  obtain ⟨hff, hd⟩ := oneQ_inv h
  obtain ⟨hk1, ha, -, -⟩ := Chg.fine_iff hff
  have ha : 0 ≤ a ∧ a ≤ 15 := ha
  have hra : a.toNat < 16 := by omega
  have hd : addQ p ⟨1, a, 0, s, i⟩ = (x, 0) := hd
  obtain ⟨hl, hs, rfl⟩ := add_inv hd
  rw [hasN_of ha] at hl
  have hl : p.live.testBit a.toNat = false := hl
  have hgo : ∀ y : Pol, y.live = p.live ||| 2 ^ a.toNat → oneQ y ⟨2, a, 0, 0, 0⟩ = (dropP y a.toNat, 0) := fun y hy => by
    refine oneQ_fin (fine_drop ha) ?_
    show dropQ y ⟨2, a, 0, 0, 0⟩ = _
    unfold dropQ
    have : hasN y.live a = true := by rw [hasN_of ha, hy, or_pow_bit, decide_eq_true rfl, Bool.or_true]
    rw [if_pos this]
  refine ⟨ha, (oneQ (setLab (setLive p (p.live ||| 2 ^ a.toNat)) a.toNat s i) ⟨3, a, b, 0, 0⟩).2, ?_⟩
  rcases link_or (setLab (setLive p (p.live ||| 2 ^ a.toNat)) a.toNat s i) ⟨3, a, b, 0, 0⟩ rfl with ⟨h1, -⟩ | ⟨v, hv⟩
  · refine .inl ⟨by rw [← h1], _, hgo _ rfl, ?_⟩
    exact drop_back hp hf hra hl rfl (fun j hj => upd_ne _ hj) (fun j hj => upd_ne _ hj) (fun j hj => rfl) rfl rfl
  · rw [hv]
    refine .inr ⟨_, rfl, ?_, _, hgo _ rfl, ?_⟩
    · refine ne_zero_row (r := a.toNat) ?_
      show (p.live ||| 2 ^ a.toNat).testBit a.toNat = true
      rw [or_pow_bit, decide_eq_true rfl, Bool.or_true]
    · exact drop_back hp hf hra hl rfl (fun j hj => upd_ne _ hj) (fun j hj => upd_ne _ hj) (fun j hj => upd_ne _ hj) rfl rfl
theorem fine_un {a b : Int} (ha : 0 ≤ a ∧ a ≤ 15) (hb : 0 ≤ b ∧ b ≤ 15) : (Chg.mk 4 a b 0 0).fine = true := by
  unfold Chg.fine
  simp [mostB]
  omega
theorem back_link {p u : Pol} (hp : p.Ok) {a b : Int} (h : oneQ p ⟨3, a, b, 0, 0⟩ = (u, 0)) : (∃ v, oneQ u ⟨4, a, b, 0, 0⟩ = (v, 0) ∧ v.row = p.row) ∧ (hasN (dwnN u a 65535 0) b = true ∨ seenN p 65535 0 ≠ p.live) := by
  obtain ⟨hff, hd⟩ := oneQ_inv h
  obtain ⟨hk1, ha, hb0, hb⟩ := Chg.fine_iff hff
  have ha : 0 ≤ a ∧ a ≤ 15 := ha
  have hb : 0 ≤ b ∧ b ≤ 15 := ⟨hb0, hb⟩
  have hra : a.toNat < 16 := by omega
  have hrb : b.toNat < 16 := by omega
  have hd : linkQ p ⟨3, a, b, 0, 0⟩ = (u, 0) := hd
  obtain ⟨⟨l1, l2⟩, hne, hno, hu⟩ := link_inv hd
  have hu : u = setAct p a.toNat (p.acts a.toNat ||| 2 ^ b.toNat) := hu
  have hno : hasN (p.acts a.toNat) b = false := hno
  have l1 : hasN p.live a = true := l1
  have l2 : hasN p.live b = true := l2
  rw [hasN_of ha] at l1
  rw [hasN_of hb] at l2 hno
  have huok : u.Ok := by rw [hu]; exact act_ok hp (or_pow_lt (hp.acts _ hra) hrb)
  have hua : u.acts a.toNat = p.acts a.toNat ||| 2 ^ b.toNat := by rw [hu]; exact upd_at _ _ _
  have hbit : (u.acts a.toNat).testBit b.toNat = true := by rw [hua, or_pow_bit, decide_eq_true rfl, Bool.or_true]
  refine ⟨⟨setAct u a.toNat (diffN (u.acts a.toNat) (2 ^ b.toNat)), oneQ_fin (fine_un ha hb) ?_, ?_⟩, ?_⟩
  · show unlinkQ u ⟨4, a, b, 0, 0⟩ = _
    unfold unlinkQ
    have : hasN (u.acts a.toNat) b = true := by rw [hasN_of hb, hbit]
    rw [if_pos this]
  · refine Pol.row_ext (by rw [hu]; rfl) (fun j hj => by rw [hu]; rfl) (fun j hj => by rw [hu]; rfl) (fun j hj => ?_) (fun t ht => by rw [hu]; rfl) (by rw [hu]; rfl)
    show updF u.acts a.toNat (diffN (u.acts a.toNat) (2 ^ b.toNat)) j = p.acts j
    by_cases e : j = a.toNat
    · subst e
      rw [upd_at, hua, or_diff (hp.acts _ hra) hrb hno]
    · rw [upd_ne _ e, hu]; exact upd_ne _ e
  · by_cases hS : seenN p 65535 0 = p.live
    · refine .inl ?_
      have hSu : seenN u 65535 0 = p.live := by rw [← hS, hu]; rfl
      rw [hasN_of hb]
      unfold dwnN
      rw [downN_iff huok.acts, hSu]
      refine .step (a := a.toNat) (.start hra ?_ l1) hrb ?_
      · unfold ofN
        rw [if_pos (by omega), pow_bit, decide_eq_true rfl]
      · unfold succB
        rw [l1, l2, hbit]; rfl
    · exact .inr hS
theorem fine_own5 {a b : Int} (ha : 0 ≤ a ∧ a ≤ 15) (hb : 0 ≤ b ∧ b ≤ 16) : (Chg.mk 5 a b 0 0).fine = true := by
  unfold Chg.fine
  simp [mostB]
  omega
theorem back_own {p c : Pol} (hp : p.Ok) (hf : fineP p = true) {a b : Int} (h : oneQ p ⟨5, a, b, 0, 0⟩ = (c, 0)) : (0 ≤ a ∧ a ≤ 15) ∧ ∃ d, oneQ c ⟨5, a, (p.own a.toNat : Nat), 0, 0⟩ = (d, 0) ∧ d.row = p.row := by
  obtain ⟨hff, hd⟩ := oneQ_inv h
  obtain ⟨hk1, ha, hb0, hb⟩ := Chg.fine_iff hff
  have ha : 0 ≤ a ∧ a ≤ 15 := ha
  have hra : a.toNat < 16 := by omega
  have hd : ownQ p ⟨5, a, b, 0, 0⟩ = (c, 0) := hd
  have hq : hasN p.active a = true ∧ c = setOwn p a.toNat b.toNat := by
    unfold ownQ at hd
    dsimp only at hd
    cases h1 : hasN p.active a with
    | false => rw [h1, Bool.false_and, if_neg (by decide)] at hd; exact (ne2 hd (by decide)).elim
    | true =>
      rw [h1, Bool.true_and] at hd
      cases h2 : (decide (b = 16) || hasN p.live b) with
      | false => rw [h2, if_neg (by decide)] at hd; exact (ne2 hd (by decide)).elim
      | true => rw [h2, if_pos rfl] at hd; exact ⟨rfl, (congrArg Prod.fst hd).symm⟩
  obtain ⟨hact, rfl⟩ := hq
  have ho := own_16 hf hra
  refine ⟨ha, setOwn (setOwn p a.toNat b.toNat) a.toNat (p.own a.toNat), oneQ_fin (fine_own5 ha (by omega)) ?_, ?_⟩
  · show ownQ (setOwn p a.toNat b.toNat) ⟨5, a, (p.own a.toNat : Nat), 0, 0⟩ = _
    unfold ownQ
    have h1 : hasN (setOwn p a.toNat b.toNat).active a = true := hact
    have h2 : (decide (((p.own a.toNat : Nat) : Int) = 16) || hasN (setOwn p a.toNat b.toNat).live ((p.own a.toNat : Nat) : Int)) = true := by
      rcases ho with h | ⟨h1, h2, -⟩
      · rw [h]; rfl
      · have : hasN (setOwn p a.toNat b.toNat).live ((p.own a.toNat : Nat) : Int) = true := by rw [hasN_nat h1]; exact h2
        rw [this, Bool.or_true]
    dsimp only
    rw [h1, h2, Bool.true_and, if_pos rfl, Int.toNat_natCast]
  · refine Pol.row_ext rfl (fun _ _ => rfl) (fun _ _ => rfl) (fun _ _ => rfl) (fun t ht => ?_) rfl
    show updF (updF p.own a.toNat b.toNat) a.toNat (p.own a.toNat) t = p.own t
    by_cases e : t = a.toNat
    · subst e; rw [upd_at]
    · rw [upd_ne _ e, upd_ne _ e]
end Go.Ab.S
