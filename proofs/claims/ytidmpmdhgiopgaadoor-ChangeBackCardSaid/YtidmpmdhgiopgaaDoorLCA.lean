/- What comes of a change may be. No condition. Updates: all changes, and the map. No condition. -/
import Derived.Test.YtidmpmdhgiopgaaDoorLC8
set_option linter.unusedSimpArgs false
set_option linter.unusedVariables false
namespace Go.Ab.S
open Go Go.Ab Go.Proofs
theorem fine_clean {p : Pol} (hf : fineP p = true) : Clean p := fun r hr h => ⟨(role_dead hf hr h).1, (role_dead hf hr h).2.1⟩
theorem fine_intro {p : Pol} (hp : p.Ok)
    (h1 : ∀ r, r < 16 → p.live.testBit r = true → (∀ j, j < 16 → (p.ls r).testBit j = true → p.active.testBit j = true) ∧ (∀ j, j < 16 → (p.li r).testBit j = true → p.active.testBit j = true) ∧ (∀ j, j < 16 → (p.acts r).testBit j = true → p.live.testBit j = true) ∧ (p.acts r).testBit r = false)
    (h2 : ∀ r, r < 16 → p.live.testBit r = false → p.ls r = 0 ∧ p.li r = 0 ∧ p.acts r = 0)
    (h3 : ∀ t, t < 16 → p.own t = 16 ∨ (p.own t < 16 ∧ p.live.testBit (p.own t) = true ∧ p.active.testBit t = true)) : fineP p = true := by
  unfold fineP
  rw [all16_t fun r hr => ?_, all16_t fun t ht => ?_]
  · rfl
  · unfold ownB
    rcases h3 t ht with h | ⟨h, h', h''⟩
    · rw [decide_eq_true h]; rfl
    · rw [hasN_nat h, h', h'']; simp
  · unfold roleB
    cases hl : p.live.testBit r with
    | true =>
      obtain ⟨a1, a2, a3, a4⟩ := h1 r hr hl
      rw [if_pos rfl]
      simp only [Bool.and_eq_true, Bool.not_eq_true']
      refine ⟨(subB_iff (or_lt (hp.ls r hr) (hp.li r hr)) hp.active).2 fun j hj hb => ?_, (subB_iff (hp.acts r hr) hp.live).2 a3, a4⟩
      rw [Nat.testBit_or, Bool.or_eq_true] at hb
      exact hb.elim (a1 j hj) (a2 j hj)
    | false =>
      obtain ⟨a1, a2, a3⟩ := h2 r hr hl
      rw [if_neg (by decide), a1, a2, a3]; rfl
theorem upd_lt {f : Nat → Nat} {r v n : Nat} (hf : ∀ j, j < 16 → f j < n) (hv : v < n) : ∀ j, j < 16 → updF f r v j < n := fun j hj => by
  unfold updF
  split
  · exact hv
  · exact hf j hj
theorem or_pow_lt {a r : Nat} (ha : a < 65536) (hr : r < 16) : a ||| 2 ^ r < 65536 := or_lt ha (by have := pow16 (t := r) (by omega); omega)
theorem or_pow_bit {a r j : Nat} : (a ||| 2 ^ r).testBit j = (a.testBit j || decide (r = j)) := by rw [Nat.testBit_or, pow_bit]
theorem diff_pow_bit {a r j : Nat} (ha : a < 65536) (hr : r < 16) (hj : j < 16) : (diffN a (2 ^ r)).testBit j = (a.testBit j && !decide (r = j)) := by
  have hpw := pow16 (t := r) (by omega)
  rw [diffN_bit ha (by omega) hj, pow_bit]
theorem add_ok {p : Pol} (hp : p.Ok) {r s i : Nat} (hr : r < 16) (hs : s < 65536) (hi : i < 65536) : (setLab (setLive p (p.live ||| 2 ^ r)) r s i).Ok :=
  ⟨or_pow_lt hp.live hr, upd_lt hp.ls hs, upd_lt hp.li hi, hp.acts, hp.own, hp.active⟩
theorem add_fine {p : Pol} (hp : p.Ok) (hf : fineP p = true) {r s i : Nat} (hr : r < 16) (hs : s < 65536) (hi : i < 65536) (hd : p.live.testBit r = false) (hsub : subB (s ||| i) p.active = true) : fineP (setLab (setLive p (p.live ||| 2 ^ r)) r s i) = true := by
  have hsub := (subB_iff (or_lt hs hi) hp.active).1 hsub
  refine fine_intro (add_ok hp hr hs hi) (fun j hj hl => ?_) (fun j hj hl => ?_) (fun t ht => ?_)
  · have hl : (p.live ||| 2 ^ r).testBit j = true := hl
    show (∀ x, x < 16 → (updF p.ls r s j).testBit x = true → p.active.testBit x = true) ∧ (∀ x, x < 16 → (updF p.li r i j).testBit x = true → p.active.testBit x = true) ∧ (∀ x, x < 16 → (p.acts j).testBit x = true → (p.live ||| 2 ^ r).testBit x = true) ∧ (p.acts j).testBit j = false
    by_cases e : j = r
    · subst e
      rw [upd_at, upd_at, (role_dead hf hj hd).2.2]
      refine ⟨fun x hx hb => hsub x hx (by rw [Nat.testBit_or, hb]; rfl), fun x hx hb => hsub x hx (by rw [Nat.testBit_or, hb, Bool.or_true]), fun x _ hb => (by rw [Nat.zero_testBit] at hb; cases hb), Nat.zero_testBit _⟩
    · rw [or_pow_bit, decide_eq_false (fun h => e h.symm), Bool.or_false] at hl
      obtain ⟨a1, a2, a3, a4⟩ := role_live hp hf hj hl
      rw [upd_ne _ e, upd_ne _ e]
      exact ⟨a1, a2, fun x hx hb => by rw [or_pow_bit, a3 x hx hb]; rfl, a4⟩
  · have hl : (p.live ||| 2 ^ r).testBit j = false := hl
    rw [or_pow_bit, Bool.or_eq_false_iff, decide_eq_false_iff_not] at hl
    show updF p.ls r s j = 0 ∧ updF p.li r i j = 0 ∧ p.acts j = 0
    rw [upd_ne _ (fun h => hl.2 h.symm), upd_ne _ (fun h => hl.2 h.symm)]
    exact role_dead hf hj hl.1
  · rcases own_16 hf ht with h | ⟨h1, h2, h3⟩
    · exact .inl h
    · exact .inr ⟨h1, by show (p.live ||| 2 ^ r).testBit (p.own t) = true; rw [or_pow_bit, h2]; rfl, h3⟩
theorem act_ok {p : Pol} (hp : p.Ok) {r v : Nat} (hv : v < 65536) : (setAct p r v).Ok := ⟨hp.live, hp.ls, hp.li, upd_lt hp.acts hv, hp.own, hp.active⟩
theorem act_fine {p : Pol} (hp : p.Ok) (hf : fineP p = true) {r v : Nat} (hr : r < 16) (hv : v < 65536) (hl : p.live.testBit r = true) (h1 : ∀ x, x < 16 → v.testBit x = true → p.live.testBit x = true) (h2 : v.testBit r = false) : fineP (setAct p r v) = true := by
  refine fine_intro (act_ok hp hv) (fun j hj hlj => ?_) (fun j hj hlj => ?_) (fun t ht => own_16 hf ht)
  · obtain ⟨a1, a2, a3, a4⟩ := role_live hp hf hj hlj
    show (∀ x, x < 16 → (p.ls j).testBit x = true → p.active.testBit x = true) ∧ (∀ x, x < 16 → (p.li j).testBit x = true → p.active.testBit x = true) ∧ (∀ x, x < 16 → (updF p.acts r v j).testBit x = true → p.live.testBit x = true) ∧ (updF p.acts r v j).testBit j = false
    by_cases e : j = r
    · subst e; rw [upd_at]; exact ⟨a1, a2, h1, h2⟩
    · rw [upd_ne _ e]; exact ⟨a1, a2, a3, a4⟩
  · have hlj : p.live.testBit j = false := hlj
    have e : j ≠ r := fun e => by rw [e, hl] at hlj; cases hlj
    obtain ⟨a1, a2, a3⟩ := role_dead hf hj hlj
    refine ⟨a1, a2, ?_⟩
    show updF p.acts r v j = 0
    rw [upd_ne _ e, a3]
theorem own_ok {p : Pol} (hp : p.Ok) {r v : Nat} (hv : v ≤ 255) : (setOwn p r v).Ok := ⟨hp.live, hp.ls, hp.li, hp.acts, fun j hj => by
  show updF p.own r v j ≤ 255
  unfold updF
  split
  · exact hv
  · exact hp.own j hj, hp.active⟩
theorem own_fine {p : Pol} (hp : p.Ok) (hf : fineP p = true) {r v : Nat} (hv : v ≤ 16) (ha : p.active.testBit r = true) (hl : v = 16 ∨ p.live.testBit v = true) : fineP (setOwn p r v) = true := by
  refine fine_intro (own_ok hp (by omega)) (fun j hj hlj => role_live hp hf hj hlj) (fun j hj hlj => role_dead hf hj hlj) (fun t ht => ?_)
  show updF p.own r v t = 16 ∨ (updF p.own r v t < 16 ∧ p.live.testBit (updF p.own r v t) = true ∧ p.active.testBit t = true)
  by_cases e : t = r
  · subst e
    rw [upd_at]
    rcases hl with h | h
    · exact .inl h
    · by_cases h16 : v = 16
      · exact .inl h16
      · exact .inr ⟨by omega, h, ha⟩
  · rw [upd_ne _ e]; exact own_16 hf ht
theorem drop_ok {p : Pol} (hp : p.Ok) {r : Nat} : (dropP p r).Ok := by
  refine ⟨diffN_lt, upd_lt hp.ls (by decide), upd_lt hp.li (by decide), fun _ _ => diffN_lt, fun t ht => ?_, hp.active⟩
  show (if p.own t = r then 16 else p.own t) ≤ 255
  split
  · decide
  · exact hp.own t ht
theorem drop_fine {p : Pol} (hp : p.Ok) (hf : fineP p = true) {r : Nat} (hr : r < 16) : fineP (dropP p r) = true := by
  have hpw := pow16 (t := r) (by omega)
  refine fine_intro (drop_ok hp) (fun j hj hl => ?_) (fun j hj hl => ?_) (fun t ht => ?_)
  · have hl : (diffN p.live (2 ^ r)).testBit j = true := hl
    rw [diff_pow_bit hp.live hr hj, Bool.and_eq_true, Bool.not_eq_true', decide_eq_false_iff_not] at hl
    obtain ⟨a1, a2, a3, a4⟩ := role_live hp hf hj hl.1
    have e : j ≠ r := fun e => hl.2 e.symm
    show (∀ x, x < 16 → (updF p.ls r 0 j).testBit x = true → p.active.testBit x = true) ∧ (∀ x, x < 16 → (updF p.li r 0 j).testBit x = true → p.active.testBit x = true) ∧ (∀ x, x < 16 → (diffN (updF p.acts r 0 j) (2 ^ r)).testBit x = true → (diffN p.live (2 ^ r)).testBit x = true) ∧ (diffN (updF p.acts r 0 j) (2 ^ r)).testBit j = false
    rw [upd_ne _ e, upd_ne _ e, upd_ne _ e]
    refine ⟨a1, a2, fun x hx hb => ?_, ?_⟩
    · rw [diff_pow_bit (hp.acts j hj) hr hx, Bool.and_eq_true] at hb
      rw [diff_pow_bit hp.live hr hx, a3 x hx hb.1, hb.2]; rfl
    · rw [diff_pow_bit (hp.acts j hj) hr hj, a4]; rfl
  · have hl : (diffN p.live (2 ^ r)).testBit j = false := hl
    rw [diff_pow_bit hp.live hr hj, Bool.and_eq_false_iff, Bool.not_eq_false', decide_eq_true_eq] at hl
    show updF p.ls r 0 j = 0 ∧ updF p.li r 0 j = 0 ∧ diffN (updF p.acts r 0 j) (2 ^ r) = 0
    by_cases e : j = r
    · subst e; rw [upd_at, upd_at, upd_at, diff_zero (by omega)]; exact ⟨rfl, rfl, rfl⟩
    · obtain ⟨a1, a2, a3⟩ := role_dead hf hj (hl.resolve_right fun h => e h.symm)
      rw [upd_ne _ e, upd_ne _ e, upd_ne _ e, a1, a2, a3, diff_zero (by omega)]; exact ⟨rfl, rfl, rfl⟩
  · show (if p.own t = r then 16 else p.own t) = 16 ∨ ((if p.own t = r then 16 else p.own t) < 16 ∧ (diffN p.live (2 ^ r)).testBit (if p.own t = r then 16 else p.own t) = true ∧ p.active.testBit t = true)
    by_cases e : p.own t = r
    · rw [if_pos e]; exact .inl rfl
    · rw [if_neg e]
      rcases own_16 hf ht with h | ⟨h1, h2, h3⟩
      · exact .inl h
      · exact .inr ⟨h1, by rw [diff_pow_bit hp.live hr h1, h2, decide_eq_false (fun h => e h.symm)]; rfl, h3⟩
theorem may_fine {a b : Int} (h : mayB id a b = true) : fineB (moveN id a b) = true := by
  have := made_fine [(a, b)]
  have e : madeN [(a, b)] = moveN id a b := by
    show stepM id (a, b) = _
    unfold stepM
    rw [if_pos h]
  rwa [e] at this
theorem revoke_fine {p : Pol} (hp : p.Ok) (hf : fineP p = true) {a b : Int} (h : mayB id a b = true) (hb : hasN p.active b = true) : fineP (mapP (moveN id a b) p) = true := by
  refine map_fine hp hf (fine_clean hf) (may_fine h) fun t ht hne => ?_
  unfold moveN at hne ⊢
  by_cases e : ((id t : Nat) : Int) = a
  · rw [if_pos e]
    unfold hasN at hb
    rw [Bool.and_eq_true] at hb
    exact hb.2
  · rw [if_neg e] at hne; exact absurd rfl hne
end Go.Ab.S

namespace Go.Ab.S
open Go Go.Ab Go.Proofs
attribute [local irreducible] SemS
set_option maxRecDepth 100000
theorem hasN_of {s : Nat} {a : Int} (ha : 0 ≤ a ∧ a ≤ 15) : hasN s a = s.testBit a.toNat := by
  unfold hasN
  rw [decide_eq_true ha.1, decide_eq_true ha.2]; rfl
/-- What comes of a change is a policy, and may be if what was might. -/
theorem oneQ_ok {p : Pol} (hp : p.Ok) {c : Chg} (hs : c.s < 65536) (hi : c.i < 65536) : (oneQ p c).1.Ok ∧ (fineP p = true → (oneQ p c).2 = 0 → fineP (oneQ p c).1 = true) := by
  unfold oneQ
  cases hf : c.fine with
  | false => rw [if_neg (by decide)]; exact ⟨zero_ok, fun _ h => absurd (show (3 : Int) = 0 from h) (by decide)⟩
  | true =>
  rw [if_pos rfl]
  have key : (doQ p c).1.Ok ∧ (fineP p = true → (doQ p c).2 = 0 → fineP (doQ p c).1 = true) → (if (doQ p c).2 = 0 then doQ p c else (zeroP, (doQ p c).2)).1.Ok ∧ (fineP p = true → (if (doQ p c).2 = 0 then doQ p c else (zeroP, (doQ p c).2)).2 = 0 → fineP (if (doQ p c).2 = 0 then doQ p c else (zeroP, (doQ p c).2)).1 = true) := fun h => by
    by_cases he : (doQ p c).2 = 0
    · rw [if_pos he]; exact h
    · rw [if_neg he]; exact ⟨zero_ok, fun _ h => absurd h he⟩
  refine key ?_
  obtain ⟨hk, ha, hb0, hb⟩ := Chg.fine_iff hf
  obtain ⟨k, a, b, s, i0⟩ := c
  dsimp only at hk ha hb0 hb hs hi
  obtain ⟨r, rfl⟩ := Int.eq_ofNat_of_zero_le ha.1
  obtain ⟨q, rfl⟩ := Int.eq_ofNat_of_zero_le hb0
  have hr : r < 16 := by omega
  have hpw := pow16 (t := r) (by omega)
  rcases kinds6 hk with rfl | rfl | rfl | rfl | rfl | rfl
  · have hd : doQ p ⟨1, r, q, s, i0⟩ = if hasN p.live r then (p, 7) else if subB (s ||| i0) p.active then (setLab (setLive p (p.live ||| 2 ^ r)) r s i0, 0) else (p, 8) := rfl
    rw [hd]
    cases h1 : hasN p.live r with
    | true => exact ⟨hp, fun _ h => absurd (show (7 : Int) = 0 from h) (by decide)⟩
    | false =>
      cases h2 : subB (s ||| i0) p.active with
      | false => exact ⟨hp, fun _ h => absurd (show (8 : Int) = 0 from h) (by decide)⟩
      | true =>
        rw [hasN_nat hr] at h1
        exact ⟨add_ok hp hr hs hi, fun h _ => add_fine hp h hr hs hi h1 h2⟩
  · have hd : doQ p ⟨2, r, q, s, i0⟩ = if hasN p.live r then (dropP p r, 0) else (p, 6) := rfl
    rw [hd]
    cases h1 : hasN p.live r with
    | false => exact ⟨hp, fun _ h => absurd (show (6 : Int) = 0 from h) (by decide)⟩
    | true => exact ⟨drop_ok hp, fun h _ => drop_fine hp h hr⟩
  · have hq : q < 16 := by have hb : (q : Int) ≤ 15 := hb; omega
    have hd : doQ p ⟨3, r, q, s, i0⟩ = if hasN p.live r && hasN p.live q then (if (r : Int) = q then (p, 1) else if hasN (p.acts r) q then (p, 7) else (setAct p r (p.acts r ||| 2 ^ q), 0)) else (p, 6) := rfl
    rw [hd]
    cases h1 : hasN p.live r && hasN p.live q with
    | false => exact ⟨hp, fun _ h => absurd (show (6 : Int) = 0 from h) (by decide)⟩
    | true =>
      rw [if_pos rfl]
      by_cases he : (r : Int) = q
      · rw [if_pos he]; exact ⟨hp, fun _ h => absurd (show (1 : Int) = 0 from h) (by decide)⟩
      · rw [if_neg he]
        cases h3 : hasN (p.acts r) q with
        | true => exact ⟨hp, fun _ h => absurd (show (7 : Int) = 0 from h) (by decide)⟩
        | false =>
          rw [Bool.and_eq_true, hasN_nat hr, hasN_nat hq] at h1
          refine ⟨act_ok hp (or_pow_lt (hp.acts r hr) hq), fun h _ => ?_⟩
          obtain ⟨-, -, a3, a4⟩ := role_live hp h hr h1.1
          refine act_fine hp h hr (or_pow_lt (hp.acts r hr) hq) h1.1 (fun x hx hb => ?_) ?_
          · rw [or_pow_bit, Bool.or_eq_true, decide_eq_true_eq] at hb
            rcases hb with hb | rfl
            · exact a3 x hx hb
            · exact h1.2
          · rw [or_pow_bit, a4, decide_eq_false (by omega)]; rfl
  · have hq : q < 16 := by have hb : (q : Int) ≤ 15 := hb; omega
    have hd : doQ p ⟨4, r, q, s, i0⟩ = if hasN (p.acts r) q then (setAct p r (diffN (p.acts r) (2 ^ q)), 0) else (p, 6) := rfl
    rw [hd]
    cases h3 : hasN (p.acts r) q with
    | false => exact ⟨hp, fun _ h => absurd (show (6 : Int) = 0 from h) (by decide)⟩
    | true =>
      rw [hasN_nat hq] at h3
      refine ⟨act_ok hp diffN_lt, fun h _ => ?_⟩
      have hl : p.live.testBit r = true := by
        cases hl : p.live.testBit r with
        | true => rfl
        | false => rw [(role_dead h hr hl).2.2, Nat.zero_testBit] at h3; cases h3
      obtain ⟨-, -, a3, a4⟩ := role_live hp h hr hl
      refine act_fine hp h hr diffN_lt hl (fun x hx hb => ?_) ?_
      · rw [diff_pow_bit (hp.acts r hr) hq hx, Bool.and_eq_true] at hb
        exact a3 x hx hb.1
      · rw [diff_pow_bit (hp.acts r hr) hq hr, a4]; rfl
  · have hb : (q : Int) ≤ 16 := hb
    have hd : doQ p ⟨5, r, q, s, i0⟩ = if hasN p.active r && (decide ((q : Int) = 16) || hasN p.live q) then (setOwn p r q, 0) else (p, 6) := rfl
    rw [hd]
    cases h1 : hasN p.active r && (decide ((q : Int) = 16) || hasN p.live q) with
    | false => exact ⟨hp, fun _ h => absurd (show (6 : Int) = 0 from h) (by decide)⟩
    | true =>
      rw [Bool.and_eq_true, Bool.or_eq_true, hasN_nat hr, decide_eq_true_eq] at h1
      refine ⟨own_ok hp (by omega), fun h _ => own_fine hp h (by omega) h1.1 ?_⟩
      rcases h1.2 with h2 | h2
      · exact .inl (by omega)
      · have := has_lt h2
        rw [hasN_nat this] at h2
        exact .inr h2
  · have hb : (q : Int) ≤ 15 := hb
    have hd : doQ p ⟨6, r, q, s, i0⟩ = if hasN p.active r && hasN p.active q then (if mayB id r q then (mapP (moveN id r q) p, 0) else (p, 1)) else (p, 6) := rfl
    rw [hd]
    cases h1 : hasN p.active r && hasN p.active q with
    | false => exact ⟨hp, fun _ h => absurd (show (6 : Int) = 0 from h) (by decide)⟩
    | true =>
      rw [if_pos rfl]
      cases h3 : mayB id r q with
      | false => exact ⟨hp, fun _ h => absurd (show (1 : Int) = 0 from h) (by decide)⟩
      | true =>
        rw [Bool.and_eq_true] at h1
        exact ⟨map_ok hp, fun h _ => revoke_fine hp h h3 h1.2⟩
/-! ### Updates -/
def chgs (l : List Chg) : List (List PV) := l.map Chg.row
theorem chgs_len {l : List Chg} : (chgs l).length = l.length := by simp [chgs]
theorem chgs_get {l : List Chg} {i : Nat} (h : i < l.length) : (chgs l)[i]? = some l[i].row := by rw [chgs, List.getElem?_map, List.getElem?_eq_getElem h]; rfl
def goQ : Pol → List Chg → Nat → Pol × Int × Int
  | p, [], n => (p, n, 0)
  | p, c :: r, n => if (oneQ p c).2 = 0 then goQ (oneQ p c).1 r (n + 1) else (zeroP, n, (oneQ p c).2)
def allQ (p : Pol) (l : List Chg) : Pol × Int × Int := if l.length = 0 then (zeroP, 0, 1) else if 6 < l.length then (zeroP, 0, 5) else goQ p l 0
def resA (q : Pol × Int × Int) : AV := .tup [q.1.v, iv q.2.1, iv q.2.2]
set_option maxHeartbeats 4000000 in
theorem change_All_ok (p : Pol) (hp : p.Ok) (l : List Chg) (hl : l.length < 2 ^ 62) (hc : ∀ c ∈ l, c.s < 65536 ∧ c.i < 65536) : EvP PR G f_change_All [p.v, slv (chgs l)] (resA (allQ p l)) := by
  have hlen := chgs_len (l := l)
  refine EvP.of_wpf false hm c_change_All rfl ?_
  refine wpf_seq1 ?_
  conv => whnf
  unfold allQ
  by_cases h0 : l.length = 0
  · rw [if_pos h0]
    repeat' ((first | refine brP_t (by assumption) ?_ | refine brP_f (by assumption) ?_ | refine brP_t (decide_eq_true (by omega)) ?_ | refine brP_f (decide_eq_false (by omega)) ?_ | refine brP_t (nd_t (by omega)) ?_ | refine brP_f (nd_f (by omega)) ?_ | ((rw [hlen])) | refine wpfS_seq1 ?_ | refine wpfS_go ?_ | fail) <;> conv => whnf)
    rfl
  rw [if_neg h0]
  by_cases h6 : 6 < l.length
  · rw [if_pos h6]
    repeat' ((first | refine brP_t (by assumption) ?_ | refine brP_f (by assumption) ?_ | refine brP_t (decide_eq_true (by omega)) ?_ | refine brP_f (decide_eq_false (by omega)) ?_ | refine brP_t (nd_t (by omega)) ?_ | refine brP_f (nd_f (by omega)) ?_ | ((rw [hlen])) | refine wpfS_seq1 ?_ | refine wpfS_go ?_ | fail) <;> conv => whnf)
    rfl
  rw [if_neg h6]
  repeat' ((first | refine brP_t (by assumption) ?_ | refine brP_f (by assumption) ?_ | refine brP_t (decide_eq_true (by omega)) ?_ | refine brP_f (decide_eq_false (by omega)) ?_ | refine brP_t (nd_t (by omega)) ?_ | refine brP_f (nd_f (by omega)) ?_ | ((rw [hlen])) | refine wpfS_seq1 ?_ | refine wpfS_go ?_ | fail) <;> conv => whnf)
  refine SemS.loopC false hm (σ := Nat × Pol) (fun x => [(23, iv x.1), (22, iv l.length), (21, slv (chgs l)), (2, .c (.ptr (.loc 0) 0)), (4, .c (.ptr (.loc 1) 0)), (1, slv (chgs l))]) (fun x => ⟨[], [.row x.2.row, .row zeroP.row]⟩) (fun x => l.length - x.1) (fun x => x.1 ≤ l.length ∧ x.2.Ok ∧ goQ p l 0 = goQ x.2 (l.drop x.1) x.1) (0, p) ⟨Nat.zero_le _, hp, rfl⟩ ⟨rfl, rfl, rfl, rfl, rfl, rfl, trivial⟩ rfl ?_
  rintro ⟨i, q⟩ ⟨hi, hq, hgo⟩
  dsimp only at hi hq hgo ⊢
  refine wpf_seq1 ?_
  conv => whnf
  try (refine wpfS_seq1 ?_; conv => whnf)
  refine brP_mk (fun h => ?_) (fun h => ?_)
  · have hi' : i < l.length := by have := of_decide_eq_true h; omega
    clear h
    have hget := chgs_get hi'
    have hw2 : IntKind.i64.wrap ((i : Int) + 1) = ((i + 1 : Nat) : Int) := by rw [wrap64 (by omega)]; rfl
    obtain ⟨h1, h2⟩ := hc _ (List.getElem_mem hi')
    have c1 := change_One_ok q hq l[i] h1 h2
    have hqo := (oneQ_ok hq (c := l[i]) h1 h2).1
    rw [List.drop_eq_getElem_cons hi'] at hgo
    have hgo' : goQ p l 0 = if (oneQ q l[i]).2 = 0 then goQ (oneQ q l[i]).1 (l.drop (i + 1)) (i + 1) else (zeroP, (i : Int), (oneQ q l[i]).2) := hgo
    generalize oneQ q l[i] = qe at *
    obtain ⟨q2, e⟩ := qe
    dsimp only at hqo hgo'
    generalize hcc : l[i] = c at *
    obtain ⟨k, a, b, s, i0⟩ := c
    have c1 : EvP PR G f_change_One [q.v, .agg [.int .i64 k, .int .i64 a, .int .i64 b, .int .u16 s, .int .u16 i0]] (.tup [q2.v, iv e]) := c1
    rw [chgrow] at hget
    by_cases he : e = 0
    · subst he
      rw [if_pos rfl] at hgo'
      repeat' ((first | refine brP_t (by assumption) ?_ | refine brP_f (by assumption) ?_ | refine brP_t (decide_eq_true (by omega)) ?_ | refine brP_f (decide_eq_false (by omega)) ?_ | refine brP_t (nd_t (by omega)) ?_ | refine brP_f (nd_f (by omega)) ?_ | ((rw [hw2])) | refine wpfS_seq1 ?_ | refine wpfS_go ?_ | fail) <;> conv => whnf)
      (first | ((conv in (opS _ _ _ _) => whnf); rw [Int.toNat_natCast, hget]) | ((conv in (opM _ _ _ _ _) => whnf); (conv in (opS _ _ _ _) => whnf); rw [Int.toNat_natCast, hget]))
      conv => whnf
      repeat' ((first | refine brP_t (by assumption) ?_ | refine brP_f (by assumption) ?_ | refine brP_t (decide_eq_true (by omega)) ?_ | refine brP_f (decide_eq_false (by omega)) ?_ | refine brP_t (nd_t (by omega)) ?_ | refine brP_f (nd_f (by omega)) ?_ | ((rw [hw2])) | refine wpfS_seq1 ?_ | refine wpfS_go ?_ | fail) <;> conv => whnf)
      (first | refine callK_p c1 ?_ | refine callM_p c1 rfl ?_ | refine callK_pf rfl c1 ?_ | refine callK_pk rfl c1 ?_)
      conv => whnf
      repeat' ((first | refine brP_t (by assumption) ?_ | refine brP_f (by assumption) ?_ | refine brP_t (decide_eq_true (by omega)) ?_ | refine brP_f (decide_eq_false (by omega)) ?_ | refine brP_t (nd_t (by omega)) ?_ | refine brP_f (nd_f (by omega)) ?_ | ((rw [hw2])) | refine wpfS_seq1 ?_ | refine wpfS_go ?_ | fail) <;> conv => whnf)
      exact ⟨(i + 1, q2), 2, ⟨hi', hqo, hgo'⟩, (show l.length - (i + 1) < l.length - i by omega), ⟨rfl, rfl, rfl, rfl, rfl, rfl, trivial⟩, Nat.le_refl _, rfl, rfl, rfl⟩
    · rw [if_neg he] at hgo'
      rw [hgo']
      repeat' ((first | refine brP_t (by assumption) ?_ | refine brP_f (by assumption) ?_ | refine brP_t (decide_eq_true (by omega)) ?_ | refine brP_f (decide_eq_false (by omega)) ?_ | refine brP_t (nd_t (by omega)) ?_ | refine brP_f (nd_f (by omega)) ?_ | refine wpfS_seq1 ?_ | refine wpfS_go ?_ | fail) <;> conv => whnf)
      (first | ((conv in (opS _ _ _ _) => whnf); rw [Int.toNat_natCast, hget]) | ((conv in (opM _ _ _ _ _) => whnf); (conv in (opS _ _ _ _) => whnf); rw [Int.toNat_natCast, hget]))
      conv => whnf
      repeat' ((first | refine brP_t (by assumption) ?_ | refine brP_f (by assumption) ?_ | refine brP_t (decide_eq_true (by omega)) ?_ | refine brP_f (decide_eq_false (by omega)) ?_ | refine brP_t (nd_t (by omega)) ?_ | refine brP_f (nd_f (by omega)) ?_ | refine wpfS_seq1 ?_ | refine wpfS_go ?_ | fail) <;> conv => whnf)
      (first | refine callK_p c1 ?_ | refine callM_p c1 rfl ?_ | refine callK_pf rfl c1 ?_ | refine callK_pk rfl c1 ?_)
      conv => whnf
      repeat' ((first | refine brP_t (by assumption) ?_ | refine brP_f (by assumption) ?_ | refine brP_t (decide_eq_true (by omega)) ?_ | refine brP_f (decide_eq_false (by omega)) ?_ | refine brP_t (nd_t (by omega)) ?_ | refine brP_f (nd_f (by omega)) ?_ | refine wpfS_seq1 ?_ | refine wpfS_go ?_ | fail) <;> conv => whnf)
      rfl
  · have hi' : i = l.length := by have := of_decide_eq_false h; omega
    subst hi'
    clear h
    rw [List.drop_length] at hgo
    rw [hgo]
    repeat' ((first | refine brP_t (by assumption) ?_ | refine brP_f (by assumption) ?_ | refine brP_t (decide_eq_true (by omega)) ?_ | refine brP_f (decide_eq_false (by omega)) ?_ | refine brP_t (nd_t (by omega)) ?_ | refine brP_f (nd_f (by omega)) ?_ | ((rw [hlen])) | refine wpfS_seq1 ?_ | refine wpfS_go ?_ | fail) <;> conv => whnf)
    rfl
end Go.Ab.S
