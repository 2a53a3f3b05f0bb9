/- The program's deeds: links, owners. No condition. The program's deeds: a role goes. No condition. The program's deeds: a tag goes; any one change. No condition. -/
import Derived.Test.YtidmpmdhgiopgaaDoorLC2
import Derived.Test.YtidmpmdhgiopgaaDoorLP23
set_option linter.unusedSimpArgs false
set_option linter.unusedVariables false
namespace Go.Ab.S
open Go Go.Ab Go.Proofs
attribute [local irreducible] SemS
set_option maxRecDepth 100000
theorem or_shl {x r : Nat} (hx : x < 65536) (hr : r < 16) : IntKind.u16.wrap ((BitVec.ofInt IntKind.u16.bits (x : Int) ||| BitVec.ofInt IntKind.u16.bits (IntKind.u16.wrap (1 * 2 ^ min (r : Int).toNat IntKind.u16.bits))).toNat : Int) = ((x ||| 2 ^ r : Nat) : Int) := by
  have hpw := pow16 (t := r) (by omega)
  have hsh : IntKind.u16.wrap (1 * 2 ^ min (r : Int).toNat IntKind.u16.bits) = ((2 ^ r : Nat) : Int) := shl16 hr
  rw [hsh]; exact or16 hx (by omega)
theorem diff_shl {x r : Nat} (hr : r < 16) : IntKind.u16.wrap ((BitVec.ofInt IntKind.u16.bits (x : Int) &&& ~~~BitVec.ofInt IntKind.u16.bits (IntKind.u16.wrap (1 * 2 ^ min (r : Int).toNat IntKind.u16.bits))).toNat : Int) = ((diffN x (2 ^ r) : Nat) : Int) := by
  have hsh : IntKind.u16.wrap (1 * 2 ^ min (r : Int).toNat IntKind.u16.bits) = ((2 ^ r : Nat) : Int) := shl16 hr
  rw [hsh]; exact wrapN16 diffN_lt
set_option maxHeartbeats 2000000 in
theorem change_link_ok (p : Pol) (hp : p.Ok) (c : Chg) (ha : 0 ≤ c.a ∧ c.a ≤ 15) (hb : 0 ≤ c.b ∧ c.b ≤ 15) : EvP PR G f_change_link [p.v, .agg c.row] (resQ (linkQ p c)) := by
  obtain ⟨k, a, b, s, i⟩ := c
  dsimp only at ha hb
  obtain ⟨r, rfl⟩ := Int.eq_ofNat_of_zero_le ha.1
  obtain ⟨q, rfl⟩ := Int.eq_ofNat_of_zero_le hb.1
  have hr : r < 16 := by omega
  have hq : q < 16 := by omega
  rw [chgrow]
  unfold linkQ
  dsimp only
  rw [Int.toNat_natCast, Int.toNat_natCast]
  have c1 := change_live2_ok p hp r q
  have c2 := tagset_Has_ok (p.acts r) q (hp.acts r hr)
  have g2 := pol_act p hr
  have hor := or_shl (hp.acts r hr) hq
  refine EvP.of_wpf false hm c_change_link rfl ?_
  refine wpf_seq1 ?_
  conv => whnf
  cases hl : hasN p.live r && hasN p.live q with
  | false =>
    rw [hl] at c1
    repeat' ((first | refine brP_t (by assumption) ?_ | refine brP_f (by assumption) ?_ | refine brP_t (decide_eq_true (by omega)) ?_ | refine brP_f (decide_eq_false (by omega)) ?_ | refine brP_t (nd_t (by omega)) ?_ | refine brP_f (nd_f (by omega)) ?_ | refine callK_p c1 ?_ | refine callM_p c1 rfl ?_ | refine callK_pf rfl c1 ?_ | refine callK_pk rfl c1 ?_ | refine wpfS_seq1 ?_ | refine wpfS_go ?_ | fail) <;> conv => whnf)
    rfl
  | true =>
    rw [hl] at c1
    by_cases he : (r : Int) = q
    · rw [if_pos rfl, if_pos he]
      repeat' ((first | refine brP_t (by assumption) ?_ | refine brP_f (by assumption) ?_ | refine brP_t (decide_eq_true (by omega)) ?_ | refine brP_f (decide_eq_false (by omega)) ?_ | refine brP_t (nd_t (by omega)) ?_ | refine brP_f (nd_f (by omega)) ?_ | refine callK_p c1 ?_ | refine callM_p c1 rfl ?_ | refine callK_pf rfl c1 ?_ | refine callK_pk rfl c1 ?_ | refine wpfS_seq1 ?_ | refine wpfS_go ?_ | fail) <;> conv => whnf)
      rfl
    · rw [if_pos rfl, if_neg he]
      cases hh : hasN (p.acts r) q with
      | true =>
        rw [hh] at c2
        repeat' ((first | refine brP_t (by assumption) ?_ | refine brP_f (by assumption) ?_ | refine brP_t (decide_eq_true (by omega)) ?_ | refine brP_f (decide_eq_false (by omega)) ?_ | refine brP_t (nd_t (by omega)) ?_ | refine brP_f (nd_f (by omega)) ?_ | refine callK_p c1 ?_ | refine callM_p c1 rfl ?_ | refine callK_pf rfl c1 ?_ | refine callK_pk rfl c1 ?_ | ((conv in (opS _ _ _ _) => whnf); rw [Int.toNat_natCast, g2]) | ((conv in (opM _ _ _ _ _) => whnf); (conv in (opS _ _ _ _) => whnf); rw [Int.toNat_natCast, g2]) | refine callK_p c2 ?_ | refine callM_p c2 rfl ?_ | refine callK_pf rfl c2 ?_ | refine callK_pk rfl c2 ?_ | refine wpfS_seq1 ?_ | refine wpfS_go ?_ | fail) <;> conv => whnf)
        rfl
      | false =>
        rw [hh] at c2
        repeat' ((first | (refine gd_mk ?_ ?_; (focus (first | exact decide_eq_true (by rw [pol_len]; omega) | exact decide_eq_true (And.intro rfl (by rw [pol_len]; simp only [List.length_cons, List.length_nil]; omega)) | exact decide_eq_true (And.intro rfl (by rw [pol_len]; omega)) | exact decide_eq_true (by rw [pol_len]; simp only [List.length_cons, List.length_nil]; omega) | exact decide_eq_true (by show _ ≤ 16; omega) | exact decide_eq_true (And.intro rfl (by show _ ≤ 16; omega)) | exact decide_eq_true (And.intro rfl (by show _ ≤ 16; simp only [List.length_cons, List.length_nil]; omega)))); rw [Int.toNat_natCast, put_act _ hr]) | refine brP_t (by assumption) ?_ | refine brP_f (by assumption) ?_ | refine brP_t (decide_eq_true (by omega)) ?_ | refine brP_f (decide_eq_false (by omega)) ?_ | refine brP_t (nd_t (by omega)) ?_ | refine brP_f (nd_f (by omega)) ?_ | refine callK_p c1 ?_ | refine callM_p c1 rfl ?_ | refine callK_pf rfl c1 ?_ | refine callK_pk rfl c1 ?_ | ((conv in (opS _ _ _ _) => whnf); rw [Int.toNat_natCast, g2]) | ((conv in (opM _ _ _ _ _) => whnf); (conv in (opS _ _ _ _) => whnf); rw [Int.toNat_natCast, g2]) | refine callK_p c2 ?_ | refine callM_p c2 rfl ?_ | refine callK_pf rfl c2 ?_ | refine callK_pk rfl c2 ?_ | ((rw [hor])) | refine wpfS_seq1 ?_ | refine wpfS_go ?_ | fail) <;> conv => whnf)
        rfl
set_option maxHeartbeats 2000000 in
theorem change_unlink_ok (p : Pol) (hp : p.Ok) (c : Chg) (ha : 0 ≤ c.a ∧ c.a ≤ 15) (hb : 0 ≤ c.b ∧ c.b ≤ 15) : EvP PR G f_change_unlink [p.v, .agg c.row] (resQ (unlinkQ p c)) := by
  obtain ⟨k, a, b, s, i⟩ := c
  dsimp only at ha hb
  obtain ⟨r, rfl⟩ := Int.eq_ofNat_of_zero_le ha.1
  obtain ⟨q, rfl⟩ := Int.eq_ofNat_of_zero_le hb.1
  have hr : r < 16 := by omega
  have hq : q < 16 := by omega
  rw [chgrow]
  unfold unlinkQ
  dsimp only
  rw [Int.toNat_natCast, Int.toNat_natCast]
  have c2 := tagset_Has_ok (p.acts r) q (hp.acts r hr)
  have g2 := pol_act p hr
  have hor := diff_shl (x := p.acts r) hq
  refine EvP.of_wpf false hm c_change_unlink rfl ?_
  refine wpf_seq1 ?_
  conv => whnf
  cases hh : hasN (p.acts r) q with
  | false =>
    rw [hh] at c2
    repeat' ((first | refine brP_t (by assumption) ?_ | refine brP_f (by assumption) ?_ | refine brP_t (decide_eq_true (by omega)) ?_ | refine brP_f (decide_eq_false (by omega)) ?_ | refine brP_t (nd_t (by omega)) ?_ | refine brP_f (nd_f (by omega)) ?_ | ((conv in (opS _ _ _ _) => whnf); rw [Int.toNat_natCast, g2]) | ((conv in (opM _ _ _ _ _) => whnf); (conv in (opS _ _ _ _) => whnf); rw [Int.toNat_natCast, g2]) | refine callK_p c2 ?_ | refine callM_p c2 rfl ?_ | refine callK_pf rfl c2 ?_ | refine callK_pk rfl c2 ?_ | refine wpfS_seq1 ?_ | refine wpfS_go ?_ | fail) <;> conv => whnf)
    rfl
  | true =>
    rw [hh] at c2
    repeat' ((first | (refine gd_mk ?_ ?_; (focus (first | exact decide_eq_true (by rw [pol_len]; omega) | exact decide_eq_true (And.intro rfl (by rw [pol_len]; simp only [List.length_cons, List.length_nil]; omega)) | exact decide_eq_true (And.intro rfl (by rw [pol_len]; omega)) | exact decide_eq_true (by rw [pol_len]; simp only [List.length_cons, List.length_nil]; omega) | exact decide_eq_true (by show _ ≤ 16; omega) | exact decide_eq_true (And.intro rfl (by show _ ≤ 16; omega)) | exact decide_eq_true (And.intro rfl (by show _ ≤ 16; simp only [List.length_cons, List.length_nil]; omega)))); rw [Int.toNat_natCast, put_act _ hr]) | refine brP_t (by assumption) ?_ | refine brP_f (by assumption) ?_ | refine brP_t (decide_eq_true (by omega)) ?_ | refine brP_f (decide_eq_false (by omega)) ?_ | refine brP_t (nd_t (by omega)) ?_ | refine brP_f (nd_f (by omega)) ?_ | ((conv in (opS _ _ _ _) => whnf); rw [Int.toNat_natCast, g2]) | ((conv in (opM _ _ _ _ _) => whnf); (conv in (opS _ _ _ _) => whnf); rw [Int.toNat_natCast, g2]) | refine callK_p c2 ?_ | refine callM_p c2 rfl ?_ | refine callK_pf rfl c2 ?_ | refine callK_pk rfl c2 ?_ | ((rw [hor])) | refine wpfS_seq1 ?_ | refine wpfS_go ?_ | fail) <;> conv => whnf)
    rfl
set_option maxHeartbeats 2000000 in
theorem change_own_ok (p : Pol) (hp : p.Ok) (c : Chg) (ha : 0 ≤ c.a ∧ c.a ≤ 15) (hb : 0 ≤ c.b ∧ c.b ≤ 16) : EvP PR G f_change_own [p.v, .agg c.row] (resQ (ownQ p c)) := by
  obtain ⟨k, a, b, s, i⟩ := c
  dsimp only at ha hb
  obtain ⟨r, rfl⟩ := Int.eq_ofNat_of_zero_le ha.1
  obtain ⟨q, rfl⟩ := Int.eq_ofNat_of_zero_le hb.1
  have hr : r < 16 := by omega
  rw [chgrow]
  unfold ownQ
  dsimp only
  rw [Int.toNat_natCast, Int.toNat_natCast]
  have c1 := tagset_Has_ok p.active r hp.active
  have c2 := change_live1_ok p hp q
  have hw : IntKind.u8.wrap (q : Int) = (q : Int) := wrap8 (by omega)
  refine EvP.of_wpf false hm c_change_own rfl ?_
  refine wpf_seq1 ?_
  conv => whnf
  cases h1 : hasN p.active r with
  | false =>
    rw [h1] at c1
    repeat' ((first | refine brP_t (by assumption) ?_ | refine brP_f (by assumption) ?_ | refine brP_t (decide_eq_true (by omega)) ?_ | refine brP_f (decide_eq_false (by omega)) ?_ | refine brP_t (nd_t (by omega)) ?_ | refine brP_f (nd_f (by omega)) ?_ | refine callK_p c1 ?_ | refine callM_p c1 rfl ?_ | refine callK_pf rfl c1 ?_ | refine callK_pk rfl c1 ?_ | refine wpfS_seq1 ?_ | refine wpfS_go ?_ | fail) <;> conv => whnf)
    rfl
  | true =>
    rw [h1] at c1
    by_cases h16 : (q : Int) = 16
    · rw [decide_eq_true h16]
      repeat' ((first | (refine gd_mk ?_ ?_; (focus (first | exact decide_eq_true (by rw [pol_len]; omega) | exact decide_eq_true (And.intro rfl (by rw [pol_len]; simp only [List.length_cons, List.length_nil]; omega)) | exact decide_eq_true (And.intro rfl (by rw [pol_len]; omega)) | exact decide_eq_true (by rw [pol_len]; simp only [List.length_cons, List.length_nil]; omega) | exact decide_eq_true (by show _ ≤ 16; omega) | exact decide_eq_true (And.intro rfl (by show _ ≤ 16; omega)) | exact decide_eq_true (And.intro rfl (by show _ ≤ 16; simp only [List.length_cons, List.length_nil]; omega)))); rw [Int.toNat_natCast, put_own _ hr]) | refine brP_t (by assumption) ?_ | refine brP_f (by assumption) ?_ | refine brP_t (decide_eq_true (by omega)) ?_ | refine brP_f (decide_eq_false (by omega)) ?_ | refine brP_t (nd_t (by omega)) ?_ | refine brP_f (nd_f (by omega)) ?_ | refine callK_p c1 ?_ | refine callM_p c1 rfl ?_ | refine callK_pf rfl c1 ?_ | refine callK_pk rfl c1 ?_ | refine callK_p c2 ?_ | refine callM_p c2 rfl ?_ | refine callK_pf rfl c2 ?_ | refine callK_pk rfl c2 ?_ | ((rw [hw])) | refine wpfS_seq1 ?_ | refine wpfS_go ?_ | fail) <;> conv => whnf)
      rfl
    · rw [decide_eq_false h16]
      cases h2 : hasN p.live q with
      | false =>
        rw [h2] at c2
        repeat' ((first | refine brP_t (by assumption) ?_ | refine brP_f (by assumption) ?_ | refine brP_t (decide_eq_true (by omega)) ?_ | refine brP_f (decide_eq_false (by omega)) ?_ | refine brP_t (nd_t (by omega)) ?_ | refine brP_f (nd_f (by omega)) ?_ | refine callK_p c1 ?_ | refine callM_p c1 rfl ?_ | refine callK_pf rfl c1 ?_ | refine callK_pk rfl c1 ?_ | refine callK_p c2 ?_ | refine callM_p c2 rfl ?_ | refine callK_pf rfl c2 ?_ | refine callK_pk rfl c2 ?_ | refine wpfS_seq1 ?_ | refine wpfS_go ?_ | fail) <;> conv => whnf)
        rfl
      | true =>
        rw [h2] at c2
        repeat' ((first | (refine gd_mk ?_ ?_; (focus (first | exact decide_eq_true (by rw [pol_len]; omega) | exact decide_eq_true (And.intro rfl (by rw [pol_len]; simp only [List.length_cons, List.length_nil]; omega)) | exact decide_eq_true (And.intro rfl (by rw [pol_len]; omega)) | exact decide_eq_true (by rw [pol_len]; simp only [List.length_cons, List.length_nil]; omega) | exact decide_eq_true (by show _ ≤ 16; omega) | exact decide_eq_true (And.intro rfl (by show _ ≤ 16; omega)) | exact decide_eq_true (And.intro rfl (by show _ ≤ 16; simp only [List.length_cons, List.length_nil]; omega)))); rw [Int.toNat_natCast, put_own _ hr]) | refine brP_t (by assumption) ?_ | refine brP_f (by assumption) ?_ | refine brP_t (decide_eq_true (by omega)) ?_ | refine brP_f (decide_eq_false (by omega)) ?_ | refine brP_t (nd_t (by omega)) ?_ | refine brP_f (nd_f (by omega)) ?_ | refine callK_p c1 ?_ | refine callM_p c1 rfl ?_ | refine callK_pf rfl c1 ?_ | refine callK_pk rfl c1 ?_ | refine callK_p c2 ?_ | refine callM_p c2 rfl ?_ | refine callK_pf rfl c2 ?_ | refine callK_pk rfl c2 ?_ | ((rw [hw])) | refine wpfS_seq1 ?_ | refine wpfS_go ?_ | fail) <;> conv => whnf)
        rfl
end Go.Ab.S

namespace Go.Ab.S
open Go Go.Ab Go.Proofs
attribute [local irreducible] SemS
set_option maxRecDepth 100000
def dropP (p : Pol) (r : Nat) : Pol := ⟨diffN p.live (2 ^ r), updF p.ls r 0, updF p.li r 0, fun j => diffN (updF p.acts r 0 j) (2 ^ r), fun t => if p.own t = r then 16 else p.own t, p.active⟩
def dropQ (p : Pol) (c : Chg) : Pol × Int := if hasN p.live c.a then (dropP p c.a.toNat, 0) else (p, 6)
/-- The first i roles act for it no more; the first j tags are nobody's, if they were its own. -/
def dropTo (q : Pol) (r i j : Nat) : Pol := { q with
  acts := fun x => if x < i then diffN (q.acts x) (2 ^ r) else q.acts x
  own := fun t => if t < j then (if q.own t = r then 16 else q.own t) else q.own t }
theorem upd_to {f g : Nat → Nat} {i v : Nat} (hv : v = f i) (x : Nat) : updF (fun x => if x < i then f x else g x) i v x = if x < i + 1 then f x else g x := by
  by_cases e : x = i
  · subst e; rw [upd_at, if_pos (by omega), hv]
  · rw [upd_ne _ e]
    by_cases h : x < i
    · rw [if_pos h, if_pos (by omega)]
    · rw [if_neg h, if_neg (by omega)]
theorem dropTo_act (q : Pol) (r i : Nat) : (setAct (dropTo q r i 0) i (diffN (q.acts i) (2 ^ r))).row = (dropTo q r (i + 1) 0).row :=
  Pol.row_ext rfl (fun _ _ => rfl) (fun _ _ => rfl) (fun x _ => upd_to (f := fun x => diffN (q.acts x) (2 ^ r)) (g := q.acts) rfl x) (fun _ _ => rfl) rfl
theorem dropTo_own (q : Pol) (r i : Nat) (h : q.own i = r) : (setOwn (dropTo q r 16 i) i 16).row = (dropTo q r 16 (i + 1)).row :=
  Pol.row_ext rfl (fun _ _ => rfl) (fun _ _ => rfl) (fun _ _ => rfl) (fun x _ => upd_to (f := fun t => if q.own t = r then 16 else q.own t) (g := q.own) (by show 16 = if q.own i = r then 16 else q.own i; rw [if_pos h]) x) rfl
theorem dropTo_skip (q : Pol) (r i : Nat) (h : ¬ q.own i = r) : (dropTo q r 16 i).row = (dropTo q r 16 (i + 1)).row := by
  refine Pol.row_ext rfl (fun _ _ => rfl) (fun _ _ => rfl) (fun _ _ => rfl) (fun x _ => ?_) rfl
  show (if x < i then (if q.own x = r then 16 else q.own x) else q.own x) = if x < i + 1 then (if q.own x = r then 16 else q.own x) else q.own x
  by_cases e : x = i
  · subst e; rw [if_neg (by omega), if_pos (by omega), if_neg h]
  · have e2 : (x < i + 1) ↔ (x < i) := by omega
    simp only [e2]
theorem dropTo_end (p : Pol) (r : Nat) : (dropTo (setAct (setLab (setLive p (diffN p.live (2 ^ r))) r 0 0) r 0) r 16 16).row = (dropP p r).row := by
  refine Pol.row_ext rfl (fun _ _ => rfl) (fun _ _ => rfl) (fun x hx => ?_) (fun x hx => ?_) rfl
  · show (if x < 16 then diffN (updF p.acts r 0 x) (2 ^ r) else updF p.acts r 0 x) = _
    rw [if_pos hx]; rfl
  · show (if x < 16 then (if p.own x = r then 16 else p.own x) else p.own x) = _
    rw [if_pos hx]; rfl
set_option maxHeartbeats 4000000 in
theorem change_dropRole_ok (p : Pol) (hp : p.Ok) (c : Chg) (ha : 0 ≤ c.a ∧ c.a ≤ 15) : EvP PR G f_change_dropRole [p.v, .agg c.row] (resQ (dropQ p c)) := by
  obtain ⟨k, a, b, s, i0⟩ := c
  dsimp only at ha
  obtain ⟨r, rfl⟩ := Int.eq_ofNat_of_zero_le ha.1
  have hr : r < 16 := by omega
  rw [chgrow]
  unfold dropQ
  dsimp only
  rw [Int.toNat_natCast]
  have c1 := change_live1_ok p hp r
  have hlv := diff_shl (x := p.live) hr
  refine EvP.of_wpf false hm c_change_dropRole rfl ?_
  refine wpf_seq1 ?_
  conv => whnf
  cases hl : hasN p.live r with
  | false =>
    rw [hl] at c1
    repeat' ((first | refine brP_t (by assumption) ?_ | refine brP_f (by assumption) ?_ | refine brP_t (decide_eq_true (by omega)) ?_ | refine brP_f (decide_eq_false (by omega)) ?_ | refine brP_t (nd_t (by omega)) ?_ | refine brP_f (nd_f (by omega)) ?_ | refine callK_p c1 ?_ | refine callM_p c1 rfl ?_ | refine callK_pf rfl c1 ?_ | refine callK_pk rfl c1 ?_ | refine wpfS_seq1 ?_ | refine wpfS_go ?_ | fail) <;> conv => whnf)
    rfl
  | true =>
    rw [hl] at c1
    rw [if_pos rfl]
    have hpt := put_liveI p hlv
    repeat' ((first | (refine gd_mk ?_ ?_; (focus (first | exact decide_eq_true (by rw [pol_len]; omega) | exact decide_eq_true (And.intro rfl (by rw [pol_len]; simp only [List.length_cons, List.length_nil]; omega)) | exact decide_eq_true (And.intro rfl (by rw [pol_len]; omega)) | exact decide_eq_true (by rw [pol_len]; simp only [List.length_cons, List.length_nil]; omega) | exact decide_eq_true (by show _ ≤ 16; omega) | exact decide_eq_true (And.intro rfl (by show _ ≤ 16; omega)) | exact decide_eq_true (And.intro rfl (by show _ ≤ 16; simp only [List.length_cons, List.length_nil]; omega)))); rw [Int.toNat_natCast, put_act0 _ hr]) | (refine gd_mk ?_ ?_; (focus (first | exact decide_eq_true (by rw [pol_len]; omega) | exact decide_eq_true (And.intro rfl (by rw [pol_len]; simp only [List.length_cons, List.length_nil]; omega)) | exact decide_eq_true (And.intro rfl (by rw [pol_len]; omega)) | exact decide_eq_true (by rw [pol_len]; simp only [List.length_cons, List.length_nil]; omega) | exact decide_eq_true (by show _ ≤ 16; omega) | exact decide_eq_true (And.intro rfl (by show _ ≤ 16; omega)) | exact decide_eq_true (And.intro rfl (by show _ ≤ 16; simp only [List.length_cons, List.length_nil]; omega)))); rw [Int.toNat_natCast, put_lab0 _ hr]) | refine brP_t (by assumption) ?_ | refine brP_f (by assumption) ?_ | refine brP_t (decide_eq_true (by omega)) ?_ | refine brP_f (decide_eq_false (by omega)) ?_ | refine brP_t (nd_t (by omega)) ?_ | refine brP_f (nd_f (by omega)) ?_ | refine callK_p c1 ?_ | refine callM_p c1 rfl ?_ | refine callK_pf rfl c1 ?_ | refine callK_pk rfl c1 ?_ | ((rw [hpt])) | refine wpfS_seq1 ?_ | refine wpfS_go ?_ | fail) <;> conv => whnf)
    have hend := dropTo_end p r
    have ho : ∀ t, t < 16 → (setAct (setLab (setLive p (diffN p.live (2 ^ r))) r 0 0) r 0).own t ≤ 255 := fun t ht => hp.own t ht
    generalize setAct (setLab (setLive p (diffN p.live (2 ^ r))) r 0 0) r 0 = q at *
    refine SemS.loopF false hm (σ := Nat) (fun i => [(32, iv i), (2, .c (.ptr (.loc 0) 0)), (3, .c (.ptr (.loc 1) 0)), (4, .c (.ptr (.loc 2) 0))]) (fun i => ⟨[], [.row (dropTo q r i 0).row, .row [.int .i64 k, .int .i64 r, .int .i64 b, .int .u16 s, .int .u16 i0], .row zeroP.row]⟩) (fun i => 16 - i) (fun i => i ≤ 16) 0 (Nat.zero_le _) ⟨rfl, rfl, rfl, rfl, trivial⟩ rfl ?_
    intro i hi
    refine wpf_seq1 ?_
    conv => whnf
    try (refine wpfS_seq1 ?_; conv => whnf)
    refine brP_mk (fun h => ?_) (fun h => ?_)
    · have hi' : i < 16 := by have := of_decide_eq_true h; omega
      clear h
      have hw2 : IntKind.i64.wrap ((i : Int) + 1) = ((i + 1 : Nat) : Int) := by rw [wrap64 (by omega)]; rfl
      have g2 : partP false 1 (dropTo q r i 0).row (0 + 33 + i * 1) = some (true, uv (q.acts i)) := by
        rw [pol_act _ hi']
        show some (true, uv (((if i < i then diffN (q.acts i) (2 ^ r) else q.acts i : Nat)) : Int)) = _
        rw [if_neg (Nat.lt_irrefl i)]
      have hdf := diff_shl (x := q.acts i) hr
      have hst := dropTo_act q r i
      repeat' ((first | (refine gd_mk ?_ ?_; (focus (first | exact decide_eq_true (by rw [pol_len]; omega) | exact decide_eq_true (And.intro rfl (by rw [pol_len]; simp only [List.length_cons, List.length_nil]; omega)) | exact decide_eq_true (And.intro rfl (by rw [pol_len]; omega)) | exact decide_eq_true (by rw [pol_len]; simp only [List.length_cons, List.length_nil]; omega) | exact decide_eq_true (by show _ ≤ 16; omega) | exact decide_eq_true (And.intro rfl (by show _ ≤ 16; omega)) | exact decide_eq_true (And.intro rfl (by show _ ≤ 16; simp only [List.length_cons, List.length_nil]; omega)))); rw [Int.toNat_natCast, put_act _ hi']) | refine brP_t (by assumption) ?_ | refine brP_f (by assumption) ?_ | refine brP_t (decide_eq_true (by omega)) ?_ | refine brP_f (decide_eq_false (by omega)) ?_ | refine brP_t (nd_t (by omega)) ?_ | refine brP_f (nd_f (by omega)) ?_ | ((conv in (opS _ _ _ _) => whnf); rw [Int.toNat_natCast, g2]) | ((conv in (opM _ _ _ _ _) => whnf); (conv in (opS _ _ _ _) => whnf); rw [Int.toNat_natCast, g2]) | ((rw [hdf])) | ((rw [hw2])) | refine wpfS_seq1 ?_ | refine wpfS_go ?_ | fail) <;> conv => whnf)
      refine ⟨i + 1, hi', (show 16 - (i + 1) < 16 - i by omega), ⟨rfl, rfl, rfl, rfl, trivial⟩, ?_⟩
      show (⟨[], [.row (setAct (dropTo q r i 0) i (diffN (q.acts i) (2 ^ r))).row, _, _]⟩ : Hp) = _
      rw [hst]
    have hi' : i = 16 := by have := of_decide_eq_false h; omega
    subst hi'
    clear h
    repeat' ((first | refine brP_t (by assumption) ?_ | refine brP_f (by assumption) ?_ | refine brP_t (decide_eq_true (by omega)) ?_ | refine brP_f (decide_eq_false (by omega)) ?_ | refine brP_t (nd_t (by omega)) ?_ | refine brP_f (nd_f (by omega)) ?_ | refine wpfS_seq1 ?_ | refine wpfS_go ?_ | fail) <;> conv => whnf)
    refine SemS.loopF false hm (σ := Nat) (fun i => [(48, iv i), (47, .agg (mrow q.own)), (2, .c (.ptr (.loc 0) 0)), (3, .c (.ptr (.loc 1) 0)), (4, .c (.ptr (.loc 2) 0))]) (fun i => ⟨[], [.row (dropTo q r 16 i).row, .row [.int .i64 k, .int .i64 r, .int .i64 b, .int .u16 s, .int .u16 i0], .row zeroP.row]⟩) (fun i => 16 - i) (fun i => i ≤ 16) 0 (Nat.zero_le _) ⟨rfl, rfl, rfl, rfl, rfl, trivial⟩ rfl ?_
    intro i hi
    refine wpf_seq1 ?_
    conv => whnf
    try (refine wpfS_seq1 ?_; conv => whnf)
    refine brP_mk (fun h => ?_) (fun h => ?_)
    · have hi' : i < 16 := by have := of_decide_eq_true h; omega
      clear h
      have hw2 : IntKind.i64.wrap ((i : Int) + 1) = ((i + 1 : Nat) : Int) := by rw [wrap64 (by omega)]; rfl
      have g2 := own_at q.own hi'
      have hw := wrapU8 (q.own i) (ho i hi')
      by_cases hr' : q.own i = r
      · have hst := dropTo_own q r i hr'
        have hq : ((q.own i : Nat) : Int) = (r : Int) := by rw [hr']
        repeat' ((first | (refine gd_mk ?_ ?_; (focus (first | exact decide_eq_true (by rw [pol_len]; omega) | exact decide_eq_true (And.intro rfl (by rw [pol_len]; simp only [List.length_cons, List.length_nil]; omega)) | exact decide_eq_true (And.intro rfl (by rw [pol_len]; omega)) | exact decide_eq_true (by rw [pol_len]; simp only [List.length_cons, List.length_nil]; omega) | exact decide_eq_true (by show _ ≤ 16; omega) | exact decide_eq_true (And.intro rfl (by show _ ≤ 16; omega)) | exact decide_eq_true (And.intro rfl (by show _ ≤ 16; simp only [List.length_cons, List.length_nil]; omega)))); rw [Int.toNat_natCast, put_own16 _ hi']) | refine brP_t (by assumption) ?_ | refine brP_f (by assumption) ?_ | refine brP_t (decide_eq_true (by omega)) ?_ | refine brP_f (decide_eq_false (by omega)) ?_ | refine brP_t (nd_t (by omega)) ?_ | refine brP_f (nd_f (by omega)) ?_ | ((conv in (opS _ _ _ _) => whnf); rw [Int.toNat_natCast, g2]) | ((conv in (opM _ _ _ _ _) => whnf); (conv in (opS _ _ _ _) => whnf); rw [Int.toNat_natCast, g2]) | ((rw [hw])) | ((rw [hw2])) | refine wpfS_seq1 ?_ | refine wpfS_go ?_ | fail) <;> conv => whnf)
        refine ⟨i + 1, hi', (show 16 - (i + 1) < 16 - i by omega), ⟨rfl, rfl, rfl, rfl, rfl, trivial⟩, ?_⟩
        show (⟨[], [.row (setOwn (dropTo q r 16 i) i 16).row, _, _]⟩ : Hp) = _
        rw [hst]
      · have hst := dropTo_skip q r i hr'
        have hq : ¬ ((q.own i : Nat) : Int) = (r : Int) := by omega
        repeat' ((first | refine brP_t (by assumption) ?_ | refine brP_f (by assumption) ?_ | refine brP_t (decide_eq_true (by omega)) ?_ | refine brP_f (decide_eq_false (by omega)) ?_ | refine brP_t (nd_t (by omega)) ?_ | refine brP_f (nd_f (by omega)) ?_ | ((conv in (opS _ _ _ _) => whnf); rw [Int.toNat_natCast, g2]) | ((conv in (opM _ _ _ _ _) => whnf); (conv in (opS _ _ _ _) => whnf); rw [Int.toNat_natCast, g2]) | ((rw [hw])) | ((rw [hw2])) | refine wpfS_seq1 ?_ | refine wpfS_go ?_ | fail) <;> conv => whnf)
        refine ⟨i + 1, hi', (show 16 - (i + 1) < 16 - i by omega), ⟨rfl, rfl, rfl, rfl, rfl, trivial⟩, ?_⟩
        show (⟨[], [.row (dropTo q r 16 i).row, _, _]⟩ : Hp) = _
        rw [hst]
    have hi' : i = 16 := by have := of_decide_eq_false h; omega
    subst hi'
    clear h
    rw [hend]
    repeat' ((first | refine brP_t (by assumption) ?_ | refine brP_f (by assumption) ?_ | refine brP_t (decide_eq_true (by omega)) ?_ | refine brP_f (decide_eq_false (by omega)) ?_ | refine brP_t (nd_t (by omega)) ?_ | refine brP_f (nd_f (by omega)) ?_ | refine wpfS_seq1 ?_ | refine wpfS_go ?_ | fail) <;> conv => whnf)
    rfl
end Go.Ab.S

namespace Go.Ab.S
open Go Go.Ab Go.Proofs
attribute [local irreducible] SemS
set_option maxRecDepth 100000
theorem id_okC : ∀ i, i < 16 → (id : Nat → Nat) i ≤ 255 := fun i hi => by show i ≤ 255; omega
theorem moveN_le {M : Nat → Nat} (hM : ∀ i, i < 16 → M i ≤ 255) {a b : Int} (hb : b.toNat ≤ 255) : ∀ i, i < 16 → moveN M a b i ≤ 255 := fun i hi => by
  unfold moveN
  split
  · exact hb
  · exact hM i hi
def revokeQ (p : Pol) (c : Chg) : Pol × Int :=
  if hasN p.active c.a && hasN p.active c.b then (if mayB id c.a c.b then (mapP (moveN id c.a c.b) p, 0) else (p, 1)) else (p, 6)
set_option maxHeartbeats 4000000 in
theorem change_revoke_ok (p : Pol) (hp : p.Ok) (c : Chg) (hb : 0 ≤ c.b ∧ c.b ≤ 15) : EvP PR G f_change_revoke [p.v, .agg c.row] (resQ (revokeQ p c)) := by
  obtain ⟨k, a, b, s, i0⟩ := c
  dsimp only at hb
  rw [chgrow]
  unfold revokeQ
  dsimp only
  have c1 := tagset_Has_ok p.active a hp.active
  have c2 := tagset_Has_ok p.active b hp.active
  have c3 := relabel_Same_ok
  have c4 := relabel_Move_ok id id_okC a b
  have c5 := policy_Mapped_ok (moveN id a b) (moveN_le id_okC (by omega)) p hp
  refine EvP.of_wpf false hm c_change_revoke rfl ?_
  refine wpf_seq1 ?_
  conv => whnf
  cases h1 : hasN p.active a with
  | false =>
    rw [h1] at c1
    repeat' ((first | refine brP_t (by assumption) ?_ | refine brP_f (by assumption) ?_ | refine brP_t (decide_eq_true (by omega)) ?_ | refine brP_f (decide_eq_false (by omega)) ?_ | refine brP_t (nd_t (by omega)) ?_ | refine brP_f (nd_f (by omega)) ?_ | refine callK_p c1 ?_ | refine callM_p c1 rfl ?_ | refine callK_pf rfl c1 ?_ | refine callK_pk rfl c1 ?_ | refine wpfS_seq1 ?_ | refine wpfS_go ?_ | fail) <;> conv => whnf)
    rfl
  | true =>
    rw [h1] at c1
    cases h2 : hasN p.active b with
    | false =>
      rw [h2] at c2
      repeat' ((first | refine brP_t (by assumption) ?_ | refine brP_f (by assumption) ?_ | refine brP_t (decide_eq_true (by omega)) ?_ | refine brP_f (decide_eq_false (by omega)) ?_ | refine brP_t (nd_t (by omega)) ?_ | refine brP_f (nd_f (by omega)) ?_ | refine callK_p c1 ?_ | refine callM_p c1 rfl ?_ | refine callK_pf rfl c1 ?_ | refine callK_pk rfl c1 ?_ | refine callK_p c2 ?_ | refine callM_p c2 rfl ?_ | refine callK_pf rfl c2 ?_ | refine callK_pk rfl c2 ?_ | refine wpfS_seq1 ?_ | refine wpfS_go ?_ | fail) <;> conv => whnf)
      rfl
    | true =>
      rw [h2] at c2
      cases hm' : mayB id a b with
      | false =>
        rw [hm', if_neg (by decide), if_neg (by decide)] at c4
        repeat' ((first | refine brP_t (by assumption) ?_ | refine brP_f (by assumption) ?_ | refine brP_t (decide_eq_true (by omega)) ?_ | refine brP_f (decide_eq_false (by omega)) ?_ | refine brP_t (nd_t (by omega)) ?_ | refine brP_f (nd_f (by omega)) ?_ | refine wpfS_seq1 ?_ | refine wpfS_go ?_ | fail) <;> conv => whnf)
        (first | refine callK_p c1 ?_ | refine callM_p c1 rfl ?_ | refine callK_pf rfl c1 ?_ | refine callK_pk rfl c1 ?_)
        conv => whnf
        repeat' ((first | refine brP_t (by assumption) ?_ | refine brP_f (by assumption) ?_ | refine brP_t (decide_eq_true (by omega)) ?_ | refine brP_f (decide_eq_false (by omega)) ?_ | refine brP_t (nd_t (by omega)) ?_ | refine brP_f (nd_f (by omega)) ?_ | refine wpfS_seq1 ?_ | refine wpfS_go ?_ | fail) <;> conv => whnf)
        (first | refine callK_p c2 ?_ | refine callM_p c2 rfl ?_ | refine callK_pf rfl c2 ?_ | refine callK_pk rfl c2 ?_)
        conv => whnf
        repeat' ((first | refine brP_t (by assumption) ?_ | refine brP_f (by assumption) ?_ | refine brP_t (decide_eq_true (by omega)) ?_ | refine brP_f (decide_eq_false (by omega)) ?_ | refine brP_t (nd_t (by omega)) ?_ | refine brP_f (nd_f (by omega)) ?_ | refine wpfS_seq1 ?_ | refine wpfS_go ?_ | fail) <;> conv => whnf)
        (first | refine callK_p c3 ?_ | refine callM_p c3 rfl ?_ | refine callK_pf rfl c3 ?_ | refine callK_pk rfl c3 ?_)
        conv => whnf
        repeat' ((first | refine brP_t (by assumption) ?_ | refine brP_f (by assumption) ?_ | refine brP_t (decide_eq_true (by omega)) ?_ | refine brP_f (decide_eq_false (by omega)) ?_ | refine brP_t (nd_t (by omega)) ?_ | refine brP_f (nd_f (by omega)) ?_ | refine wpfS_seq1 ?_ | refine wpfS_go ?_ | fail) <;> conv => whnf)
        (first | refine callK_p c4 ?_ | refine callM_p c4 rfl ?_ | refine callK_pf rfl c4 ?_ | refine callK_pk rfl c4 ?_)
        conv => whnf
        repeat' ((first | refine brP_t (by assumption) ?_ | refine brP_f (by assumption) ?_ | refine brP_t (decide_eq_true (by omega)) ?_ | refine brP_f (decide_eq_false (by omega)) ?_ | refine brP_t (nd_t (by omega)) ?_ | refine brP_f (nd_f (by omega)) ?_ | refine wpfS_seq1 ?_ | refine wpfS_go ?_ | fail) <;> conv => whnf)
        rfl
      | true =>
        rw [hm', if_pos rfl, if_pos rfl] at c4
        generalize moveN id a b = M at *
        repeat' ((first | refine brP_t (by assumption) ?_ | refine brP_f (by assumption) ?_ | refine brP_t (decide_eq_true (by omega)) ?_ | refine brP_f (decide_eq_false (by omega)) ?_ | refine brP_t (nd_t (by omega)) ?_ | refine brP_f (nd_f (by omega)) ?_ | refine wpfS_seq1 ?_ | refine wpfS_go ?_ | fail) <;> conv => whnf)
        (first | refine callK_p c1 ?_ | refine callM_p c1 rfl ?_ | refine callK_pf rfl c1 ?_ | refine callK_pk rfl c1 ?_)
        conv => whnf
        repeat' ((first | refine brP_t (by assumption) ?_ | refine brP_f (by assumption) ?_ | refine brP_t (decide_eq_true (by omega)) ?_ | refine brP_f (decide_eq_false (by omega)) ?_ | refine brP_t (nd_t (by omega)) ?_ | refine brP_f (nd_f (by omega)) ?_ | refine wpfS_seq1 ?_ | refine wpfS_go ?_ | fail) <;> conv => whnf)
        (first | refine callK_p c2 ?_ | refine callM_p c2 rfl ?_ | refine callK_pf rfl c2 ?_ | refine callK_pk rfl c2 ?_)
        conv => whnf
        repeat' ((first | refine brP_t (by assumption) ?_ | refine brP_f (by assumption) ?_ | refine brP_t (decide_eq_true (by omega)) ?_ | refine brP_f (decide_eq_false (by omega)) ?_ | refine brP_t (nd_t (by omega)) ?_ | refine brP_f (nd_f (by omega)) ?_ | refine wpfS_seq1 ?_ | refine wpfS_go ?_ | fail) <;> conv => whnf)
        (first | refine callK_p c3 ?_ | refine callM_p c3 rfl ?_ | refine callK_pf rfl c3 ?_ | refine callK_pk rfl c3 ?_)
        conv => whnf
        repeat' ((first | refine brP_t (by assumption) ?_ | refine brP_f (by assumption) ?_ | refine brP_t (decide_eq_true (by omega)) ?_ | refine brP_f (decide_eq_false (by omega)) ?_ | refine brP_t (nd_t (by omega)) ?_ | refine brP_f (nd_f (by omega)) ?_ | refine wpfS_seq1 ?_ | refine wpfS_go ?_ | fail) <;> conv => whnf)
        (first | refine callK_p c4 ?_ | refine callM_p c4 rfl ?_ | refine callK_pf rfl c4 ?_ | refine callK_pk rfl c4 ?_)
        conv => whnf
        repeat' ((first | refine brP_t (by assumption) ?_ | refine brP_f (by assumption) ?_ | refine brP_t (decide_eq_true (by omega)) ?_ | refine brP_f (decide_eq_false (by omega)) ?_ | refine brP_t (nd_t (by omega)) ?_ | refine brP_f (nd_f (by omega)) ?_ | refine wpfS_seq1 ?_ | refine wpfS_go ?_ | fail) <;> conv => whnf)
        (first | refine callK_p c5 ?_ | refine callM_p c5 rfl ?_ | refine callK_pf rfl c5 ?_ | refine callK_pk rfl c5 ?_)
        conv => whnf
        repeat' ((first | refine brP_t (by assumption) ?_ | refine brP_f (by assumption) ?_ | refine brP_t (decide_eq_true (by omega)) ?_ | refine brP_f (decide_eq_false (by omega)) ?_ | refine brP_t (nd_t (by omega)) ?_ | refine brP_f (nd_f (by omega)) ?_ | refine wpfS_seq1 ?_ | refine wpfS_go ?_ | fail) <;> conv => whnf)
        rfl
/-- What a change that may be does. -/
def doQ (p : Pol) (c : Chg) : Pol × Int :=
  if c.k = 1 then addQ p c else if c.k = 2 then dropQ p c else if c.k = 3 then linkQ p c else if c.k = 4 then unlinkQ p c else if c.k = 5 then ownQ p c else revokeQ p c
def oneQ (p : Pol) (c : Chg) : Pol × Int :=
  if c.fine then (if (doQ p c).2 = 0 then doQ p c else (zeroP, (doQ p c).2)) else (zeroP, 3)
theorem Chg.fine_iff {c : Chg} : c.fine = true → (1 ≤ c.k ∧ c.k ≤ 6) ∧ (0 ≤ c.a ∧ c.a ≤ 15) ∧ 0 ≤ c.b ∧ c.b ≤ mostB c.k := fun h => by
  unfold Chg.fine at h
  rw [Bool.and_eq_true] at h
  have := of_decide_eq_true h.1
  exact ⟨⟨this.1, this.2.1⟩, ⟨this.2.2.1, this.2.2.2.1⟩, this.2.2.2.2⟩
set_option maxHeartbeats 8000000 in
theorem change_One_ok (p : Pol) (hp : p.Ok) (c : Chg) (hs : c.s < 65536) (hi : c.i < 65536) : EvP PR G f_change_One [p.v, .agg c.row] (resQ (oneQ p c)) := by
  have c0 := change_Fine_ok c
  have c1 := change_deeds_ok
  unfold oneQ
  cases hf : c.fine with
  | false =>
    rw [hf] at c0
    refine EvP.of_wpf false hm c_change_One rfl ?_
    refine wpf_seq1 ?_
    conv => whnf
    repeat' ((first | refine brP_t (by assumption) ?_ | refine brP_f (by assumption) ?_ | refine brP_t (decide_eq_true (by omega)) ?_ | refine brP_f (decide_eq_false (by omega)) ?_ | refine brP_t (nd_t (by omega)) ?_ | refine brP_f (nd_f (by omega)) ?_ | refine wpfS_seq1 ?_ | refine wpfS_go ?_ | fail) <;> conv => whnf)
    (first | refine callK_p c0 ?_ | refine callM_p c0 rfl ?_ | refine callK_pf rfl c0 ?_ | refine callK_pk rfl c0 ?_)
    conv => whnf
    repeat' ((first | refine brP_t (by assumption) ?_ | refine brP_f (by assumption) ?_ | refine brP_t (decide_eq_true (by omega)) ?_ | refine brP_f (decide_eq_false (by omega)) ?_ | refine brP_t (nd_t (by omega)) ?_ | refine brP_f (nd_f (by omega)) ?_ | refine wpfS_seq1 ?_ | refine wpfS_go ?_ | fail) <;> conv => whnf)
    rfl
  | true =>
    rw [hf] at c0
    rw [if_pos rfl]
    obtain ⟨hk, ha, hb0, hb⟩ := Chg.fine_iff hf
    have key : ∀ (g : FuncId) (n : Int), deedsR[c.k.toNat]? = some [.fn g [], .int .i64 n] → EvP PR G g [p.v, .agg c.row] (resQ (doQ p c)) → EvP PR G f_change_One [p.v, .agg c.row] (resQ (if (doQ p c).2 = 0 then doQ p c else (zeroP, (doQ p c).2))) := by
      intro g n hget hg
      generalize doQ p c = qe at *
      obtain ⟨q, e⟩ := qe
      have hg : EvP PR G g [p.v, .agg c.row] (.tup [q.v, iv e]) := hg
      dsimp only
      obtain ⟨k, a, b, s, i0⟩ := c
      dsimp only at hk hget
      have c0 : EvP PR G f_change_Fine [.agg [.int .i64 k, .int .i64 a, .int .i64 b, .int .u16 s, .int .u16 i0]] (bv true) := c0
      have hg : EvP PR G g [p.v, .agg [.int .i64 k, .int .i64 a, .int .i64 b, .int .u16 s, .int .u16 i0]] (.tup [q.v, iv e]) := hg
      show EvP PR G f_change_One [p.v, .agg [.int .i64 k, .int .i64 a, .int .i64 b, .int .u16 s, .int .u16 i0]] _
      refine EvP.of_wpf false hm c_change_One rfl ?_
      refine wpf_seq1 ?_
      conv => whnf
      by_cases he : e = 0
      · subst he
        rw [if_pos rfl]
        repeat' ((first | refine brP_t (by assumption) ?_ | refine brP_f (by assumption) ?_ | refine brP_t (decide_eq_true (by omega)) ?_ | refine brP_f (decide_eq_false (by omega)) ?_ | refine brP_t (nd_t (by omega)) ?_ | refine brP_f (nd_f (by omega)) ?_ | (refine gd_mk ?_ ?_; focus (exact decide_eq_true ⟨by omega, rfl⟩; done)) | refine wpfS_seq1 ?_ | refine wpfS_go ?_ | fail) <;> conv => whnf)
        (first | refine callK_p c0 ?_ | refine callM_p c0 rfl ?_ | refine callK_pf rfl c0 ?_ | refine callK_pk rfl c0 ?_)
        conv => whnf
        repeat' ((first | refine brP_t (by assumption) ?_ | refine brP_f (by assumption) ?_ | refine brP_t (decide_eq_true (by omega)) ?_ | refine brP_f (decide_eq_false (by omega)) ?_ | refine brP_t (nd_t (by omega)) ?_ | refine brP_f (nd_f (by omega)) ?_ | (refine gd_mk ?_ ?_; focus (exact decide_eq_true ⟨by omega, rfl⟩; done)) | refine wpfS_seq1 ?_ | refine wpfS_go ?_ | fail) <;> conv => whnf)
        (first | refine callK_p c1 ?_ | refine callM_p c1 rfl ?_ | refine callK_pf rfl c1 ?_ | refine callK_pk rfl c1 ?_)
        conv => whnf
        repeat' ((first | refine brP_t (by assumption) ?_ | refine brP_f (by assumption) ?_ | refine brP_t (decide_eq_true (by omega)) ?_ | refine brP_f (decide_eq_false (by omega)) ?_ | refine brP_t (nd_t (by omega)) ?_ | refine brP_f (nd_f (by omega)) ?_ | (refine gd_mk ?_ ?_; focus (exact decide_eq_true ⟨by omega, rfl⟩; done)) | refine wpfS_seq1 ?_ | refine wpfS_go ?_ | fail) <;> conv => whnf)
        (first | ((conv in (opS _ _ _ _) => whnf); rw [hget]) | ((conv in (opM _ _ _ _ _) => whnf); (conv in (opS _ _ _ _) => whnf); rw [hget]))
        conv => whnf
        repeat' ((first | refine brP_t (by assumption) ?_ | refine brP_f (by assumption) ?_ | refine brP_t (decide_eq_true (by omega)) ?_ | refine brP_f (decide_eq_false (by omega)) ?_ | refine brP_t (nd_t (by omega)) ?_ | refine brP_f (nd_f (by omega)) ?_ | (refine gd_mk ?_ ?_; focus (exact decide_eq_true ⟨by omega, rfl⟩; done)) | refine wpfS_seq1 ?_ | refine wpfS_go ?_ | fail) <;> conv => whnf)
        (first | refine callK_p hg ?_ | refine callM_p hg rfl ?_ | refine callK_pf rfl hg ?_ | refine callK_pk rfl hg ?_)
        conv => whnf
        repeat' ((first | refine brP_t (by assumption) ?_ | refine brP_f (by assumption) ?_ | refine brP_t (decide_eq_true (by omega)) ?_ | refine brP_f (decide_eq_false (by omega)) ?_ | refine brP_t (nd_t (by omega)) ?_ | refine brP_f (nd_f (by omega)) ?_ | (refine gd_mk ?_ ?_; focus (exact decide_eq_true ⟨by omega, rfl⟩; done)) | refine wpfS_seq1 ?_ | refine wpfS_go ?_ | fail) <;> conv => whnf)
        rfl
      · rw [if_neg he]
        repeat' ((first | refine brP_t (by assumption) ?_ | refine brP_f (by assumption) ?_ | refine brP_t (decide_eq_true (by omega)) ?_ | refine brP_f (decide_eq_false (by omega)) ?_ | refine brP_t (nd_t (by omega)) ?_ | refine brP_f (nd_f (by omega)) ?_ | (refine gd_mk ?_ ?_; focus (exact decide_eq_true ⟨by omega, rfl⟩; done)) | refine wpfS_seq1 ?_ | refine wpfS_go ?_ | fail) <;> conv => whnf)
        (first | refine callK_p c0 ?_ | refine callM_p c0 rfl ?_ | refine callK_pf rfl c0 ?_ | refine callK_pk rfl c0 ?_)
        conv => whnf
        repeat' ((first | refine brP_t (by assumption) ?_ | refine brP_f (by assumption) ?_ | refine brP_t (decide_eq_true (by omega)) ?_ | refine brP_f (decide_eq_false (by omega)) ?_ | refine brP_t (nd_t (by omega)) ?_ | refine brP_f (nd_f (by omega)) ?_ | (refine gd_mk ?_ ?_; focus (exact decide_eq_true ⟨by omega, rfl⟩; done)) | refine wpfS_seq1 ?_ | refine wpfS_go ?_ | fail) <;> conv => whnf)
        (first | refine callK_p c1 ?_ | refine callM_p c1 rfl ?_ | refine callK_pf rfl c1 ?_ | refine callK_pk rfl c1 ?_)
        conv => whnf
        repeat' ((first | refine brP_t (by assumption) ?_ | refine brP_f (by assumption) ?_ | refine brP_t (decide_eq_true (by omega)) ?_ | refine brP_f (decide_eq_false (by omega)) ?_ | refine brP_t (nd_t (by omega)) ?_ | refine brP_f (nd_f (by omega)) ?_ | (refine gd_mk ?_ ?_; focus (exact decide_eq_true ⟨by omega, rfl⟩; done)) | refine wpfS_seq1 ?_ | refine wpfS_go ?_ | fail) <;> conv => whnf)
        (first | ((conv in (opS _ _ _ _) => whnf); rw [hget]) | ((conv in (opM _ _ _ _ _) => whnf); (conv in (opS _ _ _ _) => whnf); rw [hget]))
        conv => whnf
        repeat' ((first | refine brP_t (by assumption) ?_ | refine brP_f (by assumption) ?_ | refine brP_t (decide_eq_true (by omega)) ?_ | refine brP_f (decide_eq_false (by omega)) ?_ | refine brP_t (nd_t (by omega)) ?_ | refine brP_f (nd_f (by omega)) ?_ | (refine gd_mk ?_ ?_; focus (exact decide_eq_true ⟨by omega, rfl⟩; done)) | refine wpfS_seq1 ?_ | refine wpfS_go ?_ | fail) <;> conv => whnf)
        (first | refine callK_p hg ?_ | refine callM_p hg rfl ?_ | refine callK_pf rfl hg ?_ | refine callK_pk rfl hg ?_)
        conv => whnf
        repeat' ((first | refine brP_t (by assumption) ?_ | refine brP_f (by assumption) ?_ | refine brP_t (decide_eq_true (by omega)) ?_ | refine brP_f (decide_eq_false (by omega)) ?_ | refine brP_t (nd_t (by omega)) ?_ | refine brP_f (nd_f (by omega)) ?_ | (refine gd_mk ?_ ?_; focus (exact decide_eq_true ⟨by omega, rfl⟩; done)) | refine wpfS_seq1 ?_ | refine wpfS_go ?_ | fail) <;> conv => whnf)
        rfl
    rcases kinds6 hk with h | h | h | h | h | h
    · refine key f_change_addRole 0 (by rw [h]; rfl) ?_
      have hd : doQ p c = addQ p c := if_pos h
      rw [hd]
      exact change_addRole_ok p hp c ha hs hi
    · refine key f_change_dropRole 0 (by rw [h]; rfl) ?_
      have hd : doQ p c = dropQ p c := by unfold doQ; rw [if_neg (by omega), if_pos h]
      rw [hd]
      exact change_dropRole_ok p hp c ha
    · refine key f_change_link 15 (by rw [h]; rfl) ?_
      have hd : doQ p c = linkQ p c := by unfold doQ; rw [if_neg (by omega), if_neg (by omega), if_pos h]
      rw [hd]
      exact change_link_ok p hp c ha ⟨hb0, by rw [h] at hb; exact hb⟩
    · refine key f_change_unlink 15 (by rw [h]; rfl) ?_
      have hd : doQ p c = unlinkQ p c := by unfold doQ; rw [if_neg (by omega), if_neg (by omega), if_neg (by omega), if_pos h]
      rw [hd]
      exact change_unlink_ok p hp c ha ⟨hb0, by rw [h] at hb; exact hb⟩
    · refine key f_change_own 16 (by rw [h]; rfl) ?_
      have hd : doQ p c = ownQ p c := by unfold doQ; rw [if_neg (by omega), if_neg (by omega), if_neg (by omega), if_neg (by omega), if_pos h]
      rw [hd]
      exact change_own_ok p hp c ha ⟨hb0, by rw [h] at hb; exact hb⟩
    · refine key f_change_revoke 15 (by rw [h]; rfl) ?_
      have hd : doQ p c = revokeQ p c := by unfold doQ; rw [if_neg (by omega), if_neg (by omega), if_neg (by omega), if_neg (by omega), if_neg (by omega)]
      rw [hd]
      exact change_revoke_ok p hp c ⟨hb0, by rw [h] at hb; exact hb⟩
end Go.Ab.S
