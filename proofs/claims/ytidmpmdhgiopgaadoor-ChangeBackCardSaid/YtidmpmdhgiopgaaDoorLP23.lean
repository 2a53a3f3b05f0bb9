/- Part of a proof; no condition. Part of a proof; no condition. Part of a proof; no condition. Part of a proof; no condition. -/
import Derived.Test.YtidmpmdhgiopgaaDoorLP16
import Derived.Test.YtidmpmdhgiopgaaDoorLPA
set_option linter.unusedSimpArgs false
set_option linter.unusedVariables false
namespace Go.Ab.S
open Go Go.Ab Go.Proofs
attribute [local irreducible] SemS
set_option maxRecDepth 100000
/-! ### The policies at the end of each statement -/
def secondP : Pol := ⟨3, fun r => if r = 1 then 4 else 0, fun r => if r = 0 then 65535 else 0, fun r => if r = 1 then 1 else 0, fun _ => 0, 65535⟩
def thirdP : Pol := ⟨2, fun _ => 0, fun _ => 0, fun r => if r = 1 then 2 else 0, fun _ => 0, 0⟩
theorem first_ok : firstP.Ok := by
  refine ⟨by decide, fun r _ => by show 0 < _; omega, fun r _ => ?_, fun r _ => by show 0 < _; omega, fun r _ => by show 0 ≤ _; omega, by decide⟩
  show (if r = 0 then 65535 else 0) < 65536
  split <;> omega
theorem label_Top_ok : EvP PR G f_label_Top [] (lab 65535 0) := EvP.of_rEq R0_ok 10 rfl (by kernel_rfl)
end Go.Ab.S

namespace Go.Ab.S
open Go Go.Ab Go.Proofs
attribute [local irreducible] SemS
set_option maxRecDepth 100000
/-! ### Other tags in some tags' places -/
def mapP (M : Nat → Nat) (p : Pol) : Pol := { p with
  ls := fun r => if p.live.testBit r then setN M (p.ls r) else p.ls r
  li := fun r => if p.live.testBit r then setN M (p.li r) else p.li r
  own := fun t => if (movedN M).testBit t then 16 else p.own t
  active := diffN p.active (movedN M) }
/-- The roles of a list are mapped, and the tags of another. -/
def mapTo (M : Nat → Nat) (p : Pol) (l k : List Nat) : Pol := { p with
  ls := fun r => if r ∈ l then setN M (p.ls r) else p.ls r
  li := fun r => if r ∈ l then setN M (p.li r) else p.li r
  own := fun t => if t ∈ k then 16 else p.own t }
theorem upd_list {f g : Nat → Nat} {l : List Nat} {q v : Nat} (hv : v = f q) (r : Nat) : updF (fun r => if r ∈ l then f r else g r) q v r = if r ∈ l ++ [q] then f r else g r := by
  by_cases e : r = q
  · subst e; rw [upd_at, if_pos (by simp), hv]
  · rw [upd_ne _ e]
    by_cases h : r ∈ l
    · rw [if_pos h, if_pos (by simp [h])]
    · rw [if_neg h, if_neg (by simp [h, e])]
theorem mapTo_lab (M : Nat → Nat) (p : Pol) (l k : List Nat) (q : Nat) : (setLab (mapTo M p l k) q (setN M (p.ls q)) (setN M (p.li q))).row = (mapTo M p (l ++ [q]) k).row :=
  Pol.row_ext rfl (fun r _ => upd_list (f := fun r => setN M (p.ls r)) (g := p.ls) rfl r) (fun r _ => upd_list (f := fun r => setN M (p.li r)) (g := p.li) rfl r) (fun _ _ => rfl) (fun _ _ => rfl) rfl
theorem mapTo_own (M : Nat → Nat) (p : Pol) (l k : List Nat) (q : Nat) : (setOwn (mapTo M p l k) q 16).row = (mapTo M p l (k ++ [q])).row :=
  Pol.row_ext rfl (fun _ _ => rfl) (fun _ _ => rfl) (fun _ _ => rfl) (fun r _ => upd_list (f := fun _ => 16) (g := p.own) rfl r) rfl
theorem mapTo_end (M : Nat → Nat) (p : Pol) : ({ mapTo M p (bitsN p.live) (bitsN (movedN M)) with active := diffN p.active (movedN M) } : Pol).row = (mapP M p).row := by
  have key : ∀ (s a b r : Nat), r < 16 → (if r ∈ bitsN s then a else b) = if s.testBit r then a else b := by
    intro s a b r hr
    by_cases h : s.testBit r = true
    · rw [if_pos h, if_pos (mem_bitsN.2 ⟨hr, h⟩)]
    · rw [if_neg h, if_neg fun hm => h (mem_bitsN.1 hm).2]
  exact Pol.row_ext rfl (fun r h => key _ _ _ r h) (fun r h => key _ _ _ r h) (fun _ _ => rfl) (fun r h => key _ _ _ r h) rfl
theorem pre_bits {s : Nat} {pre : List Int} {x : Int} (h : pre ++ [x] <+: bitsL s) : (∀ q ∈ pre.map Int.toNat, q < 16) ∧ ∃ q : Nat, x = q ∧ q < 16 ∧ q ∉ pre.map Int.toNat := by
  refine ⟨fun q hq => ?_, ?_⟩
  · obtain ⟨y, hy, rfl⟩ := List.mem_map.1 hq
    obtain ⟨z, hz, rfl⟩ := List.mem_map.1 (h.subset (show y ∈ pre ++ [x] by simp [hy]))
    exact (mem_bitsN.1 hz).1
  · obtain ⟨z, hz, rfl⟩ := List.mem_map.1 (h.subset (show x ∈ pre ++ [x] by simp))
    refine ⟨z, rfl, (mem_bitsN.1 hz).1, fun hm => ?_⟩
    have hnd : (bitsN s).Nodup := List.Pairwise.filter _ List.nodup_range
    have hsub : (pre ++ [(z : Int)]).map Int.toNat <+: (bitsL s).map Int.toNat := List.IsPrefix.map _ h
    have hb : (bitsL s).map Int.toNat = bitsN s := by
      unfold bitsL
      rw [List.map_map]
      conv => rhs; rw [← List.map_id (bitsN s)]
      rfl
    rw [hb] at hsub
    have := hsub.sublist.nodup hnd
    rw [List.map_append, List.nodup_append] at this
    exact this.2.2 _ hm _ (by simp) rfl
theorem bits_map (s : Nat) : (bitsL s).map Int.toNat = bitsN s := by
  unfold bitsL
  rw [List.map_map]
  conv => rhs; rw [← List.map_id (bitsN s)]
  rfl
theorem diff16 {a b : Nat} : IntKind.u16.wrap ((BitVec.ofInt (IntKind.bits .u16) (a : Int) &&& ~~~BitVec.ofInt (IntKind.bits .u16) (b : Int)).toNat : Int) = ((diffN a b : Nat) : Int) := wrapN16 diffN_lt
set_option maxHeartbeats 1000000 in
theorem policy_Mapped_ok (M : Nat → Nat) (hM : ∀ i, i < 16 → M i ≤ 255) (p : Pol) (hp : p.Ok) : EvP PR G f_policy_Mapped [p.v, mv M] (mapP M p).v := by
  have e3 := Each0_ok p.live
  have e4 := Each0_ok (movedN M)
  have e5 := relabel_Moved_ok M hM
  have hd := diff16 (a := p.active) (b := movedN M)
  refine EvP.of_wpf false hm c_policy_Mapped rfl ?_
  refine wpf_seq1 ?_
  conv => whnf
  repeat' ((first | refine brP_t (by assumption) ?_ | refine brP_f (by assumption) ?_ | refine brP_t (decide_eq_true (by omega)) ?_ | refine brP_f (decide_eq_false (by omega)) ?_ | refine brP_t (nd_t (by omega)) ?_ | refine brP_f (nd_f (by omega)) ?_ | refine callK_r (EvR.fr [] e3 rfl rfl trivial rfl) ?_ | refine callM_l (LEv.fr [] e3 rfl rfl trivial rfl rfl) ?_ | refine callK_rt (EvR.fr [] e3 rfl rfl trivial rfl) ?_ | refine callK_rf rfl (EvR.fr [] e3 rfl rfl trivial rfl) ?_ | refine callK_rft rfl (EvR.fr [] e3 rfl rfl trivial rfl) ?_ | refine wpfS_seq1 ?_ | refine wpfS_go ?_ | fail) <;> conv => whnf)
  refine SemS.rf false hm (s := p.live) (xs := bitsL p.live) rfl each_callable rfl (fun F w r' hG hF hc => each1 p.live hp.live F w r' hG hF hc)
    (fun pre H => H = ⟨[], [.row (mapTo M p (pre.map Int.toNat) []).row, .row (mrow M), .row zeroP.row, .row [.int .u16 p.live]]⟩) (fun _ _ => False) rfl ?_ ?_ ?_
  · rintro pre x H1 hpx rfl
    obtain ⟨-, q, rfl, hq, hnm⟩ := pre_bits hpx
    have hstep := mapTo_lab M p (pre.map Int.toNat) [] q
    have hls : (mapTo M p (pre.map Int.toNat) []).ls q = p.ls q := if_neg hnm
    have hli : (mapTo M p (pre.map Int.toNat) []).li q = p.li q := if_neg hnm
    have hm2 : (pre ++ [(q : Int)]).map Int.toNat = pre.map Int.toNat ++ [q] := by rw [List.map_append]; rfl
    rw [hm2]
    have e1 := relabel_Label_ok M hM (p.ls q) (p.li q) (hp.ls q hq) (hp.li q hq)
    have g1 := pol_labL (mapTo M p (pre.map Int.toNat) []) hq
    rw [hls, hli] at g1
    generalize hpe : mapTo M p (pre.map Int.toNat) [] = p1 at *
    conv => whnf
    refine ⟨rfl, ?_⟩
    conv => whnf
    repeat' ((first | (refine gd_mk ?_ ?_; (focus (first | exact decide_eq_true (by rw [pol_len]; omega) | exact decide_eq_true (And.intro rfl (by rw [pol_len]; simp only [List.length_cons, List.length_nil]; omega)) | exact decide_eq_true (And.intro rfl (by rw [pol_len]; omega)) | exact decide_eq_true (by rw [pol_len]; simp only [List.length_cons, List.length_nil]; omega) | exact decide_eq_true (by show _ ≤ 16; omega) | exact decide_eq_true (And.intro rfl (by show _ ≤ 16; omega)) | exact decide_eq_true (And.intro rfl (by show _ ≤ 16; simp only [List.length_cons, List.length_nil]; omega)))); rw [Int.toNat_natCast, put_lab _ hq]) | (refine gd_mk ?_ ?_; (focus (first | exact decide_eq_true (by rw [pol_len]; omega) | exact decide_eq_true (And.intro rfl (by rw [pol_len]; simp only [List.length_cons, List.length_nil]; omega)) | exact decide_eq_true (And.intro rfl (by rw [pol_len]; omega)) | exact decide_eq_true (by rw [pol_len]; simp only [List.length_cons, List.length_nil]; omega) | exact decide_eq_true (by show _ ≤ 16; omega) | exact decide_eq_true (And.intro rfl (by show _ ≤ 16; omega)) | exact decide_eq_true (And.intro rfl (by show _ ≤ 16; simp only [List.length_cons, List.length_nil]; omega)))); rw [Int.toNat_natCast, g1]) | refine brP_t (by assumption) ?_ | refine brP_f (by assumption) ?_ | refine brP_t (decide_eq_true (by omega)) ?_ | refine brP_f (decide_eq_false (by omega)) ?_ | refine brP_t (nd_t (by omega)) ?_ | refine brP_f (nd_f (by omega)) ?_ | refine callK_p e1 ?_ | refine callM_p e1 rfl ?_ | refine callK_pf rfl e1 ?_ | refine wpfS_seq1 ?_ | refine wpfS_go ?_ | fail) <;> conv => whnf)
    show (⟨[], [.row (setLab p1 q (setN M (p.ls q)) (setN M (p.li q))).row, .row (mrow M), .row zeroP.row, .row [.int .u16 p.live]]⟩ : Hp) = _
    rw [hstep]
  · rintro H1 rfl
    rw [bits_map]
    have hlv : (mapTo M p (bitsN p.live) []).active = p.active := rfl
    conv => whnf
    repeat' ((first | refine brP_t (by assumption) ?_ | refine brP_f (by assumption) ?_ | refine brP_t (decide_eq_true (by omega)) ?_ | refine brP_f (decide_eq_false (by omega)) ?_ | refine brP_t (nd_t (by omega)) ?_ | refine brP_f (nd_f (by omega)) ?_ | refine callK_p e5 ?_ | refine callM_p e5 rfl ?_ | refine callK_pf rfl e5 ?_ | refine callK_r (EvR.fr [] e4 rfl rfl trivial rfl) ?_ | refine callM_l (LEv.fr [] e4 rfl rfl trivial rfl rfl) ?_ | refine callK_rt (EvR.fr [] e4 rfl rfl trivial rfl) ?_ | refine callK_rf rfl (EvR.fr [] e4 rfl rfl trivial rfl) ?_ | refine callK_rft rfl (EvR.fr [] e4 rfl rfl trivial rfl) ?_ | refine wpfS_seq1 ?_ | refine wpfS_go ?_ | fail) <;> conv => whnf)
    refine SemS.rf false hm (s := movedN M) (xs := bitsL (movedN M)) rfl each_callable rfl (fun F w r' hG hF hc => each1 (movedN M) movedN_lt F w r' hG hF hc)
      (fun pre H => H = ⟨[], [.row (mapTo M p (bitsN p.live) (pre.map Int.toNat)).row, .row (mrow M), .row zeroP.row, .row [.int .u16 p.live], .row [.int .u16 (movedN M)]]⟩) (fun _ _ => False) rfl ?_ ?_ ?_
    · rintro pre x H1 hpx rfl
      obtain ⟨-, q, rfl, hq, -⟩ := pre_bits hpx
      have hm2 : (pre ++ [(q : Int)]).map Int.toNat = pre.map Int.toNat ++ [q] := by rw [List.map_append]; rfl
      rw [hm2]
      have hstep := mapTo_own M p (bitsN p.live) (pre.map Int.toNat) q
      generalize mapTo M p (bitsN p.live) (pre.map Int.toNat) = p1 at *
      conv => whnf
      refine ⟨rfl, ?_⟩
      conv => whnf
      repeat' ((first | (refine gd_mk ?_ ?_; (focus (first | exact decide_eq_true (by rw [pol_len]; omega) | exact decide_eq_true (And.intro rfl (by rw [pol_len]; simp only [List.length_cons, List.length_nil]; omega)) | exact decide_eq_true (And.intro rfl (by rw [pol_len]; omega)) | exact decide_eq_true (by rw [pol_len]; simp only [List.length_cons, List.length_nil]; omega) | exact decide_eq_true (by show _ ≤ 16; omega) | exact decide_eq_true (And.intro rfl (by show _ ≤ 16; omega)) | exact decide_eq_true (And.intro rfl (by show _ ≤ 16; simp only [List.length_cons, List.length_nil]; omega)))); rw [Int.toNat_natCast, put_own16 _ hq]) | refine brP_t (by assumption) ?_ | refine brP_f (by assumption) ?_ | refine brP_t (decide_eq_true (by omega)) ?_ | refine brP_f (decide_eq_false (by omega)) ?_ | refine brP_t (nd_t (by omega)) ?_ | refine brP_f (nd_f (by omega)) ?_ | refine wpfS_seq1 ?_ | refine wpfS_go ?_ | fail) <;> conv => whnf)
      show (⟨[], [.row (setOwn p1 q 16).row, .row (mrow M), .row zeroP.row, .row [.int .u16 p.live], .row [.int .u16 (movedN M)]]⟩ : Hp) = _
      rw [hstep]
    · rintro H1 rfl
      rw [bits_map]
      have hend := mapTo_end M p
      have ha : (mapTo M p (bitsN p.live) (bitsN (movedN M))).active = p.active := rfl
      generalize mapTo M p (bitsN p.live) (bitsN (movedN M)) = p1 at *
      rw [← ha] at hd hend
      conv => whnf
      repeat' ((first | refine brP_t (by assumption) ?_ | refine brP_f (by assumption) ?_ | refine brP_t (decide_eq_true (by omega)) ?_ | refine brP_f (decide_eq_false (by omega)) ?_ | refine brP_t (nd_t (by omega)) ?_ | refine brP_f (nd_f (by omega)) ?_ | refine callK_p e5 ?_ | refine callM_p e5 rfl ?_ | refine callK_pf rfl e5 ?_ | ((rw [hd])) | refine wpfS_seq1 ?_ | refine wpfS_go ?_ | fail) <;> conv => whnf)
      exact congrArg AV.agg hend
    · intro e H1 _ h
      exact h.elim
  · intro e H1 _ h
    exact h.elim
end Go.Ab.S

namespace Go.Ab.S
open Go Go.Ab Go.Proofs
attribute [local irreducible] SemS
set_option maxRecDepth 100000
def actTo (M : Nat → Nat) (a j : Nat) : Nat := setOf (fun t => a.testBit t && !(decide (t < j) && decide (M t ≠ t))) 16
def mapR (M : Nat → Nat) (p : Pol) (i j : Nat) : Pol := { p with
  ls := fun r => if r < i then setN M (p.ls r) else p.ls r
  li := fun r => if r < i then setN M (p.li r) else p.li r
  own := fun t => if t < j ∧ M t ≠ t then 16 else p.own t
  active := actTo M p.active j }
/-- Labels of roles that are not there are empty. -/
def Clean (p : Pol) : Prop := ∀ r, r < 16 → p.live.testBit r = false → p.ls r = 0 ∧ p.li r = 0
end Go.Ab.S

namespace Go.Ab.S
open Go Go.Ab Go.Proofs
attribute [local irreducible] SemS
set_option maxRecDepth 100000
/-! ### What a mapped policy is like -/
section
variable {M : Nat → Nat} {p : Pol}
theorem map_ok (hp : p.Ok) : (mapP M p).Ok := by
  refine ⟨hp.live, fun r h => ?_, fun r h => ?_, hp.acts, fun r h => ?_, diffN_lt⟩
  · show (if p.live.testBit r then setN M (p.ls r) else p.ls r) < 65536
    split
    · exact setN_lt
    · exact hp.ls r h
  · show (if p.live.testBit r then setN M (p.li r) else p.li r) < 65536
    split
    · exact setN_lt
    · exact hp.li r h
  · show (if (movedN M).testBit r then 16 else p.own r) ≤ 255
    split
    · omega
    · exact hp.own r h
theorem map_id (hp : p.Ok) : (mapP id p).row = p.row := by
  have hm0 : movedN id = 0 := set_ext movedN_lt (by omega) fun j hj => by rw [moved_bit hj, Nat.zero_testBit]; simp
  refine Pol.row_ext rfl (fun r hr => ?_) (fun r hr => ?_) (fun _ _ => rfl) (fun t ht => ?_) ?_
  · show (if p.live.testBit r then setN id (p.ls r) else p.ls r) = p.ls r
    rw [setN_id (M := id) (fun _ _ => rfl) (hp.ls r hr)]; split <;> rfl
  · show (if p.live.testBit r then setN id (p.li r) else p.li r) = p.li r
    rw [setN_id (M := id) (fun _ _ => rfl) (hp.li r hr)]; split <;> rfl
  · show (if (movedN id).testBit t then 16 else p.own t) = p.own t
    rw [hm0, Nat.zero_testBit]; rfl
  · show diffN p.active (movedN id) = p.active
    refine set_ext diffN_lt hp.active fun j hj => ?_
    rw [diffN_bit hp.active movedN_lt hj, hm0, Nat.zero_testBit]; simp
theorem map_fine (hp : p.Ok) (hf : fineP p = true) (hc : Clean p) (hM : fineB M = true) (hg : ∀ t, t < 16 → M t ≠ t → p.active.testBit (M t) = true) : fineP (mapP M p) = true := by
  unfold fineP at hf
  rw [Bool.and_eq_true] at hf
  obtain ⟨f1, f2⟩ := hf
  rw [fineB_iff] at hM
  have e4 : (mapP M p).live = p.live := rfl
  have e5 : (mapP M p).active = diffN p.active (movedN M) := rfl
  have e3 : ∀ r, (mapP M p).acts r = p.acts r := fun _ => rfl
  unfold fineP
  rw [all16_t fun r hr => ?_, all16_t fun t ht => ?_]
  · rfl
  · have h := all16_at f2 ht
    have e : (mapP M p).own t = if (movedN M).testBit t then 16 else p.own t := rfl
    unfold ownB at h ⊢
    rw [e, e4, e5]
    cases hm : (movedN M).testBit t with
    | true => rw [if_pos rfl]; rfl
    | false =>
      rw [if_neg (by simp), diffN_bit hp.active movedN_lt ht, hm, Bool.not_false, Bool.and_true]
      exact h
  · have h := all16_at f1 hr
    unfold roleB at h ⊢
    have e1 : (mapP M p).ls r = if p.live.testBit r then setN M (p.ls r) else p.ls r := rfl
    have e2 : (mapP M p).li r = if p.live.testBit r then setN M (p.li r) else p.li r := rfl
    rw [e1, e2, e3, e4, e5]
    cases hb : p.live.testBit r with
    | false => rw [hb] at h; exact h
    | true =>
      rw [hb, if_pos rfl] at h
      rw [if_pos rfl, if_pos rfl, if_pos rfl]
      rw [Bool.and_eq_true] at h
      rw [h.2, Bool.and_true, ← setN_or]
      have h1 := (subB_iff (or_lt (hp.ls r hr) (hp.li r hr)) hp.active).1 h.1
      refine (subB_iff setN_lt diffN_lt).2 fun j hj hbit => ?_
      rw [setN_bit] at hbit
      obtain ⟨-, t, ht, hbt, rfl⟩ := hbit
      rw [diffN_bit hp.active movedN_lt hj, moved_bit hj, decide_eq_false (by simp [(hM t ht).2])]
      rw [Bool.not_false, Bool.and_true]
      by_cases hmt : M t = t
      · rw [hmt]; exact h1 t ht hbt
      · exact hg t ht hmt
end
end Go.Ab.S
