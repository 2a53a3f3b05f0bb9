/- Part of a proof; no condition. Part of a proof; no condition. Part of a proof; no condition. Part of a proof; no condition. -/
import Derived.Test.YtidmpmdhgiopgaaDoorLP5
set_option linter.unusedSimpArgs false
set_option linter.unusedVariables false
namespace Go.Ab.S
open Go Go.Ab Go.Proofs
attribute [local irreducible] SemS
set_option maxRecDepth 100000
end Go.Ab.S

namespace Go.Ab.S
open Go Go.Ab Go.Proofs
attribute [local irreducible] SemS
set_option maxRecDepth 100000
/-! ### Which roles are seen -/
def orIf (f : Nat → Bool) (l : List Nat) : Nat := l.foldl (fun o r => if f r then o ||| 2 ^ r else o) 0
theorem orIf_app (f : Nat → Bool) (l : List Nat) (r : Nat) : orIf f (l ++ [r]) = if f r then orIf f l ||| 2 ^ r else orIf f l := by
  unfold orIf; rw [List.foldl_append]; rfl
theorem orIf_bit0 (f : Nat → Bool) (j : Nat) : ∀ (l : List Nat) (o : Nat), (l.foldl (fun o r => if f r then o ||| 2 ^ r else o) o).testBit j = (o.testBit j || (decide (j ∈ l) && f j))
  | [], o => by simp
  | r :: l, o => by
    rw [List.foldl_cons, orIf_bit0 f j l]
    by_cases e : j = r
    · subst e
      by_cases hf : f j = true
      · rw [if_pos hf, Nat.testBit_or, Nat.testBit_two_pow]; simp [hf]
      · rw [if_neg hf]; simp [hf]
    · have hm : decide (j ∈ r :: l) = decide (j ∈ l) := decide_eq_decide.2 (by simp [e])
      rw [hm]
      split
      · rw [Nat.testBit_or, Nat.testBit_two_pow, decide_eq_false (fun h => e h.symm), Bool.or_false]
      · rfl
theorem orIf_bit (f : Nat → Bool) (l : List Nat) (j : Nat) : (orIf f l).testBit j = (decide (j ∈ l) && f j) := by
  unfold orIf; rw [orIf_bit0]; simp
theorem orIf_lt (f : Nat → Bool) {l : List Nat} (h : ∀ q ∈ l, q < 16) : orIf f l < 65536 := lt_of_bits fun j hj => by
  rw [orIf_bit] at hj
  simp only [Bool.and_eq_true, decide_eq_true_eq] at hj
  exact h j hj.1
def seenN (p : Pol) (s i : Nat) : Nat := setOf (fun r => p.live.testBit r && flowsB (p.ls r) (p.li r) s i) 16
theorem seenN_lt {p : Pol} {s i : Nat} : seenN p s i < 65536 := setOf_lt _ (Nat.le_refl 16)
theorem seen_orIf (p : Pol) (s i : Nat) : orIf (fun r => flowsB (p.ls r) (p.li r) s i) (bitsN p.live) = seenN p s i := by
  refine set_ext (orIf_lt _ fun q hq => (mem_bitsN.1 hq).1) seenN_lt fun j hj => ?_
  rw [orIf_bit, seenN, setOf_bit' _ hj]
  congr 1
  cases h : p.live.testBit j with
  | true => exact decide_eq_true (mem_bitsN.2 ⟨hj, h⟩)
  | false => exact decide_eq_false fun hh => by rw [(mem_bitsN.1 hh).2] at h; cases h
theorem policy_Seen_ok (p : Pol) (hp : p.Ok) (s i : Nat) (hs : s < 65536) (hi : i < 65536) : EvP PR G f_policy_Seen [p.v, lab s i] (uv (seenN p s i)) := by
  have e3 := Each0_ok p.live
  refine EvP.of_wpf false hm c_policy_Seen rfl ?_
  refine wpf_seq1 ?_
  conv => whnf
  repeat' ((first | refine brP_t (by assumption) ?_ | refine brP_f (by assumption) ?_ | refine brP_t (decide_eq_true (by omega)) ?_ | refine brP_f (decide_eq_false (by omega)) ?_ | refine brP_t (nd_t (by omega)) ?_ | refine brP_f (nd_f (by omega)) ?_ | refine callK_r (EvR.fr [] e3 rfl rfl trivial rfl) ?_ | refine callM_l (LEv.fr [] e3 rfl rfl trivial rfl rfl) ?_ | refine callK_rt (EvR.fr [] e3 rfl rfl trivial rfl) ?_ | refine callK_rf rfl (EvR.fr [] e3 rfl rfl trivial rfl) ?_ | refine callK_rft rfl (EvR.fr [] e3 rfl rfl trivial rfl) ?_ | refine wpfS_seq1 ?_ | refine wpfS_go ?_ | fail) <;> conv => whnf)
  have hpre : ∀ {pre : List Int} {x : Int}, pre ++ [x] <+: bitsL p.live → (∀ q ∈ pre.map Int.toNat, q < 16) ∧ ∃ q : Nat, x = q ∧ q < 16 := by
    intro pre x h
    refine ⟨fun q hq => ?_, ?_⟩
    · obtain ⟨y, hy, rfl⟩ := List.mem_map.1 hq
      obtain ⟨z, hz, rfl⟩ := List.mem_map.1 (h.subset (show y ∈ pre ++ [x] by simp [hy]))
      exact (mem_bitsN.1 hz).1
    · obtain ⟨z, hz, rfl⟩ := List.mem_map.1 (h.subset (show x ∈ pre ++ [x] by simp))
      exact ⟨z, rfl, (mem_bitsN.1 hz).1⟩
  refine SemS.rf false hm (s := p.live) (xs := bitsL p.live) rfl each_callable rfl (fun F w r' hG hF hc => each1 p.live hp.live F w r' hG hF hc)
    (fun pre H => H = ⟨[], [.row p.row, .row [.int .u16 s, .int .u16 i], .row [.int .u16 ((orIf (fun r => flowsB (p.ls r) (p.li r) s i) (pre.map Int.toNat) : Nat) : Int)], .row [.int .u16 p.live]]⟩) (fun _ _ => False) rfl ?_ ?_ ?_
  · rintro pre x H1 hpx rfl
    obtain ⟨hp1, q, rfl, hq⟩ := hpre hpx
    have hlt := orIf_lt (fun r => flowsB (p.ls r) (p.li r) s i) hp1
    have hfold : orIf (fun r => flowsB (p.ls r) (p.li r) s i) ((pre ++ [(q : Int)]).map Int.toNat) = if flowsB (p.ls q) (p.li q) s i then orIf (fun r => flowsB (p.ls r) (p.li r) s i) (pre.map Int.toNat) ||| 2 ^ q else orIf (fun r => flowsB (p.ls r) (p.li r) s i) (pre.map Int.toNat) := by
      rw [List.map_append]; exact orIf_app _ _ _
    rw [hfold]
    generalize orIf (fun r => flowsB (p.ls r) (p.li r) s i) (pre.map Int.toNat) = o' at *
    have e1 := label_Flows_ok (p.ls q) (p.li q) s i (hp.ls q hq) (hp.li q hq) hs hi
    have g1 := pol_labL p hq
    have hpw := pow16 (t := q) (by omega)
    have hor := or16 hlt (show 2 ^ q < 65536 by omega)
    have hsh := shl16 hq
    conv => whnf
    refine ⟨rfl, ?_⟩
    cases h1 : flowsB (p.ls q) (p.li q) s i with
    | false =>
      rw [h1] at e1
      conv => whnf
      repeat' ((first | (refine gd_mk ?_ ?_; (focus (first | exact decide_eq_true (by rw [pol_len]; omega) | exact decide_eq_true (And.intro rfl (by rw [pol_len]; simp only [List.length_cons, List.length_nil]; omega)) | exact decide_eq_true (And.intro rfl (by rw [pol_len]; omega)) | exact decide_eq_true (by rw [pol_len]; simp only [List.length_cons, List.length_nil]; omega) | exact decide_eq_true (by show _ ≤ 16; omega) | exact decide_eq_true (And.intro rfl (by show _ ≤ 16; omega)) | exact decide_eq_true (And.intro rfl (by show _ ≤ 16; simp only [List.length_cons, List.length_nil]; omega)))); rw [Int.toNat_natCast, g1]) | refine brP_t (by assumption) ?_ | refine brP_f (by assumption) ?_ | refine brP_t (decide_eq_true (by omega)) ?_ | refine brP_f (decide_eq_false (by omega)) ?_ | refine brP_t (nd_t (by omega)) ?_ | refine brP_f (nd_f (by omega)) ?_ | refine callK_p e1 ?_ | refine callM_p e1 rfl ?_ | refine callK_pf rfl e1 ?_ | refine wpfS_seq1 ?_ | refine wpfS_go ?_ | fail) <;> conv => whnf)
      rfl
    | true =>
      rw [h1] at e1
      conv => whnf
      repeat' ((first | (refine gd_mk ?_ ?_; (focus (first | exact decide_eq_true (by rw [pol_len]; omega) | exact decide_eq_true (And.intro rfl (by rw [pol_len]; simp only [List.length_cons, List.length_nil]; omega)) | exact decide_eq_true (And.intro rfl (by rw [pol_len]; omega)) | exact decide_eq_true (by rw [pol_len]; simp only [List.length_cons, List.length_nil]; omega) | exact decide_eq_true (by show _ ≤ 16; omega) | exact decide_eq_true (And.intro rfl (by show _ ≤ 16; omega)) | exact decide_eq_true (And.intro rfl (by show _ ≤ 16; simp only [List.length_cons, List.length_nil]; omega)))); rw [Int.toNat_natCast, g1]) | refine brP_t (by assumption) ?_ | refine brP_f (by assumption) ?_ | refine brP_t (decide_eq_true (by omega)) ?_ | refine brP_f (decide_eq_false (by omega)) ?_ | refine brP_t (nd_t (by omega)) ?_ | refine brP_f (nd_f (by omega)) ?_ | refine callK_p e1 ?_ | refine callM_p e1 rfl ?_ | refine callK_pf rfl e1 ?_ | ((rw [hsh, hor])) | refine wpfS_seq1 ?_ | refine wpfS_go ?_ | fail) <;> conv => whnf)
      rfl
  · rintro H1 rfl
    have : (bitsL p.live).map Int.toNat = bitsN p.live := by
      unfold bitsL
      rw [List.map_map]
      conv => rhs; rw [← List.map_id (bitsN p.live)]
      rfl
    rw [this, seen_orIf]
    conv => whnf
    repeat' ((first | refine brP_t (by assumption) ?_ | refine brP_f (by assumption) ?_ | refine brP_t (decide_eq_true (by omega)) ?_ | refine brP_f (decide_eq_false (by omega)) ?_ | refine brP_t (nd_t (by omega)) ?_ | refine brP_f (nd_f (by omega)) ?_ | refine wpfS_seq1 ?_ | refine wpfS_go ?_ | fail) <;> conv => whnf)
    rfl
  · intro e H1 _ h
    exact h.elim
end Go.Ab.S

namespace Go.Ab.S
open Go Go.Ab Go.Proofs
attribute [local irreducible] SemS
set_option maxRecDepth 100000
/-! ### Whose tags -/
def ownedN (p : Pol) (rs : Nat) : Nat := setOf (fun t => hasN rs (p.own t)) 16
theorem ownedN_lt {p : Pol} {rs : Nat} : ownedN p rs < 65536 := setOf_lt _ (Nat.le_refl 16)
theorem policy_Owned_ok (p : Pol) (hp : p.Ok) (rs : Nat) (hs : rs < 65536) : EvP PR G f_policy_Owned [p.v, uv rs] (uv (ownedN p rs)) := by
  refine EvP.of_wpf false hm c_policy_Owned rfl ?_
  refine wpf_seq1 ?_
  conv => whnf
  repeat' ((first | refine brP_t (by assumption) ?_ | refine brP_f (by assumption) ?_ | refine brP_t (decide_eq_true (by omega)) ?_ | refine brP_f (decide_eq_false (by omega)) ?_ | refine brP_t (nd_t (by omega)) ?_ | refine brP_f (nd_f (by omega)) ?_ | refine wpfS_seq1 ?_ | refine wpfS_go ?_ | fail) <;> conv => whnf)
  refine SemS.loopF false hm (σ := Nat) (fun k => [(1, uv rs), (9, .agg (mrow p.own)), (5, uv (setOf (fun t => hasN rs (p.own t)) k)), (10, iv k)]) (fun _ => ⟨[], [.row p.row]⟩) (fun k => 16 - k) (fun k => k ≤ 16) 0 (Nat.zero_le _) ⟨rfl, rfl, rfl, rfl, trivial⟩ rfl ?_
  intro k hk
  have hso := setOf_lt (fun t => hasN rs (p.own t)) hk
  refine wpf_seq1 ?_
  conv => whnf
  try (refine wpfS_seq1 ?_; conv => whnf)
  refine brP_mk (fun h => ?_) (fun h => ?_)
  · have hk' : k < 16 := by have := of_decide_eq_true h; omega
    clear h
    have hw2 : IntKind.i64.wrap ((k : Int) + 1) = ((k + 1 : Nat) : Int) := by rw [wrap64 (by omega)]; rfl
    have hst := setOf_step (fun t => hasN rs (p.own t)) k
    generalize setOf (fun t => hasN rs (p.own t)) k = o at *
    have hget := own_at p.own hk'
    have hw := wrapU8 (p.own k) (hp.own k hk')
    have e0 := tagset_Has_ok rs (p.own k) hs
    have hpw := pow16 (t := k) (by omega)
    have hor := or16 hso (show 2 ^ k < 65536 by omega)
    have hsh := shl16 hk'
    cases h1 : hasN rs (p.own k) with
    | false =>
      rw [h1] at e0
      rw [h1, if_neg (by simp)] at hst
      repeat' ((first | refine brP_t (by assumption) ?_ | refine brP_f (by assumption) ?_ | refine brP_t (decide_eq_true (by omega)) ?_ | refine brP_f (decide_eq_false (by omega)) ?_ | refine brP_t (nd_t (by omega)) ?_ | refine brP_f (nd_f (by omega)) ?_ | ((conv in (opS _ _ _ _) => whnf); rw [Int.toNat_natCast, hget]) | ((conv in (opM _ _ _ _ _) => whnf); (conv in (opS _ _ _ _) => whnf); rw [Int.toNat_natCast, hget]) | ((rw [hw])) | refine callK_p e0 ?_ | refine callM_p e0 rfl ?_ | refine callK_pf rfl e0 ?_ | refine wpfS_seq1 ?_ | refine wpfS_go ?_ | fail) <;> conv => whnf)
      rw [hw2]
      refine ⟨k + 1, hk', (show 16 - (k + 1) < 16 - k by omega), ⟨rfl, rfl, ?_, rfl, trivial⟩, rfl⟩
      show uv _ = uv _
      rw [hst]
    | true =>
      rw [h1] at e0
      rw [h1, if_pos rfl] at hst
      repeat' ((first | refine brP_t (by assumption) ?_ | refine brP_f (by assumption) ?_ | refine brP_t (decide_eq_true (by omega)) ?_ | refine brP_f (decide_eq_false (by omega)) ?_ | refine brP_t (nd_t (by omega)) ?_ | refine brP_f (nd_f (by omega)) ?_ | ((conv in (opS _ _ _ _) => whnf); rw [Int.toNat_natCast, hget]) | ((conv in (opM _ _ _ _ _) => whnf); (conv in (opS _ _ _ _) => whnf); rw [Int.toNat_natCast, hget]) | ((rw [hw])) | refine callK_p e0 ?_ | refine callM_p e0 rfl ?_ | refine callK_pf rfl e0 ?_ | ((rw [hsh, hor])) | refine wpfS_seq1 ?_ | refine wpfS_go ?_ | fail) <;> conv => whnf)
      rw [hw2]
      refine ⟨k + 1, hk', (show 16 - (k + 1) < 16 - k by omega), ⟨rfl, rfl, ?_, rfl, trivial⟩, rfl⟩
      first | (show uv _ = uv _; rw [hst]; done) | (rw [hsh, hor]; show uv _ = uv _; rw [hst])
  · have hk' : k = 16 := by have := of_decide_eq_false h; omega
    subst hk'
    clear h
    conv => whnf
    repeat' ((first | refine brP_t (by assumption) ?_ | refine brP_f (by assumption) ?_ | refine brP_t (decide_eq_true (by omega)) ?_ | refine brP_f (decide_eq_false (by omega)) ?_ | refine brP_t (nd_t (by omega)) ?_ | refine brP_f (nd_f (by omega)) ?_ | refine wpfS_seq1 ?_ | refine wpfS_go ?_ | fail) <;> conv => whnf)
    rfl
/-! ### The first -/
def firstP : Pol := ⟨1, fun _ => 0, fun r => if r = 0 then 65535 else 0, fun _ => 0, fun _ => 0, 65535⟩
theorem policy_First_ok : EvP PR G f_policy_First [] firstP.v := EvP.of_rEq R0_ok 10 rfl (by kernel_rfl)
end Go.Ab.S

namespace Go.Ab.S
open Go Go.Ab Go.Proofs
attribute [local irreducible] SemS
set_option maxRecDepth 100000
/-! ### Who acts for whom -/
/-- For whom a role acts, under a label. -/
def dwnN (p : Pol) (a : Int) (s i : Nat) : Nat := downN (seenN p s i) p.acts (ofN a)
theorem dwn_lt {p : Pol} {a : Int} {s i : Nat} : dwnN p a s i < 65536 := downN_lt
theorem policy_down_ok (p : Pol) (hp : p.Ok) (a : Int) (s i : Nat) (hs : s < 65536) (hi : i < 65536) : EvP PR G f_policy_down [p.v, iv a, lab s i] (uv (dwnN p a s i)) := by
  have e1 := Of1_ok a
  have e2 := policy_Seen_ok p hp s i hs hi
  have e3 := graph_Down_ok p.acts hp.acts (ofN a) (seenN p s i) ofN_lt seenN_lt
  unfold dwnN
  refine EvP.of_wpf false hm c_policy_down rfl ?_
  refine wpf_seq1 ?_
  conv => whnf
  repeat' ((first | refine brP_t (by assumption) ?_ | refine brP_f (by assumption) ?_ | refine brP_t (decide_eq_true (by omega)) ?_ | refine brP_f (decide_eq_false (by omega)) ?_ | refine brP_t (nd_t (by omega)) ?_ | refine brP_f (nd_f (by omega)) ?_ | refine callK_p e1 ?_ | refine callM_p e1 rfl ?_ | refine callK_pf rfl e1 ?_ | refine callK_p e2 ?_ | refine callM_p e2 rfl ?_ | refine callK_pf rfl e2 ?_ | refine callK_p e3 ?_ | refine callM_p e3 rfl ?_ | refine callK_pf rfl e3 ?_ | refine wpfS_seq1 ?_ | refine wpfS_go ?_ | fail) <;> conv => whnf)
  rfl
theorem policy_ActsFor_ok (p : Pol) (hp : p.Ok) (a b : Int) (s i : Nat) (hs : s < 65536) (hi : i < 65536) : EvP PR G f_policy_ActsFor [p.v, iv a, iv b, lab s i] (bv (hasN (dwnN p a s i) b)) := by
  have e1 := policy_down_ok p hp a s i hs hi
  have e2 := tagset_Has_ok (dwnN p a s i) b dwn_lt
  refine EvP.of_wpf false hm c_policy_ActsFor rfl ?_
  refine wpf_seq1 ?_
  conv => whnf
  repeat' ((first | refine brP_t (by assumption) ?_ | refine brP_f (by assumption) ?_ | refine brP_t (decide_eq_true (by omega)) ?_ | refine brP_f (decide_eq_false (by omega)) ?_ | refine brP_t (nd_t (by omega)) ?_ | refine brP_f (nd_f (by omega)) ?_ | refine callK_p e1 ?_ | refine callM_p e1 rfl ?_ | refine callK_pf rfl e1 ?_ | refine callK_p e2 ?_ | refine callM_p e2 rfl ?_ | refine callK_pf rfl e2 ?_ | refine wpfS_seq1 ?_ | refine wpfS_go ?_ | fail) <;> conv => whnf)
  rfl
def capsN (p : Pol) (a : Int) (s i : Nat) : Nat := ownedN p (dwnN p a s i) &&& p.active
theorem policy_Caps_ok (p : Pol) (hp : p.Ok) (a : Int) (s i : Nat) (hs : s < 65536) (hi : i < 65536) : EvP PR G f_policy_Caps [p.v, iv a, lab s i] (uv (capsN p a s i)) := by
  have e1 := policy_down_ok p hp a s i hs hi
  have e2 := policy_Owned_ok p hp (dwnN p a s i) dwn_lt
  have h := and16 (a := ownedN p (dwnN p a s i)) (b := p.active) ownedN_lt hp.active
  unfold capsN
  refine EvP.of_wpf false hm c_policy_Caps rfl ?_
  refine wpf_seq1 ?_
  conv => whnf
  repeat' ((first | refine brP_t (by assumption) ?_ | refine brP_f (by assumption) ?_ | refine brP_t (decide_eq_true (by omega)) ?_ | refine brP_f (decide_eq_false (by omega)) ?_ | refine brP_t (nd_t (by omega)) ?_ | refine brP_f (nd_f (by omega)) ?_ | refine callK_p e1 ?_ | refine callM_p e1 rfl ?_ | refine callK_pf rfl e1 ?_ | refine callK_p e2 ?_ | refine callM_p e2 rfl ?_ | refine callK_pf rfl e2 ?_ | refine wpfS_seq1 ?_ | refine wpfS_go ?_ | fail) <;> conv => whnf)
  exact congrArg uv h
def capB (p : Pol) (a : Int) (s i : Nat) (t : Nat) : Bool := p.active.testBit t && hasN (dwnN p a s i) (p.own t)
end Go.Ab.S
