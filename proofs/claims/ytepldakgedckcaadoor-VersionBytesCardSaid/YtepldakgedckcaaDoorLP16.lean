/- Part of a proof; no condition. Part of a proof; no condition. Part of a proof; no condition. Part of a proof; no condition. Part of a proof; no condition. Part of a proof; no condition. What policies that may be are like; what a mended one is, one without unseen roles, and one seen from above. No condition. -/
import Derived.Test.YtepldakgedckcaaDoorLP9
import Derived.Test.YtepldakgedckcaaDoorLWZ
set_option linter.unusedSimpArgs false
set_option linter.unusedVariables false
namespace Go.Ab.S
open Go Go.Ab Go.Proofs
attribute [local irreducible] SemS
set_option maxRecDepth 100000
/-! ### A policy that may be, of any -/
def lessN (a b : Nat) : Nat := setOf (fun t => a.testBit t && !b.testBit t) 16
theorem less_lt {a b : Nat} : lessN a b < 65536 := setOf_lt _ (Nat.le_refl 16)
theorem less_bit {a b j : Nat} (hj : j < 16) : (lessN a b).testBit j = (a.testBit j && !b.testBit j) := by rw [lessN, setOf_bit' _ hj]
def setLab (p : Pol) (r s i : Nat) : Pol := { p with ls := updF p.ls r s, li := updF p.li r i }
def setAct (p : Pol) (r s : Nat) : Pol := { p with acts := updF p.acts r s }
def setOwn (p : Pol) (r s : Nat) : Pol := { p with own := updF p.own r s }
theorem put_lab (p : Pol) {r : Nat} (h : r < 16) (s i : Nat) : putAt p.row (0 + 1 + r * 2) [.int .u16 s, .int .u16 i] = (setLab p r s i).row := pol_putlab p h s i
theorem put_lab0 (p : Pol) {r : Nat} (h : r < 16) : putAt p.row (0 + 1 + r * 2) [.int .u16 0, .int .u16 0] = (setLab p r 0 0).row := pol_putlab p h 0 0
theorem put_act (p : Pol) {r : Nat} (h : r < 16) (s : Nat) : putAt p.row (0 + 33 + r * 1) [.int .u16 s] = (setAct p r s).row := pol_putact p h s
theorem put_act0 (p : Pol) {r : Nat} (h : r < 16) : putAt p.row (0 + 33 + r * 1) [.int .u16 0] = (setAct p r 0).row := pol_putact p h 0
theorem put_own (p : Pol) {r : Nat} (h : r < 16) (s : Nat) : putAt p.row (0 + 49 + r * 1) [.int .u8 s] = (setOwn p r s).row := pol_putown p h s
theorem put_own16 (p : Pol) {r : Nat} (h : r < 16) : putAt p.row (0 + 49 + r * 1) [.int .u8 16] = (setOwn p r 16).row := pol_putown p h 16
theorem upd_at (f : Nat → Nat) (r v : Nat) : updF f r v r = v := by unfold updF; rw [if_pos rfl]
theorem upd_ne (f : Nat → Nat) {r v j : Nat} (h : j ≠ r) : updF f r v j = f j := by unfold updF; rw [if_neg h]
def mendP (p : Pol) : Pol := { p with
  ls := fun r => if p.live.testBit r then p.ls r &&& p.active else 0
  li := fun r => if p.live.testBit r then p.li r &&& p.active else 0
  acts := fun r => if p.live.testBit r then lessN (p.acts r &&& p.live) (2 ^ r) else 0
  own := fun t => if hasN p.live (p.own t) && p.active.testBit t then p.own t else 16 }
def zeroP : Pol := ⟨0, fun _ => 0, fun _ => 0, fun _ => 0, fun _ => 0, 0⟩
/-- The first i roles are mended, and the first j tags. -/
def mendTo (p : Pol) (i j : Nat) : Pol := { p with
  ls := fun r => if r < i then (mendP p).ls r else p.ls r
  li := fun r => if r < i then (mendP p).li r else p.li r
  acts := fun r => if r < i then (mendP p).acts r else p.acts r
  own := fun t => if t < j then (mendP p).own t else p.own t }
theorem mendTo_step (p : Pol) {i x y z : Nat} (hx : x = (mendP p).ls i) (hy : y = (mendP p).li i) (hz : z = (mendP p).acts i) : (setAct (setLab (mendTo p i 0) i x y) i z).row = (mendTo p (i + 1) 0).row := by
  have key : ∀ (f g : Nat → Nat) (v : Nat), v = f i → ∀ r, updF (fun r => if r < i then f r else g r) i v r = if r < i + 1 then f r else g r := by
    intro f g v hv r
    by_cases e : r = i
    · subst e; rw [upd_at, if_pos (by omega), hv]
    · rw [upd_ne _ e]
      by_cases h : r < i
      · rw [if_pos h, if_pos (by omega)]
      · rw [if_neg h, if_neg (by omega)]
  exact Pol.row_ext rfl (fun r _ => key _ _ _ hx r) (fun r _ => key _ _ _ hy r) (fun r _ => key _ _ _ hz r) (fun _ _ => rfl) rfl
theorem mendTo_stepO (p : Pol) {j x : Nat} (hx : x = (mendP p).own j) : (setOwn (mendTo p 16 j) j x).row = (mendTo p 16 (j + 1)).row := by
  refine Pol.row_ext rfl (fun _ _ => rfl) (fun _ _ => rfl) (fun _ _ => rfl) (fun r _ => ?_) rfl
  show updF (fun t => if t < j then (mendP p).own t else p.own t) j x r = if r < j + 1 then (mendP p).own r else p.own r
  by_cases e : r = j
  · subst e; rw [upd_at, if_pos (by omega), hx]
  · rw [upd_ne _ e]
    by_cases h : r < j
    · rw [if_pos h, if_pos (by omega)]
    · rw [if_neg h, if_neg (by omega)]
theorem mendTo_skipO (p : Pol) {j : Nat} (hx : (mendP p).own j = p.own j) : (mendTo p 16 j).row = (mendTo p 16 (j + 1)).row := by
  refine Pol.row_ext rfl (fun _ _ => rfl) (fun _ _ => rfl) (fun _ _ => rfl) (fun r _ => ?_) rfl
  show (if r < j then (mendP p).own r else p.own r) = if r < j + 1 then (mendP p).own r else p.own r
  by_cases e : r = j
  · subst e; rw [if_neg (by omega), if_pos (by omega), hx]
  · by_cases h : r < j
    · rw [if_pos h, if_pos (by omega)]
    · rw [if_neg h, if_neg (by omega)]
theorem setLab2 (p : Pol) (i a b c d e f : Nat) : (setAct (setLab (setAct (setLab p i a b) i e) i c d) i f).row = (setAct (setLab p i c d) i f).row := by
  have key : ∀ (g : Nat → Nat) (u v r : Nat), updF (updF g i u) i v r = updF g i v r := by
    intro g u v r
    by_cases h : r = i
    · subst h; rw [upd_at, upd_at]
    · rw [upd_ne _ h, upd_ne _ h, upd_ne _ h]
  exact Pol.row_ext rfl (fun r _ => key _ _ _ r) (fun r _ => key _ _ _ r) (fun r _ => key _ _ _ r) (fun _ _ => rfl) rfl
theorem less_zero {a b : Nat} (h : ∀ j, j < 16 → a.testBit j = false) : lessN a b = 0 := by
  refine set_ext less_lt (by omega) fun j hj => ?_
  rw [less_bit hj, h j hj, Nat.zero_testBit]; rfl
theorem R12_Mend_ok (p : Pol) (hp : p.Ok) : EvP PR G f_R12_Mend [p.v] (mendP p).v := by
  refine EvP.of_wpf false hm c_R12_Mend rfl ?_
  refine wpf_seq1 ?_
  conv => whnf
  repeat' ((first | refine brP_t (by assumption) ?_ | refine brP_f (by assumption) ?_ | refine brP_t (decide_eq_true (by omega)) ?_ | refine brP_f (decide_eq_false (by omega)) ?_ | refine brP_t (nd_t (by omega)) ?_ | refine brP_f (nd_f (by omega)) ?_ | refine wpfS_seq1 ?_ | refine wpfS_go ?_ | fail) <;> conv => whnf)
  refine SemS.loopC false hm (σ := Nat) (fun i => [(1, .c (.ptr (.loc 0) 0)), (2, .c (.ptr (.loc 1) 0)), (3, iv i)]) (fun i => ⟨[], [.row (mendTo p i 0).row, .row zeroP.row]⟩) (fun i => 16 - i) (fun i => i ≤ 16) 0 (Nat.zero_le _) ⟨rfl, rfl, rfl, trivial⟩ rfl ?_
  · intro i hi
    have hmz := fun x y z => mendTo_step p (i := i) (x := x) (y := y) (z := z)
    have q1 : (mendTo p i 0).ls i = p.ls i := if_neg (Nat.lt_irrefl i)
    have q2 : (mendTo p i 0).li i = p.li i := if_neg (Nat.lt_irrefl i)
    have q3 : (mendTo p i 0).acts i = p.acts i := if_neg (Nat.lt_irrefl i)
    have q4 : (mendTo p i 0).live = p.live := rfl
    have q5 : (mendTo p i 0).active = p.active := rfl
    generalize hqe : mendTo p i 0 = q at *
    refine wpf_seq1 ?_
    conv => whnf
    try (refine wpfS_seq1 ?_; conv => whnf)
    refine brP_mk (fun h => ?_) (fun h => ?_)
    · have hi' : i < 16 := by have := of_decide_eq_true h; omega
      clear h
      have hw2 : IntKind.i64.wrap ((i : Int) + 1) = ((i + 1 : Nat) : Int) := by rw [wrap64 (by omega)]; rfl
      have hpw := pow16 (t := i) (by omega)
      have e0 := R01_Has_ok q.live i (by rw [q4]; exact hp.live)
      rw [hasN_nat hi'] at e0
      have e5 := R01_With_ok 0 i (by omega)
      rw [withN_nat hi', Nat.zero_or] at e5
      cases h1 : q.live.testBit i with
      | false =>
        rw [h1] at e0
        have hq : q.live < 65536 := by rw [q4]; exact hp.live
        have hact : q.active < 65536 := by rw [q5]; exact hp.active
        have f1 : (setAct (setLab q i 0 0) i 0).ls i = 0 := upd_at _ _ _
        have f2 : (setAct (setLab q i 0 0) i 0).li i = 0 := upd_at _ _ _
        have f3 : (setAct (setLab q i 0 0) i 0).acts i = 0 := upd_at _ _ _
        have g1 := pol_labL (setAct (setLab q i 0 0) i 0) hi'
        rw [f1, f2] at g1
        have g2 := pol_act (setLab (setAct (setLab q i 0 0) i 0) i (0 &&& q.active) (0 &&& q.active)) hi'
        have g2 : partP false 1 (setLab (setAct (setLab q i 0 0) i 0) i (0 &&& q.active) (0 &&& q.active)).row (0 + 33 + i * 1) = some (true, uv ((0 : Nat) : Int)) := by rw [g2]; show some (true, uv ((setAct (setLab q i 0 0) i 0).acts i : Int)) = _; rw [f3]
        have e1 := R01_And_ok 0 q.active (by omega) hact
        have e4 := R01_And_ok 0 q.live (by omega) hq
        have e6 : EvP PR G f_R01_Less [uv ((0 &&& q.live : Nat) : Int), uv ((2 ^ i : Nat) : Int)] (uv ((lessN (0 &&& q.live) (2 ^ i) : Nat) : Int)) := R01_Less_ok _ _ (and_lt (by omega)) (by omega)
        repeat' ((first | (refine gd_mk ?_ ?_; (focus (first | exact decide_eq_true (by rw [pol_len]; omega) | exact decide_eq_true (And.intro rfl (by rw [pol_len]; simp only [List.length_cons, List.length_nil]; omega)) | exact decide_eq_true (And.intro rfl (by rw [pol_len]; omega)) | exact decide_eq_true (by rw [pol_len]; simp only [List.length_cons, List.length_nil]; omega) | exact decide_eq_true (by show _ ≤ 16; omega) | exact decide_eq_true (And.intro rfl (by show _ ≤ 16; omega)) | exact decide_eq_true (And.intro rfl (by show _ ≤ 16; simp only [List.length_cons, List.length_nil]; omega)))); rw [Int.toNat_natCast, g1]) | (refine gd_mk ?_ ?_; (focus (first | exact decide_eq_true (by rw [pol_len]; omega) | exact decide_eq_true (And.intro rfl (by rw [pol_len]; simp only [List.length_cons, List.length_nil]; omega)) | exact decide_eq_true (And.intro rfl (by rw [pol_len]; omega)) | exact decide_eq_true (by rw [pol_len]; simp only [List.length_cons, List.length_nil]; omega) | exact decide_eq_true (by show _ ≤ 16; omega) | exact decide_eq_true (And.intro rfl (by show _ ≤ 16; omega)) | exact decide_eq_true (And.intro rfl (by show _ ≤ 16; simp only [List.length_cons, List.length_nil]; omega)))); rw [Int.toNat_natCast, put_act _ hi']) | (refine gd_mk ?_ ?_; (focus (first | exact decide_eq_true (by rw [pol_len]; omega) | exact decide_eq_true (And.intro rfl (by rw [pol_len]; simp only [List.length_cons, List.length_nil]; omega)) | exact decide_eq_true (And.intro rfl (by rw [pol_len]; omega)) | exact decide_eq_true (by rw [pol_len]; simp only [List.length_cons, List.length_nil]; omega) | exact decide_eq_true (by show _ ≤ 16; omega) | exact decide_eq_true (And.intro rfl (by show _ ≤ 16; omega)) | exact decide_eq_true (And.intro rfl (by show _ ≤ 16; simp only [List.length_cons, List.length_nil]; omega)))); rw [Int.toNat_natCast, put_lab _ hi']) | (refine gd_mk ?_ ?_; (focus (first | exact decide_eq_true (by rw [pol_len]; omega) | exact decide_eq_true (And.intro rfl (by rw [pol_len]; simp only [List.length_cons, List.length_nil]; omega)) | exact decide_eq_true (And.intro rfl (by rw [pol_len]; omega)) | exact decide_eq_true (by rw [pol_len]; simp only [List.length_cons, List.length_nil]; omega) | exact decide_eq_true (by show _ ≤ 16; omega) | exact decide_eq_true (And.intro rfl (by show _ ≤ 16; omega)) | exact decide_eq_true (And.intro rfl (by show _ ≤ 16; simp only [List.length_cons, List.length_nil]; omega)))); rw [Int.toNat_natCast, put_act0 _ hi']) | (refine gd_mk ?_ ?_; (focus (first | exact decide_eq_true (by rw [pol_len]; omega) | exact decide_eq_true (And.intro rfl (by rw [pol_len]; simp only [List.length_cons, List.length_nil]; omega)) | exact decide_eq_true (And.intro rfl (by rw [pol_len]; omega)) | exact decide_eq_true (by rw [pol_len]; simp only [List.length_cons, List.length_nil]; omega) | exact decide_eq_true (by show _ ≤ 16; omega) | exact decide_eq_true (And.intro rfl (by show _ ≤ 16; omega)) | exact decide_eq_true (And.intro rfl (by show _ ≤ 16; simp only [List.length_cons, List.length_nil]; omega)))); rw [Int.toNat_natCast, put_lab0 _ hi']) | refine brP_t (by assumption) ?_ | refine brP_f (by assumption) ?_ | refine brP_t (decide_eq_true (by omega)) ?_ | refine brP_f (decide_eq_false (by omega)) ?_ | refine brP_t (nd_t (by omega)) ?_ | refine brP_f (nd_f (by omega)) ?_ | refine callK_p e0 ?_ | refine callM_p e0 rfl ?_ | refine callK_pf rfl e0 ?_ | ((conv in (opS _ _ _ _) => whnf); rw [Int.toNat_natCast, g2]) | ((conv in (opM _ _ _ _ _) => whnf); (conv in (opS _ _ _ _) => whnf); rw [Int.toNat_natCast, g2]) | refine callK_p e1 ?_ | refine callM_p e1 rfl ?_ | refine callK_pf rfl e1 ?_ | refine callK_p e4 ?_ | refine callM_p e4 rfl ?_ | refine callK_pf rfl e4 ?_ | refine callK_p e5 ?_ | refine callM_p e5 rfl ?_ | refine callK_pf rfl e5 ?_ | refine callK_p e6 ?_ | refine callM_p e6 rfl ?_ | refine callK_pf rfl e6 ?_ | refine wpfS_seq1 ?_ | refine wpfS_go ?_ | fail) <;> conv => whnf)
        rw [hw2]
        refine ⟨i + 1, 2, hi', (show 16 - (i + 1) < 16 - i by omega), ⟨rfl, rfl, rfl, trivial⟩, Nat.le_refl 2, ?_, rfl, rfl⟩
        have hz : (mendP p).ls i = 0 := if_neg (by rw [← q4, h1]; simp)
        have hz2 : (mendP p).li i = 0 := if_neg (by rw [← q4, h1]; simp)
        have hz3 : (mendP p).acts i = 0 := if_neg (by rw [← q4, h1]; simp)
        have hl : lessN (0 &&& q.live) (2 ^ i) = 0 := less_zero fun j _ => by rw [Nat.zero_and, Nat.zero_testBit]
        show (⟨[], [.row (setAct (setLab (setAct (setLab q i 0 0) i 0) i (0 &&& q.active) (0 &&& q.active)) i (lessN (0 &&& q.live) (2 ^ i))).row, .row zeroP.row]⟩ : Hp) = _
        rw [setLab2, hmz _ _ _ (by rw [Nat.zero_and, hz]) (by rw [Nat.zero_and, hz2]) (by rw [hl, hz3])]
      | true =>
        rw [h1] at e0
        have hq : q.live < 65536 := by rw [q4]; exact hp.live
        have hact : q.active < 65536 := by rw [q5]; exact hp.active
        have hl1 : q.ls i < 65536 := by rw [q1]; exact hp.ls i hi'
        have hl2 : q.li i < 65536 := by rw [q2]; exact hp.li i hi'
        have hl3 : q.acts i < 65536 := by rw [q3]; exact hp.acts i hi'
        have g1 := pol_labL q hi'
        have g2 : partP false 1 (setLab q i (q.ls i &&& q.active) (q.li i &&& q.active)).row (0 + 33 + i * 1) = some (true, uv (q.acts i)) := pol_act (setLab q i (q.ls i &&& q.active) (q.li i &&& q.active)) hi'
        have e1 := R01_And_ok (q.ls i) q.active hl1 hact
        have e2 := R01_And_ok (q.li i) q.active hl2 hact
        have e4 := R01_And_ok (q.acts i) q.live hl3 hq
        have e6 : EvP PR G f_R01_Less [uv ((q.acts i &&& q.live : Nat) : Int), uv ((2 ^ i : Nat) : Int)] (uv ((lessN (q.acts i &&& q.live) (2 ^ i) : Nat) : Int)) := R01_Less_ok _ _ (and_lt hl3) (by omega)
        repeat' ((first | (refine gd_mk ?_ ?_; (focus (first | exact decide_eq_true (by rw [pol_len]; omega) | exact decide_eq_true (And.intro rfl (by rw [pol_len]; simp only [List.length_cons, List.length_nil]; omega)) | exact decide_eq_true (And.intro rfl (by rw [pol_len]; omega)) | exact decide_eq_true (by rw [pol_len]; simp only [List.length_cons, List.length_nil]; omega) | exact decide_eq_true (by show _ ≤ 16; omega) | exact decide_eq_true (And.intro rfl (by show _ ≤ 16; omega)) | exact decide_eq_true (And.intro rfl (by show _ ≤ 16; simp only [List.length_cons, List.length_nil]; omega)))); rw [Int.toNat_natCast, g1]) | (refine gd_mk ?_ ?_; (focus (first | exact decide_eq_true (by rw [pol_len]; omega) | exact decide_eq_true (And.intro rfl (by rw [pol_len]; simp only [List.length_cons, List.length_nil]; omega)) | exact decide_eq_true (And.intro rfl (by rw [pol_len]; omega)) | exact decide_eq_true (by rw [pol_len]; simp only [List.length_cons, List.length_nil]; omega) | exact decide_eq_true (by show _ ≤ 16; omega) | exact decide_eq_true (And.intro rfl (by show _ ≤ 16; omega)) | exact decide_eq_true (And.intro rfl (by show _ ≤ 16; simp only [List.length_cons, List.length_nil]; omega)))); rw [Int.toNat_natCast, put_act _ hi']) | (refine gd_mk ?_ ?_; (focus (first | exact decide_eq_true (by rw [pol_len]; omega) | exact decide_eq_true (And.intro rfl (by rw [pol_len]; simp only [List.length_cons, List.length_nil]; omega)) | exact decide_eq_true (And.intro rfl (by rw [pol_len]; omega)) | exact decide_eq_true (by rw [pol_len]; simp only [List.length_cons, List.length_nil]; omega) | exact decide_eq_true (by show _ ≤ 16; omega) | exact decide_eq_true (And.intro rfl (by show _ ≤ 16; omega)) | exact decide_eq_true (And.intro rfl (by show _ ≤ 16; simp only [List.length_cons, List.length_nil]; omega)))); rw [Int.toNat_natCast, put_lab _ hi']) | refine brP_t (by assumption) ?_ | refine brP_f (by assumption) ?_ | refine brP_t (decide_eq_true (by omega)) ?_ | refine brP_f (decide_eq_false (by omega)) ?_ | refine brP_t (nd_t (by omega)) ?_ | refine brP_f (nd_f (by omega)) ?_ | refine callK_p e0 ?_ | refine callM_p e0 rfl ?_ | refine callK_pf rfl e0 ?_ | ((conv in (opS _ _ _ _) => whnf); rw [Int.toNat_natCast, g2]) | ((conv in (opM _ _ _ _ _) => whnf); (conv in (opS _ _ _ _) => whnf); rw [Int.toNat_natCast, g2]) | refine callK_p e1 ?_ | refine callM_p e1 rfl ?_ | refine callK_pf rfl e1 ?_ | refine callK_p e2 ?_ | refine callM_p e2 rfl ?_ | refine callK_pf rfl e2 ?_ | refine callK_p e4 ?_ | refine callM_p e4 rfl ?_ | refine callK_pf rfl e4 ?_ | refine callK_p e5 ?_ | refine callM_p e5 rfl ?_ | refine callK_pf rfl e5 ?_ | refine callK_p e6 ?_ | refine callM_p e6 rfl ?_ | refine callK_pf rfl e6 ?_ | refine wpfS_seq1 ?_ | refine wpfS_go ?_ | fail) <;> conv => whnf)
        rw [hw2]
        refine ⟨i + 1, 2, hi', (show 16 - (i + 1) < 16 - i by omega), ⟨rfl, rfl, rfl, trivial⟩, Nat.le_refl 2, ?_, rfl, rfl⟩
        have hz : (mendP p).ls i = q.ls i &&& q.active := by rw [q1, q5]; exact if_pos (by rw [← q4, h1])
        have hz2 : (mendP p).li i = q.li i &&& q.active := by rw [q2, q5]; exact if_pos (by rw [← q4, h1])
        have hz3 : (mendP p).acts i = lessN (q.acts i &&& q.live) (2 ^ i) := by rw [q3, q4]; exact if_pos (by rw [← q4, h1])
        show (⟨[], [.row (setAct (setLab q i (q.ls i &&& q.active) (q.li i &&& q.active)) i (lessN (q.acts i &&& q.live) (2 ^ i))).row, .row zeroP.row]⟩ : Hp) = _
        rw [hmz _ _ _ hz.symm hz2.symm hz3.symm]
    · have hi' : i = 16 := by have := of_decide_eq_false h; omega
      subst hi'
      clear h
      subst hqe
      clear hmz q1 q2 q3 q4 q5
      conv => whnf
      repeat' ((first | refine brP_t (by assumption) ?_ | refine brP_f (by assumption) ?_ | refine brP_t (decide_eq_true (by omega)) ?_ | refine brP_f (decide_eq_false (by omega)) ?_ | refine brP_t (nd_t (by omega)) ?_ | refine brP_f (nd_f (by omega)) ?_ | refine wpfS_seq1 ?_ | refine wpfS_go ?_ | fail) <;> conv => whnf)
      refine SemS.loopF false hm (σ := Nat) (fun j => [(1, .c (.ptr (.loc 0) 0)), (2, .c (.ptr (.loc 1) 0)), (5, iv j)]) (fun j => ⟨[], [.row (mendTo p 16 j).row, .row zeroP.row]⟩) (fun j => 16 - j) (fun j => j ≤ 16) 0 (Nat.zero_le _) ⟨rfl, rfl, rfl, trivial⟩ rfl ?_
      intro j hj
      have hmz := fun x => mendTo_stepO p (j := j) (x := x)
      have hms := mendTo_skipO p (j := j)
      have q1 : (mendTo p 16 j).own j = p.own j := if_neg (Nat.lt_irrefl j)
      have q4 : (mendTo p 16 j).live = p.live := rfl
      have q5 : (mendTo p 16 j).active = p.active := rfl
      generalize hqe : mendTo p 16 j = q at *
      refine wpf_seq1 ?_
      conv => whnf
      try (refine wpfS_seq1 ?_; conv => whnf)
      refine brP_mk (fun h => ?_) (fun h => ?_)
      · have hj' : j < 16 := by have := of_decide_eq_true h; omega
        clear h
        have hw2 : IntKind.i64.wrap ((j : Int) + 1) = ((j + 1 : Nat) : Int) := by rw [wrap64 (by omega)]; rfl
        have e0 := R01_Has_ok q.live (q.own j) (by rw [q4]; exact hp.live)
        have e1 := R01_Has_ok q.active j (by rw [q5]; exact hp.active)
        rw [hasN_nat hj'] at e1
        have hget := pol_own q hj'
        have hw := wrapU8 (q.own j) (by rw [q1]; exact hp.own j hj')
        cases h1 : hasN q.live (q.own j) with
        | false =>
          rw [h1] at e0
          repeat' ((first | (refine gd_mk ?_ ?_; (focus (first | exact decide_eq_true (by rw [pol_len]; omega) | exact decide_eq_true (And.intro rfl (by rw [pol_len]; simp only [List.length_cons, List.length_nil]; omega)) | exact decide_eq_true (And.intro rfl (by rw [pol_len]; omega)) | exact decide_eq_true (by rw [pol_len]; simp only [List.length_cons, List.length_nil]; omega) | exact decide_eq_true (by show _ ≤ 16; omega) | exact decide_eq_true (And.intro rfl (by show _ ≤ 16; omega)) | exact decide_eq_true (And.intro rfl (by show _ ≤ 16; simp only [List.length_cons, List.length_nil]; omega)))); rw [Int.toNat_natCast, put_own16 _ hj']) | refine brP_t (by assumption) ?_ | refine brP_f (by assumption) ?_ | refine brP_t (decide_eq_true (by omega)) ?_ | refine brP_f (decide_eq_false (by omega)) ?_ | refine brP_t (nd_t (by omega)) ?_ | refine brP_f (nd_f (by omega)) ?_ | ((conv in (opS _ _ _ _) => whnf); rw [Int.toNat_natCast, hget]) | ((conv in (opM _ _ _ _ _) => whnf); (conv in (opS _ _ _ _) => whnf); rw [Int.toNat_natCast, hget]) | ((rw [hw])) | refine callK_p e0 ?_ | refine callM_p e0 rfl ?_ | refine callK_pf rfl e0 ?_ | refine wpfS_seq1 ?_ | refine wpfS_go ?_ | fail) <;> conv => whnf)
          rw [hw2]
          refine ⟨j + 1, hj', (show 16 - (j + 1) < 16 - j by omega), ⟨rfl, rfl, rfl, trivial⟩, ?_⟩
          show (⟨[], [.row (setOwn q j 16).row, .row zeroP.row]⟩ : Hp) = _
          rw [hmz 16 (by show 16 = if _ then _ else _; rw [← q4, ← q1, h1]; rfl)]
        | true =>
          rw [h1] at e0
          cases h2 : q.active.testBit j with
          | false =>
            rw [h2] at e1
            repeat' ((first | (refine gd_mk ?_ ?_; (focus (first | exact decide_eq_true (by rw [pol_len]; omega) | exact decide_eq_true (And.intro rfl (by rw [pol_len]; simp only [List.length_cons, List.length_nil]; omega)) | exact decide_eq_true (And.intro rfl (by rw [pol_len]; omega)) | exact decide_eq_true (by rw [pol_len]; simp only [List.length_cons, List.length_nil]; omega) | exact decide_eq_true (by show _ ≤ 16; omega) | exact decide_eq_true (And.intro rfl (by show _ ≤ 16; omega)) | exact decide_eq_true (And.intro rfl (by show _ ≤ 16; simp only [List.length_cons, List.length_nil]; omega)))); rw [Int.toNat_natCast, put_own16 _ hj']) | refine brP_t (by assumption) ?_ | refine brP_f (by assumption) ?_ | refine brP_t (decide_eq_true (by omega)) ?_ | refine brP_f (decide_eq_false (by omega)) ?_ | refine brP_t (nd_t (by omega)) ?_ | refine brP_f (nd_f (by omega)) ?_ | ((conv in (opS _ _ _ _) => whnf); rw [Int.toNat_natCast, hget]) | ((conv in (opM _ _ _ _ _) => whnf); (conv in (opS _ _ _ _) => whnf); rw [Int.toNat_natCast, hget]) | ((rw [hw])) | refine callK_p e0 ?_ | refine callM_p e0 rfl ?_ | refine callK_pf rfl e0 ?_ | refine callK_p e1 ?_ | refine callM_p e1 rfl ?_ | refine callK_pf rfl e1 ?_ | refine wpfS_seq1 ?_ | refine wpfS_go ?_ | fail) <;> conv => whnf)
            rw [hw2]
            refine ⟨j + 1, hj', (show 16 - (j + 1) < 16 - j by omega), ⟨rfl, rfl, rfl, trivial⟩, ?_⟩
            show (⟨[], [.row (setOwn q j 16).row, .row zeroP.row]⟩ : Hp) = _
            rw [hmz 16 (by show 16 = if _ then _ else _; rw [← q4, ← q1, ← q5, h1, h2]; rfl)]
          | true =>
            rw [h2] at e1
            repeat' ((first | refine brP_t (by assumption) ?_ | refine brP_f (by assumption) ?_ | refine brP_t (decide_eq_true (by omega)) ?_ | refine brP_f (decide_eq_false (by omega)) ?_ | refine brP_t (nd_t (by omega)) ?_ | refine brP_f (nd_f (by omega)) ?_ | ((conv in (opS _ _ _ _) => whnf); rw [Int.toNat_natCast, hget]) | ((conv in (opM _ _ _ _ _) => whnf); (conv in (opS _ _ _ _) => whnf); rw [Int.toNat_natCast, hget]) | ((rw [hw])) | refine callK_p e0 ?_ | refine callM_p e0 rfl ?_ | refine callK_pf rfl e0 ?_ | refine callK_p e1 ?_ | refine callM_p e1 rfl ?_ | refine callK_pf rfl e1 ?_ | refine wpfS_seq1 ?_ | refine wpfS_go ?_ | fail) <;> conv => whnf)
            rw [hw2]
            refine ⟨j + 1, hj', (show 16 - (j + 1) < 16 - j by omega), ⟨rfl, rfl, rfl, trivial⟩, ?_⟩
            show (⟨[], [.row q.row, .row zeroP.row]⟩ : Hp) = _
            rw [hms (by show (if _ then _ else _) = _; rw [← q4, ← q1, ← q5, h1, h2]; rfl)]
      · have hj' : j = 16 := by have := of_decide_eq_false h; omega
        subst hj'
        subst hqe
        clear h hmz hms q1 q4 q5
        have hend : (mendTo p 16 16).row = (mendP p).row := Pol.row_ext rfl (fun r h => if_pos h) (fun r h => if_pos h) (fun r h => if_pos h) (fun r h => if_pos h) rfl
        rw [hend]
        generalize mendP p = q
        conv => whnf
        repeat' ((first | refine brP_t (by assumption) ?_ | refine brP_f (by assumption) ?_ | refine brP_t (decide_eq_true (by omega)) ?_ | refine brP_f (decide_eq_false (by omega)) ?_ | refine brP_t (nd_t (by omega)) ?_ | refine brP_f (nd_f (by omega)) ?_ | refine wpfS_seq1 ?_ | refine wpfS_go ?_ | fail) <;> conv => whnf)
        rfl
end Go.Ab.S

namespace Go.Ab.S
open Go Go.Ab Go.Proofs
attribute [local irreducible] SemS
set_option maxRecDepth 100000
/-! ### A policy without some roles -/
def cutA (W : Nat) (g : Nat → Nat) (a : Nat) : Nat := setOf (succB W g a) 16
def cutAt (W : Nat) (g : Nat → Nat) (i b a : Nat) : Nat := if a < i then cutA W g a else if a = i then setOf (succB W g a) b else 0
/-- Roles outside the set go; their tags are nobody's. -/
def cutS (p : Pol) (S : Nat) : Pol := { p with
  live := S
  ls := fun r => if S.testBit r then p.ls r else 0
  li := fun r => if S.testBit r then p.li r else 0
  acts := cutA S p.acts
  own := fun t => if hasN S (p.own t) then p.own t else 16 }
def cutTo (p : Pol) (S i j : Nat) : Pol := { p with
  ls := fun r => if r < i then (cutS p S).ls r else p.ls r
  li := fun r => if r < i then (cutS p S).li r else p.li r
  acts := cutA S p.acts
  own := fun t => if t < j then (cutS p S).own t else p.own t }
end Go.Ab.S

namespace Go.Ab.S
open Go Go.Ab Go.Proofs
attribute [local irreducible] SemS
set_option maxRecDepth 100000
/-! ### A policy's bytes -/
def recB (p : Pol) (r : Nat) : List UInt8 := numB (p.ls r) 2 ++ (numB (p.li r) 2 ++ numB (p.acts r) 2)
def ownsB (p : Pol) (n : Nat) : List UInt8 := (List.range n).flatMap fun t => numB (p.own t) 1
def polB (p : Pol) : List UInt8 := numB p.live 2 ++ (bitsN p.live).flatMap (recB p) ++ numB p.active 2 ++ ownsB p 16
theorem rec_len (p : Pol) (r : Nat) : (recB p r).length = 6 := by simp [recB, numB_len]
theorem recs_len (p : Pol) : ∀ (l : List Nat), (l.flatMap (recB p)).length = 6 * l.length
  | [] => rfl
  | r :: l => by rw [List.flatMap_cons, List.length_append, rec_len, recs_len p l, List.length_cons]; omega
theorem owns_len (p : Pol) (n : Nat) : (ownsB p n).length = n := by
  induction n with
  | zero => rfl
  | succ n ih => unfold ownsB at ih ⊢; rw [List.range_succ, List.flatMap_append, List.length_append, ih]; simp [numB_len]
theorem owns_step (p : Pol) (n : Nat) : ownsB p (n + 1) = ownsB p n ++ numB (p.own n) 1 := by
  unfold ownsB; rw [List.range_succ, List.flatMap_append]; simp
theorem bitsN_len (s : Nat) : (bitsN s).length ≤ 16 := by
  unfold bitsN
  exact Nat.le_trans (List.length_filter_le _ _) (by simp)
theorem pol_ls (p : Pol) {r : Nat} (h : r < 16) : partP false 1 p.row (0 + 1 + r * 2 + 0) = some (true, uv (p.ls r)) := by
  rcases cases16 h with rfl | rfl | rfl | rfl | rfl | rfl | rfl | rfl | rfl | rfl | rfl | rfl | rfl | rfl | rfl | rfl <;> rfl
theorem pol_li (p : Pol) {r : Nat} (h : r < 16) : partP false 1 p.row (0 + 1 + r * 2 + 1) = some (true, uv (p.li r)) := by
  rcases cases16 h with rfl | rfl | rfl | rfl | rfl | rfl | rfl | rfl | rfl | rfl | rfl | rfl | rfl | rfl | rfl | rfl <;> rfl
theorem policy_Bytes_ok (p : Pol) (hp : p.Ok) : EvP PR G f_policy_Bytes [p.v] (slv (bytesOf (polB p))) := by
  have c0 := fresh_w (w_num_ok 0 [] (by simp) p.live 2 (okNum_of (by omega) (by have := hp.live; omega))) rfl rfl rfl
  have e3 := Each0_ok p.live
  have hwl : IntKind.i64.wrap (p.live : Int) = p.live := wrap64 (by have := hp.live; omega)
  refine EvP.of_wpf false hm c_policy_Bytes rfl ?_
  refine wpf_seq1 ?_
  conv => whnf
  repeat' ((first | refine brP_t (by assumption) ?_ | refine brP_f (by assumption) ?_ | refine brP_t (decide_eq_true (by omega)) ?_ | refine brP_f (decide_eq_false (by omega)) ?_ | refine brP_t (nd_t (by omega)) ?_ | refine brP_f (nd_f (by omega)) ?_ | ((rw [hwl])) | refine callK_r (EvR.fr [_] c0 rfl rfl ⟨rfl, trivial⟩ rfl) ?_ | refine callM_l (LEv.fr [_] c0 rfl rfl ⟨rfl, trivial⟩ rfl rfl) ?_ | refine callK_rt (EvR.fr [_] c0 rfl rfl ⟨rfl, trivial⟩ rfl) ?_ | refine callK_rf rfl (EvR.fr [_] c0 rfl rfl ⟨rfl, trivial⟩ rfl) ?_ | refine callK_rft rfl (EvR.fr [_] c0 rfl rfl ⟨rfl, trivial⟩ rfl) ?_ | refine callK_r (EvR.fr [] e3 rfl rfl trivial rfl) ?_ | refine callM_l (LEv.fr [] e3 rfl rfl trivial rfl rfl) ?_ | refine callK_rt (EvR.fr [] e3 rfl rfl trivial rfl) ?_ | refine callK_rf rfl (EvR.fr [] e3 rfl rfl trivial rfl) ?_ | refine callK_rft rfl (EvR.fr [] e3 rfl rfl trivial rfl) ?_ | refine wpfS_seq1 ?_ | refine wpfS_go ?_ | fail) <;> conv => whnf)
  have hpre : ∀ {pre : List Int} {x : Int}, pre ++ [x] <+: bitsL p.live → (∀ q ∈ pre.map Int.toNat, q < 16) ∧ ∃ q : Nat, x = q ∧ q < 16 := by
    intro pre x h
    refine ⟨fun q hq => ?_, ?_⟩
    · obtain ⟨y, hy, rfl⟩ := List.mem_map.1 hq
      obtain ⟨z, hz, rfl⟩ := List.mem_map.1 (h.subset (show y ∈ pre ++ [x] by simp [hy]))
      exact (mem_bitsN.1 hz).1
    · obtain ⟨z, hz, rfl⟩ := List.mem_map.1 (h.subset (show x ∈ pre ++ [x] by simp))
      exact ⟨z, rfl, (mem_bitsN.1 hz).1⟩
  have hbl : (bitsL p.live).length ≤ 16 := by unfold bitsL; rw [List.length_map]; exact bitsN_len _
  refine SemS.rf false hm (s := p.live) (xs := bitsL p.live) rfl each_callable rfl (fun F w r' hG hF hc => each1 p.live hp.live F w r' hG hF hc)
    (fun pre H => H = ⟨[], [.row p.row, .mrow [.p (.int .i64 0), .os (.loc 2) (numB p.live 2 ++ (pre.map Int.toNat).flatMap (recB p)).length], .arr 1 false (bytesOf (numB p.live 2 ++ (pre.map Int.toNat).flatMap (recB p))), .row [.int .u16 p.live]]⟩) (fun _ _ => False) ?_ ?_ ?_ ?_
  · show _ = (⟨[], [.row p.row, .mrow [.p (.int .i64 0), .os (.loc 2) (numB p.live 2 ++ []).length], .arr 1 false (bytesOf (numB p.live 2 ++ [])), .row [.int .u16 p.live]]⟩ : Hp)
    rw [List.append_nil]
    rfl
  · rintro pre x H1 hpx rfl
    obtain ⟨hp1, q, rfl, hq⟩ := hpre hpx
    have hpl : pre.length ≤ 16 := by
      have := hpx.length_le
      simp at this
      omega
    have hfold : numB p.live 2 ++ ((pre ++ [(q : Int)]).map Int.toNat).flatMap (recB p) = ((numB p.live 2 ++ (pre.map Int.toNat).flatMap (recB p)) ++ numB (p.ls q) 2 ++ numB (p.li q) 2) ++ numB (p.acts q) 2 := by
      rw [List.map_append, List.flatMap_append]
      simp [recB, List.append_assoc]
    rw [hfold]
    have hlen : (numB p.live 2 ++ (pre.map Int.toNat).flatMap (recB p)).length ≤ 100 := by
      rw [List.length_append, recs_len, numB_len, List.length_map]; omega
    generalize numB p.live 2 ++ (pre.map Int.toNat).flatMap (recB p) = b0 at *
    have g1 := pol_ls p hq
    have g2 := pol_li p hq
    have g3 := pol_act p hq
    have h1 := hp.ls q hq
    have h2 := hp.li q hq
    have h3 := hp.acts q hq
    generalize p.ls q = x1 at *
    generalize p.li q = x2 at *
    generalize p.acts q = x3 at *
    have w1 : IntKind.i64.wrap (x1 : Int) = x1 := wrap64 (by omega)
    have w2 : IntKind.i64.wrap (x2 : Int) = x2 := wrap64 (by omega)
    have w3 : IntKind.i64.wrap (x3 : Int) = x3 := wrap64 (by omega)
    have d1 := w_num_ok 0 b0 (by omega) x1 2 (okNum_of (by omega) (by omega))
    have n1 : (b0 ++ numB x1 2).length ≤ 102 := by rw [List.length_append, numB_len]; omega
    generalize b0 ++ numB x1 2 = b1 at *
    have d2 := w_num_ok 0 b1 (by omega) x2 2 (okNum_of (by omega) (by omega))
    have n2 : (b1 ++ numB x2 2).length ≤ 104 := by rw [List.length_append, numB_len]; omega
    generalize b1 ++ numB x2 2 = b2 at *
    have d3 := w_num_ok 0 b2 (by omega) x3 2 (okNum_of (by omega) (by omega))
    generalize b2 ++ numB x3 2 = b3 at *
    conv => whnf
    refine ⟨rfl, ?_⟩
    conv => whnf
    repeat' ((first | refine brP_t (by assumption) ?_ | refine brP_f (by assumption) ?_ | refine brP_t (decide_eq_true (by omega)) ?_ | refine brP_f (decide_eq_false (by omega)) ?_ | refine brP_t (nd_t (by omega)) ?_ | refine brP_f (nd_f (by omega)) ?_ | ((conv in (opS _ _ _ _) => whnf); rw [Int.toNat_natCast, g1]) | ((conv in (opM _ _ _ _ _) => whnf); (conv in (opS _ _ _ _) => whnf); rw [Int.toNat_natCast, g1]) | ((conv in (opS _ _ _ _) => whnf); rw [Int.toNat_natCast, g2]) | ((conv in (opM _ _ _ _ _) => whnf); (conv in (opS _ _ _ _) => whnf); rw [Int.toNat_natCast, g2]) | ((conv in (opS _ _ _ _) => whnf); rw [Int.toNat_natCast, g3]) | ((conv in (opM _ _ _ _ _) => whnf); (conv in (opS _ _ _ _) => whnf); rw [Int.toNat_natCast, g3]) | refine wpfS_seq1 ?_ | refine wpfS_go ?_ | fail) <;> conv => whnf)
    refine SemS.loop1 false hm ?_
    refine wpf_seq1 ?_
    conv => whnf
    repeat' ((first | refine brP_t (by assumption) ?_ | refine brP_f (by assumption) ?_ | refine brP_t (decide_eq_true (by omega)) ?_ | refine brP_f (decide_eq_false (by omega)) ?_ | refine brP_t (nd_t (by omega)) ?_ | refine brP_f (nd_f (by omega)) ?_ | ((rw [w1])) | refine callK_r (EvR.fr [_, _] d1 rfl rfl ⟨rfl, rfl, trivial⟩ rfl) ?_ | refine callM_l (LEv.fr [_, _] d1 rfl rfl ⟨rfl, rfl, trivial⟩ rfl rfl) ?_ | refine callK_rt (EvR.fr [_, _] d1 rfl rfl ⟨rfl, rfl, trivial⟩ rfl) ?_ | refine callK_rf rfl (EvR.fr [_, _] d1 rfl rfl ⟨rfl, rfl, trivial⟩ rfl) ?_ | refine callK_rft rfl (EvR.fr [_, _] d1 rfl rfl ⟨rfl, rfl, trivial⟩ rfl) ?_ | refine wpfS_seq1 ?_ | refine wpfS_go ?_ | fail) <;> conv => whnf)
    refine SemS.loop1 false hm ?_
    refine wpf_seq1 ?_
    conv => whnf
    repeat' ((first | refine brP_t (by assumption) ?_ | refine brP_f (by assumption) ?_ | refine brP_t (decide_eq_true (by omega)) ?_ | refine brP_f (decide_eq_false (by omega)) ?_ | refine brP_t (nd_t (by omega)) ?_ | refine brP_f (nd_f (by omega)) ?_ | ((rw [w2])) | refine callK_r (EvR.fr [_, _] d2 rfl rfl ⟨rfl, rfl, trivial⟩ rfl) ?_ | refine callM_l (LEv.fr [_, _] d2 rfl rfl ⟨rfl, rfl, trivial⟩ rfl rfl) ?_ | refine callK_rt (EvR.fr [_, _] d2 rfl rfl ⟨rfl, rfl, trivial⟩ rfl) ?_ | refine callK_rf rfl (EvR.fr [_, _] d2 rfl rfl ⟨rfl, rfl, trivial⟩ rfl) ?_ | refine callK_rft rfl (EvR.fr [_, _] d2 rfl rfl ⟨rfl, rfl, trivial⟩ rfl) ?_ | refine wpfS_seq1 ?_ | refine wpfS_go ?_ | fail) <;> conv => whnf)
    refine SemS.loop1 false hm ?_
    refine wpf_seq1 ?_
    conv => whnf
    repeat' ((first | refine brP_t (by assumption) ?_ | refine brP_f (by assumption) ?_ | refine brP_t (decide_eq_true (by omega)) ?_ | refine brP_f (decide_eq_false (by omega)) ?_ | refine brP_t (nd_t (by omega)) ?_ | refine brP_f (nd_f (by omega)) ?_ | ((rw [w3])) | refine callK_r (EvR.fr [_, _] d3 rfl rfl ⟨rfl, rfl, trivial⟩ rfl) ?_ | refine callM_l (LEv.fr [_, _] d3 rfl rfl ⟨rfl, rfl, trivial⟩ rfl rfl) ?_ | refine callK_rt (EvR.fr [_, _] d3 rfl rfl ⟨rfl, rfl, trivial⟩ rfl) ?_ | refine callK_rf rfl (EvR.fr [_, _] d3 rfl rfl ⟨rfl, rfl, trivial⟩ rfl) ?_ | refine callK_rft rfl (EvR.fr [_, _] d3 rfl rfl ⟨rfl, rfl, trivial⟩ rfl) ?_ | refine wpfS_seq1 ?_ | refine wpfS_go ?_ | fail) <;> conv => whnf)
    refine SemS.loop1 false hm ?_
    refine wpf_seq1 ?_
    conv => whnf
    repeat' ((first | refine brP_t (by assumption) ?_ | refine brP_f (by assumption) ?_ | refine brP_t (decide_eq_true (by omega)) ?_ | refine brP_f (decide_eq_false (by omega)) ?_ | refine brP_t (nd_t (by omega)) ?_ | refine brP_f (nd_f (by omega)) ?_ | refine wpfS_seq1 ?_ | refine wpfS_go ?_ | fail) <;> conv => whnf)
  · rintro H1 rfl
    have hmap : (bitsL p.live).map Int.toNat = bitsN p.live := by
      unfold bitsL
      rw [List.map_map]
      conv => rhs; rw [← List.map_id (bitsN p.live)]
      rfl
    rw [hmap]
    have hlen : (numB p.live 2 ++ (bitsN p.live).flatMap (recB p)).length ≤ 100 := by
      have := bitsN_len p.live
      rw [List.length_append, recs_len, numB_len]; omega
    unfold polB
    generalize numB p.live 2 ++ (bitsN p.live).flatMap (recB p) = b0 at *
    have ha := hp.active
    have wa : IntKind.i64.wrap (p.active : Int) = p.active := wrap64 (by omega)
    have d1 := w_num_ok 0 b0 (by omega) p.active 2 (okNum_of (by omega) (by omega))
    have n1 : (b0 ++ numB p.active 2).length ≤ 102 := by rw [List.length_append, numB_len]; omega
    generalize b0 ++ numB p.active 2 = b1 at *
    conv => whnf
    repeat' ((first | refine brP_t (by assumption) ?_ | refine brP_f (by assumption) ?_ | refine brP_t (decide_eq_true (by omega)) ?_ | refine brP_f (decide_eq_false (by omega)) ?_ | refine brP_t (nd_t (by omega)) ?_ | refine brP_f (nd_f (by omega)) ?_ | ((rw [wa])) | refine callK_r (EvR.fr [_, _] d1 rfl rfl ⟨rfl, rfl, trivial⟩ rfl) ?_ | refine callM_l (LEv.fr [_, _] d1 rfl rfl ⟨rfl, rfl, trivial⟩ rfl rfl) ?_ | refine callK_rt (EvR.fr [_, _] d1 rfl rfl ⟨rfl, rfl, trivial⟩ rfl) ?_ | refine callK_rf rfl (EvR.fr [_, _] d1 rfl rfl ⟨rfl, rfl, trivial⟩ rfl) ?_ | refine callK_rft rfl (EvR.fr [_, _] d1 rfl rfl ⟨rfl, rfl, trivial⟩ rfl) ?_ | refine wpfS_seq1 ?_ | refine wpfS_go ?_ | fail) <;> conv => whnf)
    refine SemS.loopF false hm (σ := Nat) (fun j => [(3, .c (.ptr (.loc 1) 0)), (48, .agg (mrow p.own)), (49, iv j)]) (fun j => ⟨[], [.row p.row, .mrow [.p (.int .i64 0), .os (.loc 2) (b1 ++ ownsB p j).length], .arr 1 false (bytesOf (b1 ++ ownsB p j)), .row [.int .u16 p.live]]⟩) (fun j => 16 - j) (fun j => j ≤ 16) 0 (Nat.zero_le _) ⟨rfl, rfl, rfl, trivial⟩ ?_ ?_
    · show _ = (⟨[], [.row p.row, .mrow [.p (.int .i64 0), .os (.loc 2) (b1 ++ []).length], .arr 1 false (bytesOf (b1 ++ [])), .row [.int .u16 p.live]]⟩ : Hp)
      rw [List.append_nil]
    intro j hj
    have hl2 : (b1 ++ ownsB p j).length ≤ 120 := by rw [List.length_append, owns_len]; omega
    have hst : b1 ++ ownsB p (j + 1) = (b1 ++ ownsB p j) ++ numB (p.own j) 1 := by rw [owns_step, List.append_assoc]
    refine wpf_seq1 ?_
    conv => whnf
    try (refine wpfS_seq1 ?_; conv => whnf)
    refine brP_mk (fun h => ?_) (fun h => ?_)
    · have hj' : j < 16 := by have := of_decide_eq_true h; omega
      clear h
      have hw2 : IntKind.i64.wrap ((j : Int) + 1) = ((j + 1 : Nat) : Int) := by rw [wrap64 (by omega)]; rfl
      have hget := own_at p.own hj'
      have hw := wrapU8 (p.own j) (hp.own j hj')
      have ho := hp.own j hj'
      generalize b1 ++ ownsB p j = b2 at *
      have d2 := w_num_ok 0 b2 (by omega) (p.own j) 1 (okNum_of (by omega) (by omega))
      repeat' ((first | refine brP_t (by assumption) ?_ | refine brP_f (by assumption) ?_ | refine brP_t (decide_eq_true (by omega)) ?_ | refine brP_f (decide_eq_false (by omega)) ?_ | refine brP_t (nd_t (by omega)) ?_ | refine brP_f (nd_f (by omega)) ?_ | ((conv in (opS _ _ _ _) => whnf); rw [Int.toNat_natCast, hget]) | ((conv in (opM _ _ _ _ _) => whnf); (conv in (opS _ _ _ _) => whnf); rw [Int.toNat_natCast, hget]) | ((rw [hw])) | refine callK_r (EvR.fr [_, _] d2 rfl rfl ⟨rfl, rfl, trivial⟩ rfl) ?_ | refine callM_l (LEv.fr [_, _] d2 rfl rfl ⟨rfl, rfl, trivial⟩ rfl rfl) ?_ | refine callK_rt (EvR.fr [_, _] d2 rfl rfl ⟨rfl, rfl, trivial⟩ rfl) ?_ | refine callK_rf rfl (EvR.fr [_, _] d2 rfl rfl ⟨rfl, rfl, trivial⟩ rfl) ?_ | refine callK_rft rfl (EvR.fr [_, _] d2 rfl rfl ⟨rfl, rfl, trivial⟩ rfl) ?_ | refine wpfS_seq1 ?_ | refine wpfS_go ?_ | fail) <;> conv => whnf)
      rw [hw2]
      refine ⟨j + 1, hj', (show 16 - (j + 1) < 16 - j by omega), ⟨rfl, rfl, rfl, trivial⟩, ?_⟩
      show _ = (⟨[], [.row p.row, .mrow [.p (.int .i64 0), .os (.loc 2) (b1 ++ ownsB p (j + 1)).length], .arr 1 false (bytesOf (b1 ++ ownsB p (j + 1))), .row [.int .u16 p.live]]⟩ : Hp)
      rw [hst]
    · have hj' : j = 16 := by have := of_decide_eq_false h; omega
      subst hj'
      clear h hst
      generalize b1 ++ ownsB p 16 = b2 at *
      have d2 := w_done_ok b2 (by omega)
      conv => whnf
      repeat' ((first | refine brP_t (by assumption) ?_ | refine brP_f (by assumption) ?_ | refine brP_t (decide_eq_true (by omega)) ?_ | refine brP_f (decide_eq_false (by omega)) ?_ | refine brP_t (nd_t (by omega)) ?_ | refine brP_f (nd_f (by omega)) ?_ | refine callK_r (EvR.fr [_, _] d2 rfl rfl ⟨rfl, rfl, trivial⟩ rfl) ?_ | refine callM_l (LEv.fr [_, _] d2 rfl rfl ⟨rfl, rfl, trivial⟩ rfl rfl) ?_ | refine callK_rt (EvR.fr [_, _] d2 rfl rfl ⟨rfl, rfl, trivial⟩ rfl) ?_ | refine callK_rf rfl (EvR.fr [_, _] d2 rfl rfl ⟨rfl, rfl, trivial⟩ rfl) ?_ | refine callK_rft rfl (EvR.fr [_, _] d2 rfl rfl ⟨rfl, rfl, trivial⟩ rfl) ?_ | refine wpfS_seq1 ?_ | refine wpfS_go ?_ | fail) <;> conv => whnf)
      rfl
  · intro e H1 _ h
    exact h.elim
/-! ### The document's bytes -/
theorem R12_two_ok (s : Nat) (hs : s < 65536) : EvR PR G f_R12_two [uv s] ⟨[], []⟩ (.c (.ti (bytesOf (numB s 2)))) ⟨[], []⟩ := by
  refine EvR.of_wpf false false hm c_R12_two rfl ?_
  refine wpf_seq1 ?_
  conv => whnf
  repeat' ((first | refine brP_t (by assumption) ?_ | refine brP_f (by assumption) ?_ | refine brP_t (decide_eq_true (by omega)) ?_ | refine brP_f (decide_eq_false (by omega)) ?_ | refine brP_t (nd_t (by omega)) ?_ | refine brP_f (nd_f (by omega)) ?_ | refine wpfS_seq1 ?_ | refine wpfS_go ?_ | fail) <;> conv => whnf)
  have e1 : IntKind.u8.wrap (IntKind.u16.wrap ((s : Int).tdiv 256)) = (((UInt8.ofNat (s / 256 ^ 1)).toNat : Nat) : Int) := by
    rw [show (s : Int).tdiv 256 = ((s / 256 : Nat) : Int) from rfl, wrapN16 (by omega), wrap8 (by omega), UInt8.toNat_ofNat']
    omega
  have e2 : IntKind.u8.wrap ((s : Int).tmod 256) = (((UInt8.ofNat (s / 256 ^ 0)).toNat : Nat) : Int) := by
    rw [show (s : Int).tmod 256 = ((s % 256 : Nat) : Int) from rfl, wrap8 (by omega), UInt8.toNat_ofNat']
    omega
  refine ⟨?_, rfl⟩
  show AV.c (.ti [[.int .u8 (IntKind.u8.wrap (IntKind.u16.wrap ((s : Int).tdiv 256)))], [.int .u8 (IntKind.u8.wrap ((s : Int).tmod 256))]]) = _
  rw [e1, e2]
  rfl
theorem app_okP {n : Nat} {x y : List (List PV)} (hx : n = x.length) (hy : (y.all fun r => r.length == 1) = true) (hl : n + y.length ≤ 1000000) : (true && decide (n = x.length ∧ 1 = 1 ∧ (n + y.length) * 1 ≤ 2 ^ 47 ∧ n + y.length < 2 ^ 62) && y.all fun r => r.length == 1) = true := by
  rw [hy, decide_eq_true ⟨hx, rfl, by omega, by omega⟩]; rfl
theorem own_byte {n : Nat} (h : n ≤ 255) : bytesOf (numB n 1) = [[.int .u8 n]] := by
  have : (UInt8.ofNat (n / 256 ^ 0)).toNat = n := by rw [UInt8.toNat_ofNat']; omega
  show [[PV.int .u8 ((UInt8.ofNat (n / 256 ^ 0)).toNat : Nat)]] = _
  rw [this]
/-- The records of the roles below i. -/
def recsB (p : Pol) (i : Nat) : List UInt8 := ((List.range i).filter fun r => p.live.testBit r).flatMap (recB p)
theorem recs_yes (p : Pol) {i : Nat} (h : p.live.testBit i = true) : recsB p (i + 1) = recsB p i ++ numB (p.ls i) 2 ++ numB (p.li i) 2 ++ numB (p.acts i) 2 := by
  unfold recsB; rw [List.range_succ, List.filter_append, List.flatMap_append]
  simp [h, recB]
theorem recs_no (p : Pol) {i : Nat} (h : p.live.testBit i = false) : recsB p (i + 1) = recsB p i := by
  unfold recsB; rw [List.range_succ, List.filter_append, List.flatMap_append]
  simp [h]
theorem recsB_len (p : Pol) (i : Nat) : (recsB p i).length ≤ 6 * i := by
  unfold recsB
  rw [recs_len]
  have := List.length_filter_le (fun r => p.live.testBit r) (List.range i)
  rw [List.length_range] at this
  omega
set_option maxHeartbeats 1000000 in
theorem R12_Bytes_ok (p : Pol) (hp : p.Ok) : EvP PR G f_R12_Bytes [p.v] (slv (bytesOf (polB p))) := by
  have c0 := R12_two_ok p.live hp.live
  refine EvP.of_wpf false hm c_R12_Bytes rfl ?_
  refine wpf_seq1 ?_
  conv => whnf
  repeat' ((first | refine brP_t (by assumption) ?_ | refine brP_f (by assumption) ?_ | refine brP_t (decide_eq_true (by omega)) ?_ | refine brP_f (decide_eq_false (by omega)) ?_ | refine brP_t (nd_t (by omega)) ?_ | refine brP_f (nd_f (by omega)) ?_ | refine callK_r (EvR.fr [] c0 rfl rfl trivial rfl) ?_ | refine callM_l (LEv.fr [] c0 rfl rfl trivial rfl rfl) ?_ | refine callK_rt (EvR.fr [] c0 rfl rfl trivial rfl) ?_ | refine callK_rf rfl (EvR.fr [] c0 rfl rfl trivial rfl) ?_ | refine callK_rft rfl (EvR.fr [] c0 rfl rfl trivial rfl) ?_ | refine wpfS_seq1 ?_ | refine wpfS_go ?_ | fail) <;> conv => whnf)
  refine SemS.loopF false hm (σ := Nat × Bool) (fun q => match q with
      | (i, false) => [(1, .c (.ptr (.loc 0) 0)), (3, .c (.ti (bytesOf (numB p.live 2)))), (4, iv i)]
      | (i, true) => [(1, .c (.ptr (.loc 0) 0)), (3, .c (.os (.loc 1) (numB p.live 2 ++ recsB p i).length)), (4, iv i)])
    (fun q => match q with
      | (_, false) => ⟨[], [.row p.row]⟩
      | (i, true) => ⟨[], [.row p.row, .arr 1 false (bytesOf (numB p.live 2 ++ recsB p i))]⟩) (fun q => 16 - q.1)
    (fun q => q.1 ≤ 16 ∧ (q.2 = false → recsB p q.1 = [])) (0, false) ⟨Nat.zero_le _, fun _ => rfl⟩ ⟨rfl, rfl, rfl, trivial⟩ rfl ?_
  rintro ⟨i, b⟩ ⟨hi, hb⟩
  have hi : i ≤ 16 := hi
  have hy := recs_yes p (i := i)
  have hn := recs_no p (i := i)
  have hl := recsB_len p i
  cases b with
  | false =>
    have hb : recsB p i = [] := hb rfl
    rw [hb] at hy hn
    show wpf PR G false _ _ [(1, .c (.ptr (.loc 0) 0)), (3, .c (.ti (bytesOf (numB p.live 2)))), (4, iv i)] ⟨[], [.row p.row]⟩ _
    refine wpf_seq1 ?_
    conv => whnf
    try (refine wpfS_seq1 ?_; conv => whnf)
    refine brP_mk (fun h => ?_) (fun h => ?_)
    · have hi' : i < 16 := by have := of_decide_eq_true h; omega
      clear h
      have hw2 : IntKind.i64.wrap ((i : Int) + 1) = ((i + 1 : Nat) : Int) := by rw [wrap64 (by omega)]; rfl
      have e0 := R01_Has_ok p.live i hp.live
      rw [hasN_nat hi'] at e0
      cases h1 : p.live.testBit i with
      | true =>
        rw [h1] at e0
        have hy := hy h1
        have g1 := pol_ls p hi'
        have g2 := pol_li p hi'
        have g3 := pol_act p hi'
        have c1 := R12_two_ok (p.ls i) (hp.ls i hi')
        have c2 := R12_two_ok (p.li i) (hp.li i hi')
        have c3 := R12_two_ok (p.acts i) (hp.acts i hi')
        repeat' ((first | refine brP_t (by assumption) ?_ | refine brP_f (by assumption) ?_ | refine brP_t (decide_eq_true (by omega)) ?_ | refine brP_f (decide_eq_false (by omega)) ?_ | refine brP_t (nd_t (by omega)) ?_ | refine brP_f (nd_f (by omega)) ?_ | refine callK_p e0 ?_ | refine callM_p e0 rfl ?_ | refine callK_pf rfl e0 ?_ | ((conv in (opS _ _ _ _) => whnf); rw [Int.toNat_natCast, g1]) | ((conv in (opM _ _ _ _ _) => whnf); (conv in (opS _ _ _ _) => whnf); rw [Int.toNat_natCast, g1]) | ((conv in (opS _ _ _ _) => whnf); rw [Int.toNat_natCast, g2]) | ((conv in (opM _ _ _ _ _) => whnf); (conv in (opS _ _ _ _) => whnf); rw [Int.toNat_natCast, g2]) | ((conv in (opS _ _ _ _) => whnf); rw [Int.toNat_natCast, g3]) | ((conv in (opM _ _ _ _ _) => whnf); (conv in (opS _ _ _ _) => whnf); rw [Int.toNat_natCast, g3]) | refine callK_r (EvR.fr [] c1 rfl rfl trivial rfl) ?_ | refine callM_l (LEv.fr [] c1 rfl rfl trivial rfl rfl) ?_ | refine callK_rt (EvR.fr [] c1 rfl rfl trivial rfl) ?_ | refine callK_rf rfl (EvR.fr [] c1 rfl rfl trivial rfl) ?_ | refine callK_rft rfl (EvR.fr [] c1 rfl rfl trivial rfl) ?_ | refine callK_r (EvR.fr [] c2 rfl rfl trivial rfl) ?_ | refine callM_l (LEv.fr [] c2 rfl rfl trivial rfl rfl) ?_ | refine callK_rt (EvR.fr [] c2 rfl rfl trivial rfl) ?_ | refine callK_rf rfl (EvR.fr [] c2 rfl rfl trivial rfl) ?_ | refine callK_rft rfl (EvR.fr [] c2 rfl rfl trivial rfl) ?_ | refine callK_r (EvR.fr [] c3 rfl rfl trivial rfl) ?_ | refine callM_l (LEv.fr [] c3 rfl rfl trivial rfl rfl) ?_ | refine callK_rt (EvR.fr [] c3 rfl rfl trivial rfl) ?_ | refine callK_rf rfl (EvR.fr [] c3 rfl rfl trivial rfl) ?_ | refine callK_rft rfl (EvR.fr [] c3 rfl rfl trivial rfl) ?_ | refine wpfS_seq1 ?_ | refine wpfS_go ?_ | fail) <;> conv => whnf)
        rw [hw2]
        refine ⟨(i + 1, true), ⟨hi', fun h => by cases h⟩, (show 16 - (i + 1) < 16 - i by omega), ⟨rfl, ?_, rfl, trivial⟩, ?_⟩
        · show AV.c (.os (.loc 1) ((bytesOf (numB p.live 2)).length + (bytesOf (numB (p.ls i) 2)).length + (bytesOf (numB (p.li i) 2)).length + (bytesOf (numB (p.acts i) 2)).length)) = .c (.os (.loc 1) (numB p.live 2 ++ recsB p (i + 1)).length)
          rw [hy]
          simp only [bytesOf_len, numB_len, List.length_append, List.length_nil]
        · show (⟨[], [.row p.row, .arr 1 false (((bytesOf (numB p.live 2)) ++ bytesOf (numB (p.ls i) 2)) ++ bytesOf (numB (p.li i) 2) ++ bytesOf (numB (p.acts i) 2))]⟩ : Hp) = ⟨[], [.row p.row, .arr 1 false (bytesOf (numB p.live 2 ++ recsB p (i + 1)))]⟩
          rw [hy]
          simp only [bytesOf_app, List.append_assoc, List.nil_append]
      | false =>
        rw [h1] at e0
        have hn := hn h1
        repeat' ((first | refine brP_t (by assumption) ?_ | refine brP_f (by assumption) ?_ | refine brP_t (decide_eq_true (by omega)) ?_ | refine brP_f (decide_eq_false (by omega)) ?_ | refine brP_t (nd_t (by omega)) ?_ | refine brP_f (nd_f (by omega)) ?_ | refine callK_p e0 ?_ | refine callM_p e0 rfl ?_ | refine callK_pf rfl e0 ?_ | refine wpfS_seq1 ?_ | refine wpfS_go ?_ | fail) <;> conv => whnf)
        rw [hw2]
        exact ⟨(i + 1, false), ⟨hi', fun _ => hn⟩, (show 16 - (i + 1) < 16 - i by omega), ⟨rfl, rfl, rfl, trivial⟩, rfl⟩
    · have hi' : i = 16 := by have := of_decide_eq_false h; omega
      subst hi'
      clear h hy hn
      have hP : polB p = (numB p.live 2 ++ numB p.active 2) ++ ownsB p 16 := by
        have : (bitsN p.live).flatMap (recB p) = [] := hb
        unfold polB; rw [this, List.append_nil]
      rw [hP]
      have c1 := R12_two_ok p.active hp.active
      have hl2 : (numB p.live 2 ++ numB p.active 2).length ≤ 4 := by simp [numB_len]
      conv => whnf
      repeat' ((first | refine brP_t (by assumption) ?_ | refine brP_f (by assumption) ?_ | refine brP_t (decide_eq_true (by omega)) ?_ | refine brP_f (decide_eq_false (by omega)) ?_ | refine brP_t (nd_t (by omega)) ?_ | refine brP_f (nd_f (by omega)) ?_ | refine callK_r (EvR.fr [] c1 rfl rfl trivial rfl) ?_ | refine callM_l (LEv.fr [] c1 rfl rfl trivial rfl rfl) ?_ | refine callK_rt (EvR.fr [] c1 rfl rfl trivial rfl) ?_ | refine callK_rf rfl (EvR.fr [] c1 rfl rfl trivial rfl) ?_ | refine callK_rft rfl (EvR.fr [] c1 rfl rfl trivial rfl) ?_ | refine wpfS_seq1 ?_ | refine wpfS_go ?_ | fail) <;> conv => whnf)
      generalize hX : numB p.live 2 ++ numB p.active 2 = X at *
      refine SemS.loopF false hm (σ := Nat) (fun j => [(1, .c (.ptr (.loc 0) 0)), (3, .c (.os (.loc 1) (X ++ ownsB p j).length)), (5, iv j)]) (fun j => ⟨[], [.row p.row, .arr 1 false (bytesOf (X ++ ownsB p j))]⟩) (fun j => 16 - j) (fun j => j ≤ 16) 0 (Nat.zero_le _) ⟨rfl, ?_, rfl, trivial⟩ ?_ ?_
      · show AV.c (.os (.loc 1) ((bytesOf (numB p.live 2)).length + (bytesOf (numB p.active 2)).length)) = .c (.os (.loc 1) (X ++ []).length)
        rw [← hX]; simp only [List.length_append, bytesOf_len, List.append_nil]
      · show (⟨[], [.row p.row, .arr 1 false (bytesOf (numB p.live 2) ++ bytesOf (numB p.active 2))]⟩ : Hp) = ⟨[], [.row p.row, .arr 1 false (bytesOf (X ++ []))]⟩
        rw [← hX]; simp [bytesOf_app]
      intro j hj
      have hst : X ++ ownsB p (j + 1) = (X ++ ownsB p j) ++ numB (p.own j) 1 := by rw [owns_step, List.append_assoc]
      have hlo : (X ++ ownsB p j).length ≤ 200 := by rw [List.length_append, owns_len]; omega
      refine wpf_seq1 ?_
      conv => whnf
      try (refine wpfS_seq1 ?_; conv => whnf)
      refine brP_mk (fun h => ?_) (fun h => ?_)
      · have hj' : j < 16 := by have := of_decide_eq_true h; omega
        clear h
        have hw2 : IntKind.i64.wrap ((j : Int) + 1) = ((j + 1 : Nat) : Int) := by rw [wrap64 (by omega)]; rfl
        have hget := pol_own p hj'
        have ho := own_byte (hp.own j hj')
        repeat' ((first | refine brP_t (by assumption) ?_ | refine brP_f (by assumption) ?_ | refine brP_t (decide_eq_true (by omega)) ?_ | refine brP_f (decide_eq_false (by omega)) ?_ | refine brP_t (nd_t (by omega)) ?_ | refine brP_f (nd_f (by omega)) ?_ | ((conv in (opS _ _ _ _) => whnf); rw [Int.toNat_natCast, hget]) | ((conv in (opM _ _ _ _ _) => whnf); (conv in (opS _ _ _ _) => whnf); rw [Int.toNat_natCast, hget]) | (refine gd_mk ?_ ?_; focus (exact app_okP (by (try simp only [List.length_append, bytesOf_len]) <;> omega) rfl (by simp only [List.length_cons, List.length_nil]; omega); done)) | refine wpfS_seq1 ?_ | refine wpfS_go ?_ | fail) <;> conv => whnf)
        rw [hw2]
        refine ⟨j + 1, hj', (show 16 - (j + 1) < 16 - j by omega), ⟨rfl, ?_, rfl, trivial⟩, ?_⟩
        · show AV.c (.os (.loc 1) ((X ++ ownsB p j).length + 1)) = .c (.os (.loc 1) (X ++ ownsB p (j + 1)).length)
          rw [hst]; simp only [List.length_append, numB_len]
        · show (⟨[], [.row p.row, .arr 1 false (bytesOf (X ++ ownsB p j) ++ [[.int .u8 (p.own j)]])]⟩ : Hp) = ⟨[], [.row p.row, .arr 1 false (bytesOf (X ++ ownsB p (j + 1)))]⟩
          rw [hst, bytesOf_app (X ++ ownsB p j), ho]
      · have hj' : j = 16 := by have := of_decide_eq_false h; omega
        subst hj'
        clear h hst
        generalize X ++ ownsB p 16 = Y at *
        have hY := bytesOf_len Y
        conv => whnf
        repeat' ((first | refine brP_t (by assumption) ?_ | refine brP_f (by assumption) ?_ | refine brP_t (decide_eq_true (by omega)) ?_ | refine brP_f (decide_eq_false (by omega)) ?_ | refine brP_t (nd_t (by omega)) ?_ | refine brP_f (nd_f (by omega)) ?_ | (refine gd_mk ?_ ?_; focus (simp [hY]; done)) | refine wpfS_seq1 ?_ | refine wpfS_go ?_ | fail) <;> conv => whnf)
        rfl
  | true =>
    clear hb
    show wpf PR G false _ _ [(1, .c (.ptr (.loc 0) 0)), (3, .c (.os (.loc 1) (numB p.live 2 ++ recsB p i).length)), (4, iv i)] ⟨[], [.row p.row, .arr 1 false (bytesOf (numB p.live 2 ++ recsB p i))]⟩ _
    have hlen : (numB p.live 2 ++ recsB p i).length ≤ 100 := by rw [List.length_append, numB_len]; omega
    refine wpf_seq1 ?_
    conv => whnf
    try (refine wpfS_seq1 ?_; conv => whnf)
    refine brP_mk (fun h => ?_) (fun h => ?_)
    · have hi' : i < 16 := by have := of_decide_eq_true h; omega
      clear h
      have hw2 : IntKind.i64.wrap ((i : Int) + 1) = ((i + 1 : Nat) : Int) := by rw [wrap64 (by omega)]; rfl
      have e0 := R01_Has_ok p.live i hp.live
      rw [hasN_nat hi'] at e0
      cases h1 : p.live.testBit i with
      | true =>
        rw [h1] at e0
        have hy := hy h1
        have g1 := pol_ls p hi'
        have g2 := pol_li p hi'
        have g3 := pol_act p hi'
        have c1 := R12_two_ok (p.ls i) (hp.ls i hi')
        have c2 := R12_two_ok (p.li i) (hp.li i hi')
        have c3 := R12_two_ok (p.acts i) (hp.acts i hi')
        simp only [List.length_append, numB_len] at hlen
        repeat' ((first | refine brP_t (by assumption) ?_ | refine brP_f (by assumption) ?_ | refine brP_t (decide_eq_true (by omega)) ?_ | refine brP_f (decide_eq_false (by omega)) ?_ | refine brP_t (nd_t (by omega)) ?_ | refine brP_f (nd_f (by omega)) ?_ | refine callK_p e0 ?_ | refine callM_p e0 rfl ?_ | refine callK_pf rfl e0 ?_ | ((conv in (opS _ _ _ _) => whnf); rw [Int.toNat_natCast, g1]) | ((conv in (opM _ _ _ _ _) => whnf); (conv in (opS _ _ _ _) => whnf); rw [Int.toNat_natCast, g1]) | ((conv in (opS _ _ _ _) => whnf); rw [Int.toNat_natCast, g2]) | ((conv in (opM _ _ _ _ _) => whnf); (conv in (opS _ _ _ _) => whnf); rw [Int.toNat_natCast, g2]) | ((conv in (opS _ _ _ _) => whnf); rw [Int.toNat_natCast, g3]) | ((conv in (opM _ _ _ _ _) => whnf); (conv in (opS _ _ _ _) => whnf); rw [Int.toNat_natCast, g3]) | refine callK_r (EvR.fr [] c1 rfl rfl trivial rfl) ?_ | refine callM_l (LEv.fr [] c1 rfl rfl trivial rfl rfl) ?_ | refine callK_rt (EvR.fr [] c1 rfl rfl trivial rfl) ?_ | refine callK_rf rfl (EvR.fr [] c1 rfl rfl trivial rfl) ?_ | refine callK_rft rfl (EvR.fr [] c1 rfl rfl trivial rfl) ?_ | refine callK_r (EvR.fr [] c2 rfl rfl trivial rfl) ?_ | refine callM_l (LEv.fr [] c2 rfl rfl trivial rfl rfl) ?_ | refine callK_rt (EvR.fr [] c2 rfl rfl trivial rfl) ?_ | refine callK_rf rfl (EvR.fr [] c2 rfl rfl trivial rfl) ?_ | refine callK_rft rfl (EvR.fr [] c2 rfl rfl trivial rfl) ?_ | refine callK_r (EvR.fr [] c3 rfl rfl trivial rfl) ?_ | refine callM_l (LEv.fr [] c3 rfl rfl trivial rfl rfl) ?_ | refine callK_rt (EvR.fr [] c3 rfl rfl trivial rfl) ?_ | refine callK_rf rfl (EvR.fr [] c3 rfl rfl trivial rfl) ?_ | refine callK_rft rfl (EvR.fr [] c3 rfl rfl trivial rfl) ?_ | (refine gd_mk ?_ ?_; focus (exact app_okP (by (try simp only [List.length_append, bytesOf_len]) <;> omega) (bytesOf_all _) (by simp only [List.length_append, bytesOf_len, numB_len]; omega); done)) | refine wpfS_seq1 ?_ | refine wpfS_go ?_ | fail) <;> conv => whnf)
        rw [hw2]
        refine ⟨(i + 1, true), ⟨hi', fun h => by cases h⟩, (show 16 - (i + 1) < 16 - i by omega), ⟨rfl, ?_, rfl, trivial⟩, ?_⟩
        · show AV.c (.os (.loc 1) ((numB p.live 2 ++ recsB p i).length + (bytesOf (numB (p.ls i) 2)).length + (bytesOf (numB (p.li i) 2)).length + (bytesOf (numB (p.acts i) 2)).length)) = .c (.os (.loc 1) (numB p.live 2 ++ recsB p (i + 1)).length)
          rw [hy]
          simp only [bytesOf_len, numB_len, List.length_append]
          congr 2
        · show (⟨[], [.row p.row, .arr 1 false ((bytesOf (numB p.live 2 ++ recsB p i) ++ bytesOf (numB (p.ls i) 2)) ++ bytesOf (numB (p.li i) 2) ++ bytesOf (numB (p.acts i) 2))]⟩ : Hp) = ⟨[], [.row p.row, .arr 1 false (bytesOf (numB p.live 2 ++ recsB p (i + 1)))]⟩
          rw [hy]
          simp only [bytesOf_app, List.append_assoc]
      | false =>
        rw [h1] at e0
        have hn := hn h1
        repeat' ((first | refine brP_t (by assumption) ?_ | refine brP_f (by assumption) ?_ | refine brP_t (decide_eq_true (by omega)) ?_ | refine brP_f (decide_eq_false (by omega)) ?_ | refine brP_t (nd_t (by omega)) ?_ | refine brP_f (nd_f (by omega)) ?_ | refine callK_p e0 ?_ | refine callM_p e0 rfl ?_ | refine callK_pf rfl e0 ?_ | refine wpfS_seq1 ?_ | refine wpfS_go ?_ | fail) <;> conv => whnf)
        rw [hw2]
        refine ⟨(i + 1, true), ⟨hi', fun h => by cases h⟩, (show 16 - (i + 1) < 16 - i by omega), ⟨rfl, ?_, rfl, trivial⟩, ?_⟩
        · show AV.c (.os (.loc 1) (numB p.live 2 ++ recsB p i).length) = .c (.os (.loc 1) (numB p.live 2 ++ recsB p (i + 1)).length)
          rw [hn]
        · show (⟨[], [.row p.row, .arr 1 false (bytesOf (numB p.live 2 ++ recsB p i))]⟩ : Hp) = ⟨[], [.row p.row, .arr 1 false (bytesOf (numB p.live 2 ++ recsB p (i + 1)))]⟩
          rw [hn]
    · have hi' : i = 16 := by have := of_decide_eq_false h; omega
      subst hi'
      clear h hy hn
      have hP : polB p = (numB p.live 2 ++ recsB p 16 ++ numB p.active 2) ++ ownsB p 16 := rfl
      rw [hP]
      have c1 := R12_two_ok p.active hp.active
      have hl2 : (numB p.live 2 ++ recsB p 16 ++ numB p.active 2).length ≤ 150 := by simp only [List.length_append, numB_len]; omega
      simp only [List.length_append, numB_len] at hlen
      conv => whnf
      repeat' ((first | refine brP_t (by assumption) ?_ | refine brP_f (by assumption) ?_ | refine brP_t (decide_eq_true (by omega)) ?_ | refine brP_f (decide_eq_false (by omega)) ?_ | refine brP_t (nd_t (by omega)) ?_ | refine brP_f (nd_f (by omega)) ?_ | refine callK_r (EvR.fr [] c1 rfl rfl trivial rfl) ?_ | refine callM_l (LEv.fr [] c1 rfl rfl trivial rfl rfl) ?_ | refine callK_rt (EvR.fr [] c1 rfl rfl trivial rfl) ?_ | refine callK_rf rfl (EvR.fr [] c1 rfl rfl trivial rfl) ?_ | refine callK_rft rfl (EvR.fr [] c1 rfl rfl trivial rfl) ?_ | (refine gd_mk ?_ ?_; focus (exact app_okP (by (try simp only [List.length_append, bytesOf_len]) <;> omega) (bytesOf_all _) (by simp only [List.length_append, bytesOf_len, numB_len]; omega); done)) | refine wpfS_seq1 ?_ | refine wpfS_go ?_ | fail) <;> conv => whnf)
      generalize hX : numB p.live 2 ++ recsB p 16 ++ numB p.active 2 = X at *
      refine SemS.loopF false hm (σ := Nat) (fun j => [(1, .c (.ptr (.loc 0) 0)), (3, .c (.os (.loc 1) (X ++ ownsB p j).length)), (5, iv j)]) (fun j => ⟨[], [.row p.row, .arr 1 false (bytesOf (X ++ ownsB p j))]⟩) (fun j => 16 - j) (fun j => j ≤ 16) 0 (Nat.zero_le _) ⟨rfl, ?_, rfl, trivial⟩ ?_ ?_
      · show AV.c (.os (.loc 1) ((numB p.live 2 ++ recsB p 16).length + (bytesOf (numB p.active 2)).length)) = .c (.os (.loc 1) (X ++ []).length)
        rw [← hX]; simp only [List.length_append, bytesOf_len, List.append_nil]
      · show (⟨[], [.row p.row, .arr 1 false (bytesOf (numB p.live 2 ++ recsB p 16) ++ bytesOf (numB p.active 2))]⟩ : Hp) = ⟨[], [.row p.row, .arr 1 false (bytesOf (X ++ []))]⟩
        rw [← hX]; simp [bytesOf_app]
      intro j hj
      have hst : X ++ ownsB p (j + 1) = (X ++ ownsB p j) ++ numB (p.own j) 1 := by rw [owns_step, List.append_assoc]
      have hlo : (X ++ ownsB p j).length ≤ 200 := by rw [List.length_append, owns_len]; omega
      refine wpf_seq1 ?_
      conv => whnf
      try (refine wpfS_seq1 ?_; conv => whnf)
      refine brP_mk (fun h => ?_) (fun h => ?_)
      · have hj' : j < 16 := by have := of_decide_eq_true h; omega
        clear h
        have hw2 : IntKind.i64.wrap ((j : Int) + 1) = ((j + 1 : Nat) : Int) := by rw [wrap64 (by omega)]; rfl
        have hget := pol_own p hj'
        have ho := own_byte (hp.own j hj')
        repeat' ((first | refine brP_t (by assumption) ?_ | refine brP_f (by assumption) ?_ | refine brP_t (decide_eq_true (by omega)) ?_ | refine brP_f (decide_eq_false (by omega)) ?_ | refine brP_t (nd_t (by omega)) ?_ | refine brP_f (nd_f (by omega)) ?_ | ((conv in (opS _ _ _ _) => whnf); rw [Int.toNat_natCast, hget]) | ((conv in (opM _ _ _ _ _) => whnf); (conv in (opS _ _ _ _) => whnf); rw [Int.toNat_natCast, hget]) | (refine gd_mk ?_ ?_; focus (exact app_okP (by (try simp only [List.length_append, bytesOf_len]) <;> omega) rfl (by simp only [List.length_cons, List.length_nil]; omega); done)) | refine wpfS_seq1 ?_ | refine wpfS_go ?_ | fail) <;> conv => whnf)
        rw [hw2]
        refine ⟨j + 1, hj', (show 16 - (j + 1) < 16 - j by omega), ⟨rfl, ?_, rfl, trivial⟩, ?_⟩
        · show AV.c (.os (.loc 1) ((X ++ ownsB p j).length + 1)) = .c (.os (.loc 1) (X ++ ownsB p (j + 1)).length)
          rw [hst]; simp only [List.length_append, numB_len]
        · show (⟨[], [.row p.row, .arr 1 false (bytesOf (X ++ ownsB p j) ++ [[.int .u8 (p.own j)]])]⟩ : Hp) = ⟨[], [.row p.row, .arr 1 false (bytesOf (X ++ ownsB p (j + 1)))]⟩
          rw [hst, bytesOf_app (X ++ ownsB p j), ho]
      · have hj' : j = 16 := by have := of_decide_eq_false h; omega
        subst hj'
        clear h hst
        generalize X ++ ownsB p 16 = Y at *
        have hY := bytesOf_len Y
        conv => whnf
        repeat' ((first | refine brP_t (by assumption) ?_ | refine brP_f (by assumption) ?_ | refine brP_t (decide_eq_true (by omega)) ?_ | refine brP_f (decide_eq_false (by omega)) ?_ | refine brP_t (nd_t (by omega)) ?_ | refine brP_f (nd_f (by omega)) ?_ | (refine gd_mk ?_ ?_; focus (simp [hY]; done)) | refine wpfS_seq1 ?_ | refine wpfS_go ?_ | fail) <;> conv => whnf)
        rfl
end Go.Ab.S

namespace Go.Ab.S
open Go Go.Ab Go.Proofs
attribute [local irreducible] SemS
set_option maxRecDepth 100000
/-! ### Policies that are read -/
def recRd (keep : Bool) (q : Pol × St) (r : Nat) : Pol × St :=
  (setAct (setLab q.1 r (q.2.nv 2 65535).toNat ((q.2.num keep 2 65535).nv 2 65535).toNat) r (((q.2.num keep 2 65535).num keep 2 65535).nv 2 65535).toNat, ((q.2.num keep 2 65535).num keep 2 65535).num keep 2 65535)
def ownRd (keep : Bool) (q : Pol × St) (t : Nat) : Pol × St := (setOwn q.1 t (q.2.nv 1 16).toNat, q.2.num keep 1 16)
def setLive (p : Pol) (n : Nat) : Pol := { p with live := n }
def setActive (p : Pol) (n : Nat) : Pol := { p with active := n }
def rolesRd (keep : Bool) (s : St) : Pol × St := (bitsN (s.nv 2 65535).toNat).foldl (recRd keep) (setLive zeroP (s.nv 2 65535).toNat, s.num keep 2 65535)
def tagsRd (keep : Bool) (s : St) : Pol × St := (List.range 16).foldl (ownRd keep) (setActive (rolesRd keep s).1 ((rolesRd keep s).2.nv 2 65535).toNat, (rolesRd keep s).2.num keep 2 65535)
def chkRd (q : Pol × St) : St := if q.2.e = 0 ∧ fineP q.1 = false then q.2.fail 3 else q.2
def polRd (keep : Bool) (s : St) : Pol × St := if (chkRd (tagsRd keep s)).e = 0 then ((tagsRd keep s).1, chkRd (tagsRd keep s)) else (zeroP, chkRd (tagsRd keep s))
theorem put_ls (p : Pol) {r : Nat} (h : r < 16) (s : Nat) : putAt p.row (0 + 1 + r * 2 + 0) [.int .u16 s] = ({ p with ls := updF p.ls r s } : Pol).row := by
  rcases cases16 h with rfl | rfl | rfl | rfl | rfl | rfl | rfl | rfl | rfl | rfl | rfl | rfl | rfl | rfl | rfl | rfl <;> rfl
theorem put_li (p : Pol) {r : Nat} (h : r < 16) (s : Nat) : putAt p.row (0 + 1 + r * 2 + 1) [.int .u16 s] = ({ p with li := updF p.li r s } : Pol).row := by
  rcases cases16 h with rfl | rfl | rfl | rfl | rfl | rfl | rfl | rfl | rfl | rfl | rfl | rfl | rfl | rfl | rfl | rfl <;> rfl
theorem nv16_lt {s : St} {size : Int} : (s.nv size 65535).toNat < 65536 := by
  have := nv_range (s := s) (size := size) (most := 65535) (by omega); omega
theorem nvo_le {s : St} {size : Int} : (s.nv size 16).toNat ≤ 16 := by
  have := nv_range (s := s) (size := size) (most := 16) (by omega); omega
theorem zero_ok : zeroP.Ok :=
  have h : 0 < 65536 := by omega
  ⟨h, fun _ _ => h, fun _ _ => h, fun _ _ => h, fun _ _ => Nat.zero_le _, h⟩
theorem upd_all {P : Nat → Prop} {f : Nat → Nat} {r v : Nat} (hv : P v) (hf : ∀ i, i < 16 → P (f i)) : ∀ i, i < 16 → P (updF f r v i) := fun i hi => by
  unfold updF; split
  · exact hv
  · exact hf i hi
theorem recRd_ok {keep : Bool} {q : Pol × St} {r : Nat} (h : q.1.Ok) : (recRd keep q r).1.Ok :=
  ⟨h.live, upd_all (P := fun v => v < 65536) nv16_lt h.ls, upd_all (P := fun v => v < 65536) nv16_lt h.li, upd_all (P := fun v => v < 65536) nv16_lt h.acts, h.own, h.active⟩
theorem rolesRd_live {keep : Bool} : ∀ (l : List Nat) (q : Pol × St), (l.foldl (recRd keep) q).1.live = q.1.live
  | [], _ => rfl
  | r :: l, q => by rw [List.foldl_cons, rolesRd_live l]; rfl
theorem rolesF_ok {keep : Bool} : ∀ (l : List Nat) {q : Pol × St}, q.1.Ok → (l.foldl (recRd keep) q).1.Ok
  | [], _, h => h
  | r :: l, _, h => rolesF_ok l (recRd_ok h)
theorem recF_suf {B : List UInt8} {keep : Bool} : ∀ (l : List Nat) {q : Pol × St}, Suf B q.2.b → Suf B (l.foldl (recRd keep) q).2.b
  | [], _, h => h
  | r :: l, _, h => recF_suf l (((h.num keep 2 65535).num keep 2 65535).num keep 2 65535)
theorem ownRd_ok {keep : Bool} {q : Pol × St} {r : Nat} (h : q.1.Ok) : (ownRd keep q r).1.Ok :=
  ⟨h.live, h.ls, h.li, h.acts, upd_all (P := fun v => v ≤ 255) (Nat.le_trans nvo_le (by omega)) h.own, h.active⟩
theorem ownF_ok {keep : Bool} : ∀ (l : List Nat) {q : Pol × St}, q.1.Ok → (l.foldl (ownRd keep) q).1.Ok
  | [], _, h => h
  | r :: l, _, h => ownF_ok l (ownRd_ok h)
theorem ownF_suf {B : List UInt8} {keep : Bool} : ∀ (l : List Nat) {q : Pol × St}, Suf B q.2.b → Suf B (l.foldl (ownRd keep) q).2.b
  | [], _, h => h
  | r :: l, _, h => ownF_suf l (h.num keep 1 16)
theorem rolesRd_ok {keep : Bool} {s : St} : (rolesRd keep s).1.Ok := rolesF_ok _ ⟨nv16_lt, zero_ok.ls, zero_ok.li, zero_ok.acts, zero_ok.own, zero_ok.active⟩
theorem tagsRd_ok {keep : Bool} {s : St} : (tagsRd keep s).1.Ok := ownF_ok _ ⟨rolesRd_ok.live, rolesRd_ok.ls, rolesRd_ok.li, rolesRd_ok.acts, rolesRd_ok.own, nv16_lt⟩
theorem polRd_ok {keep : Bool} {s : St} : (polRd keep s).1.Ok := by
  unfold polRd; split
  · exact tagsRd_ok
  · exact zero_ok
theorem chk_suf {B : List UInt8} {q : Pol × St} (h : Suf B q.2.b) : Suf B (chkRd q).b := by
  unfold chkRd; split <;> exact h
theorem tags_suf {B : List UInt8} {keep : Bool} {s : St} (h : Suf B s.b) : Suf B (tagsRd keep s).2.b := ownF_suf _ ((recF_suf _ (h.num keep 2 65535)).num keep 2 65535)
theorem polRd_suf {B : List UInt8} {keep : Bool} {s : St} (h : Suf B s.b) : Suf B (polRd keep s).2.b := by
  unfold polRd; split <;> exact chk_suf (tags_suf h)
/-- The program's way to a number. -/
theorem set_ok (s : St) : EvR PR G f_policy_Read_1 [.c (.ptr (.par 1) 0)] ⟨s.pr ++ [.mrow [.ptr (.par 0) 0]], []⟩ (uv ((s.nv 2 65535).toNat : Int)) ⟨(s.num true 2 65535).pr ++ [.mrow [.ptr (.par 0) 0]], []⟩ := by
  have c0 := pr_num s 2 65535 (by omega)
  have hw := nv_u16 (s := s) (size := 2)
  generalize s.num true 2 65535 = s1 at *
  refine EvR.of_wpfC false true hm c_policy_Read_1 rfl rfl ?_
  refine wpf_seq1 ?_
  conv => whnf
  repeat' ((first | refine brP_t (by assumption) ?_ | refine brP_f (by assumption) ?_ | refine brP_t (decide_eq_true (by omega)) ?_ | refine brP_f (decide_eq_false (by omega)) ?_ | refine brP_t (nd_t (by omega)) ?_ | refine brP_f (nd_f (by omega)) ?_ | refine callK_r (EvR.fr [_] c0 rfl rfl ⟨rfl, trivial⟩ rfl) ?_ | refine callM_l (LEv.fr [_] c0 rfl rfl ⟨rfl, trivial⟩ rfl rfl) ?_ | refine callK_rt (EvR.fr [_] c0 rfl rfl ⟨rfl, trivial⟩ rfl) ?_ | refine callK_rf rfl (EvR.fr [_] c0 rfl rfl ⟨rfl, trivial⟩ rfl) ?_ | refine callK_rft rfl (EvR.fr [_] c0 rfl rfl ⟨rfl, trivial⟩ rfl) ?_ | ((rw [hw])) | refine wpfS_seq1 ?_ | refine wpfS_go ?_ | fail) <;> conv => whnf)
  exact ⟨rfl, rfl⟩
end Go.Ab.S

namespace Go.Ab.S
open Go Go.Ab Go.Proofs
attribute [local irreducible] SemS
set_option maxRecDepth 100000
theorem chk_same {q : Pol × St} (h : ¬ (q.2.e = 0 ∧ fineP q.1 = false)) : chkRd q = q.2 := if_neg h
theorem chk_fail {q : Pol × St} (h1 : q.2.e = 0) (h2 : fineP q.1 = false) : chkRd q = q.2.fail 3 := if_pos ⟨h1, h2⟩
theorem policy_Read_ok (s : St) : EvR PR G f_policy_Read [.c (.ptr (.par 0) 0)] ⟨s.pr, []⟩ (polRd true s).1.v ⟨(polRd true s).2.pr, []⟩ := by
  have c0 := set_ok s
  have hR : rolesRd true s = (bitsN (s.nv 2 65535).toNat).foldl (recRd true) (setLive zeroP (s.nv 2 65535).toNat, s.num true 2 65535) := rfl
  have hn : (s.nv 2 65535).toNat < 65536 := nv16_lt
  generalize s.num true 2 65535 = s1 at *
  generalize (s.nv 2 65535).toNat = n at *
  have e3 := Each0_ok n
  refine EvR.of_wpfC false true hm c_policy_Read rfl rfl ?_
  refine wpf_seq1 ?_
  conv => whnf
  repeat' ((first | refine brP_t (by assumption) ?_ | refine brP_f (by assumption) ?_ | refine brP_t (decide_eq_true (by omega)) ?_ | refine brP_f (decide_eq_false (by omega)) ?_ | refine brP_t (nd_t (by omega)) ?_ | refine brP_f (nd_f (by omega)) ?_ | refine callK_r (EvR.fr [_, _] c0 rfl rfl ⟨rfl, rfl, trivial⟩ rfl) ?_ | refine callM_l (LEv.fr [_, _] c0 rfl rfl ⟨rfl, rfl, trivial⟩ rfl rfl) ?_ | refine callK_rt (EvR.fr [_, _] c0 rfl rfl ⟨rfl, rfl, trivial⟩ rfl) ?_ | refine callK_rf rfl (EvR.fr [_, _] c0 rfl rfl ⟨rfl, rfl, trivial⟩ rfl) ?_ | refine callK_rft rfl (EvR.fr [_, _] c0 rfl rfl ⟨rfl, rfl, trivial⟩ rfl) ?_ | refine callK_r (EvR.fr [] e3 rfl rfl trivial rfl) ?_ | refine callM_l (LEv.fr [] e3 rfl rfl trivial rfl rfl) ?_ | refine callK_rt (EvR.fr [] e3 rfl rfl trivial rfl) ?_ | refine callK_rf rfl (EvR.fr [] e3 rfl rfl trivial rfl) ?_ | refine callK_rft rfl (EvR.fr [] e3 rfl rfl trivial rfl) ?_ | refine wpfS_seq1 ?_ | refine wpfS_go ?_ | fail) <;> conv => whnf)
  have hpre : ∀ {pre : List Int} {x : Int}, pre ++ [x] <+: bitsL n → (∀ q ∈ pre.map Int.toNat, q < 16) ∧ ∃ q : Nat, x = q ∧ q < 16 := by
    intro pre x h
    refine ⟨fun q hq => ?_, ?_⟩
    · obtain ⟨y, hy, rfl⟩ := List.mem_map.1 hq
      obtain ⟨z, hz, rfl⟩ := List.mem_map.1 (h.subset (show y ∈ pre ++ [x] by simp [hy]))
      exact (mem_bitsN.1 hz).1
    · obtain ⟨z, hz, rfl⟩ := List.mem_map.1 (h.subset (show x ∈ pre ++ [x] by simp))
      exact ⟨z, rfl, (mem_bitsN.1 hz).1⟩
  refine SemS.rf false hm (s := n) (xs := bitsL n) rfl each_callable rfl (fun F w r' hG hF hc => each1 n hn F w r' hG hF hc)
    (fun pre H => H = ⟨((pre.map Int.toNat).foldl (recRd true) (setLive zeroP n, s1)).2.pr, [.mrow [.ptr (.par 0) 0], .row zeroP.row, .mrow [.fn f_policy_Read_1 [.loc 0]], .row ((pre.map Int.toNat).foldl (recRd true) (setLive zeroP n, s1)).1.row, .row [.int .u16 n]]⟩) (fun _ _ => False) rfl ?_ ?_ ?_
  · rintro pre x H1 hpx rfl
    obtain ⟨hp1, q, rfl, hq⟩ := hpre hpx
    have hfold : ((pre ++ [(q : Int)]).map Int.toNat).foldl (recRd true) (setLive zeroP n, s1) = recRd true ((pre.map Int.toNat).foldl (recRd true) (setLive zeroP n, s1)) q := by
      rw [List.map_append, List.foldl_append]; rfl
    rw [hfold]
    generalize (pre.map Int.toNat).foldl (recRd true) (setLive zeroP n, s1) = o at *
    obtain ⟨p, t⟩ := o
    unfold recRd
    dsimp only
    have d1 := set_ok t
    generalize (t.nv 2 65535).toNat = v1 at *
    generalize t.num true 2 65535 = t1 at *
    have d2 := set_ok t1
    generalize (t1.nv 2 65535).toNat = v2 at *
    generalize t1.num true 2 65535 = t2 at *
    have d3 := set_ok t2
    generalize (t2.nv 2 65535).toNat = v3 at *
    generalize t2.num true 2 65535 = t3 at *
    conv => whnf
    refine ⟨rfl, ?_⟩
    conv => whnf
    repeat' ((first | (refine gd_mk ?_ ?_; (focus (first | exact decide_eq_true (by rw [pol_len]; omega) | exact decide_eq_true (And.intro rfl (by rw [pol_len]; simp only [List.length_cons, List.length_nil]; omega)) | exact decide_eq_true (And.intro rfl (by rw [pol_len]; omega)) | exact decide_eq_true (by rw [pol_len]; simp only [List.length_cons, List.length_nil]; omega) | exact decide_eq_true (by show _ ≤ 16; omega) | exact decide_eq_true (And.intro rfl (by show _ ≤ 16; omega)) | exact decide_eq_true (And.intro rfl (by show _ ≤ 16; simp only [List.length_cons, List.length_nil]; omega)))); rw [Int.toNat_natCast, put_act _ hq]) | (refine gd_mk ?_ ?_; (focus (first | exact decide_eq_true (by rw [pol_len]; omega) | exact decide_eq_true (And.intro rfl (by rw [pol_len]; simp only [List.length_cons, List.length_nil]; omega)) | exact decide_eq_true (And.intro rfl (by rw [pol_len]; omega)) | exact decide_eq_true (by rw [pol_len]; simp only [List.length_cons, List.length_nil]; omega) | exact decide_eq_true (by show _ ≤ 16; omega) | exact decide_eq_true (And.intro rfl (by show _ ≤ 16; omega)) | exact decide_eq_true (And.intro rfl (by show _ ≤ 16; simp only [List.length_cons, List.length_nil]; omega)))); rw [Int.toNat_natCast, put_lab _ hq]) | refine brP_t (by assumption) ?_ | refine brP_f (by assumption) ?_ | refine brP_t (decide_eq_true (by omega)) ?_ | refine brP_f (decide_eq_false (by omega)) ?_ | refine brP_t (nd_t (by omega)) ?_ | refine brP_f (nd_f (by omega)) ?_ | refine callK_r (EvR.fr [_, _] d1 rfl rfl ⟨rfl, rfl, trivial⟩ rfl) ?_ | refine callM_l (LEv.fr [_, _] d1 rfl rfl ⟨rfl, rfl, trivial⟩ rfl rfl) ?_ | refine callK_rt (EvR.fr [_, _] d1 rfl rfl ⟨rfl, rfl, trivial⟩ rfl) ?_ | refine callK_rf rfl (EvR.fr [_, _] d1 rfl rfl ⟨rfl, rfl, trivial⟩ rfl) ?_ | refine callK_rft rfl (EvR.fr [_, _] d1 rfl rfl ⟨rfl, rfl, trivial⟩ rfl) ?_ | refine callK_r (EvR.fr [_, _] d2 rfl rfl ⟨rfl, rfl, trivial⟩ rfl) ?_ | refine callM_l (LEv.fr [_, _] d2 rfl rfl ⟨rfl, rfl, trivial⟩ rfl rfl) ?_ | refine callK_rt (EvR.fr [_, _] d2 rfl rfl ⟨rfl, rfl, trivial⟩ rfl) ?_ | refine callK_rf rfl (EvR.fr [_, _] d2 rfl rfl ⟨rfl, rfl, trivial⟩ rfl) ?_ | refine callK_rft rfl (EvR.fr [_, _] d2 rfl rfl ⟨rfl, rfl, trivial⟩ rfl) ?_ | refine callK_r (EvR.fr [_, _] d3 rfl rfl ⟨rfl, rfl, trivial⟩ rfl) ?_ | refine callM_l (LEv.fr [_, _] d3 rfl rfl ⟨rfl, rfl, trivial⟩ rfl rfl) ?_ | refine callK_rt (EvR.fr [_, _] d3 rfl rfl ⟨rfl, rfl, trivial⟩ rfl) ?_ | refine callK_rf rfl (EvR.fr [_, _] d3 rfl rfl ⟨rfl, rfl, trivial⟩ rfl) ?_ | refine callK_rft rfl (EvR.fr [_, _] d3 rfl rfl ⟨rfl, rfl, trivial⟩ rfl) ?_ | refine wpfS_seq1 ?_ | refine wpfS_go ?_ | fail) <;> conv => whnf)
    rfl
  · rintro H1 rfl
    have hmap : (bitsL n).map Int.toNat = bitsN n := by
      unfold bitsL
      rw [List.map_map]
      conv => rhs; rw [← List.map_id (bitsN n)]
      rfl
    rw [hmap, ← hR]
    have hT : tagsRd true s = (List.range 16).foldl (ownRd true) (setActive (rolesRd true s).1 ((rolesRd true s).2.nv 2 65535).toNat, (rolesRd true s).2.num true 2 65535) := rfl
    have htok := tagsRd_ok (keep := true) (s := s)
    unfold polRd
    generalize tagsRd true s = Q at *
    clear hR
    generalize rolesRd true s = q at *
    obtain ⟨p, t⟩ := q
    dsimp only at *
    have d1 := set_ok t
    generalize (t.nv 2 65535).toNat = va at *
    generalize t.num true 2 65535 = t1 at *
    conv => whnf
    repeat' ((first | refine brP_t (by assumption) ?_ | refine brP_f (by assumption) ?_ | refine brP_t (decide_eq_true (by omega)) ?_ | refine brP_f (decide_eq_false (by omega)) ?_ | refine brP_t (nd_t (by omega)) ?_ | refine brP_f (nd_f (by omega)) ?_ | refine callK_r (EvR.fr [_, _] d1 rfl rfl ⟨rfl, rfl, trivial⟩ rfl) ?_ | refine callM_l (LEv.fr [_, _] d1 rfl rfl ⟨rfl, rfl, trivial⟩ rfl rfl) ?_ | refine callK_rt (EvR.fr [_, _] d1 rfl rfl ⟨rfl, rfl, trivial⟩ rfl) ?_ | refine callK_rf rfl (EvR.fr [_, _] d1 rfl rfl ⟨rfl, rfl, trivial⟩ rfl) ?_ | refine callK_rft rfl (EvR.fr [_, _] d1 rfl rfl ⟨rfl, rfl, trivial⟩ rfl) ?_ | refine wpfS_seq1 ?_ | refine wpfS_go ?_ | fail) <;> conv => whnf)
    refine SemS.loopF false hm (σ := Nat) (fun j => [(1, .c (.ptr (.loc 0) 0)), (2, .c (.ptr (.loc 1) 0)), (4, .c (.ptr (.loc 3) 0)), (31, iv j)]) (fun j => ⟨((List.range j).foldl (ownRd true) (setActive p va, t1)).2.pr, [.mrow [.ptr (.par 0) 0], .row zeroP.row, .mrow [.fn f_policy_Read_1 [.loc 0]], .row ((List.range j).foldl (ownRd true) (setActive p va, t1)).1.row, .row [.int .u16 n]]⟩) (fun j => 16 - j) (fun j => j ≤ 16) 0 (Nat.zero_le _) ⟨rfl, rfl, rfl, rfl, trivial⟩ rfl ?_
    intro j hj
    have hst : (List.range (j + 1)).foldl (ownRd true) (setActive p va, t1) = ownRd true ((List.range j).foldl (ownRd true) (setActive p va, t1)) j := by rw [List.range_succ, List.foldl_append]; rfl
    generalize hqe : (List.range j).foldl (ownRd true) (setActive p va, t1) = o at *
    obtain ⟨p', t'⟩ := o
    refine wpf_seq1 ?_
    conv => whnf
    try (refine wpfS_seq1 ?_; conv => whnf)
    refine brP_mk (fun h => ?_) (fun h => ?_)
    · have hj' : j < 16 := by have := of_decide_eq_true h; omega
      clear h
      have hw2 : IntKind.i64.wrap ((j : Int) + 1) = ((j + 1 : Nat) : Int) := by rw [wrap64 (by omega)]; rfl
      have d2 := pr_num t' 1 16 (by omega)
      have hw := nv_u8 (s := t') (size := 1) (most := 16) ⟨by omega, by omega⟩
      have hst : (List.range (j + 1)).foldl (ownRd true) (setActive p va, t1) = (setOwn p' j (t'.nv 1 16).toNat, t'.num true 1 16) := hst
      generalize hv : t'.nv 1 16 = v at *
      generalize v.toNat = vn at *
      generalize t'.num true 1 16 = t2 at *
      repeat' ((first | (refine gd_mk ?_ ?_; (focus (first | exact decide_eq_true (by rw [pol_len]; omega) | exact decide_eq_true (And.intro rfl (by rw [pol_len]; simp only [List.length_cons, List.length_nil]; omega)) | exact decide_eq_true (And.intro rfl (by rw [pol_len]; omega)) | exact decide_eq_true (by rw [pol_len]; simp only [List.length_cons, List.length_nil]; omega) | exact decide_eq_true (by show _ ≤ 16; omega) | exact decide_eq_true (And.intro rfl (by show _ ≤ 16; omega)) | exact decide_eq_true (And.intro rfl (by show _ ≤ 16; simp only [List.length_cons, List.length_nil]; omega)))); rw [Int.toNat_natCast, put_own _ hj']) | refine brP_t (by assumption) ?_ | refine brP_f (by assumption) ?_ | refine brP_t (decide_eq_true (by omega)) ?_ | refine brP_f (decide_eq_false (by omega)) ?_ | refine brP_t (nd_t (by omega)) ?_ | refine brP_f (nd_f (by omega)) ?_ | refine callK_r (EvR.fr [_] d2 rfl rfl ⟨rfl, trivial⟩ rfl) ?_ | refine callM_l (LEv.fr [_] d2 rfl rfl ⟨rfl, trivial⟩ rfl rfl) ?_ | refine callK_rt (EvR.fr [_] d2 rfl rfl ⟨rfl, trivial⟩ rfl) ?_ | refine callK_rf rfl (EvR.fr [_] d2 rfl rfl ⟨rfl, trivial⟩ rfl) ?_ | refine callK_rft rfl (EvR.fr [_] d2 rfl rfl ⟨rfl, trivial⟩ rfl) ?_ | ((rw [hw])) | refine wpfS_seq1 ?_ | refine wpfS_go ?_ | fail) <;> conv => whnf)
      rw [hw2]
      refine ⟨j + 1, hj', (show 16 - (j + 1) < 16 - j by omega), ⟨rfl, rfl, rfl, rfl, trivial⟩, ?_⟩
      show (⟨t2.pr, [.mrow [.ptr (.par 0) 0], .row zeroP.row, .mrow [.fn f_policy_Read_1 [.loc 0]], .row (setOwn p' j vn).row, .row [.int .u16 n]]⟩ : Hp) = ⟨((List.range (j + 1)).foldl (ownRd true) (setActive p va, t1)).2.pr, [.mrow [.ptr (.par 0) 0], .row zeroP.row, .mrow [.fn f_policy_Read_1 [.loc 0]], .row ((List.range (j + 1)).foldl (ownRd true) (setActive p va, t1)).1.row, .row [.int .u16 n]]⟩
      rw [hst]
    · have hj' : j = 16 := by have := of_decide_eq_false h; omega
      subst hj'
      have hQ : Q = (p', t') := hT.trans hqe
      subst hQ
      clear h hst hT hqe
      have d2 := pr_err t'
      have d3 := policy_Fine_ok p' htok
      have d4 := pr_fail t' 3
      have d5 := pr_err (t'.fail 3)
      conv => whnf
      by_cases he : t'.e = 0
      · cases hf : fineP p' with
        | true =>
          rw [hf] at d3
          rw [chk_same (q := (p', t')) (fun h => by rw [hf] at h; cases h.2), if_pos he]
          repeat' ((first | refine brP_t (by assumption) ?_ | refine brP_f (by assumption) ?_ | refine brP_t (decide_eq_true (by omega)) ?_ | refine brP_f (decide_eq_false (by omega)) ?_ | refine brP_t (nd_t (by omega)) ?_ | refine brP_f (nd_f (by omega)) ?_ | refine callK_r (EvR.fr [_] d2 rfl rfl ⟨rfl, trivial⟩ rfl) ?_ | refine callM_l (LEv.fr [_] d2 rfl rfl ⟨rfl, trivial⟩ rfl rfl) ?_ | refine callK_rt (EvR.fr [_] d2 rfl rfl ⟨rfl, trivial⟩ rfl) ?_ | refine callK_rf rfl (EvR.fr [_] d2 rfl rfl ⟨rfl, trivial⟩ rfl) ?_ | refine callK_rft rfl (EvR.fr [_] d2 rfl rfl ⟨rfl, trivial⟩ rfl) ?_ | refine callK_p d3 ?_ | refine callM_p d3 rfl ?_ | refine callK_pf rfl d3 ?_ | refine wpfS_seq1 ?_ | refine wpfS_go ?_ | fail) <;> conv => whnf)
          exact ⟨rfl, rfl⟩
        | false =>
          rw [hf] at d3
          have h3 : (t'.fail 3).e = 3 := by show firstE t'.e 3 = 3; unfold firstE; rw [if_pos he]
          rw [chk_fail (q := (p', t')) he hf, if_neg (by rw [h3]; omega)]
          rw [h3] at d5
          repeat' ((first | refine brP_t (by assumption) ?_ | refine brP_f (by assumption) ?_ | refine brP_t (decide_eq_true (by omega)) ?_ | refine brP_f (decide_eq_false (by omega)) ?_ | refine brP_t (nd_t (by omega)) ?_ | refine brP_f (nd_f (by omega)) ?_ | refine callK_r (EvR.fr [_] d2 rfl rfl ⟨rfl, trivial⟩ rfl) ?_ | refine callM_l (LEv.fr [_] d2 rfl rfl ⟨rfl, trivial⟩ rfl rfl) ?_ | refine callK_rt (EvR.fr [_] d2 rfl rfl ⟨rfl, trivial⟩ rfl) ?_ | refine callK_rf rfl (EvR.fr [_] d2 rfl rfl ⟨rfl, trivial⟩ rfl) ?_ | refine callK_rft rfl (EvR.fr [_] d2 rfl rfl ⟨rfl, trivial⟩ rfl) ?_ | refine callK_p d3 ?_ | refine callM_p d3 rfl ?_ | refine callK_pf rfl d3 ?_ | refine callK_r (EvR.fr [_] d4 rfl rfl ⟨rfl, trivial⟩ rfl) ?_ | refine callM_l (LEv.fr [_] d4 rfl rfl ⟨rfl, trivial⟩ rfl rfl) ?_ | refine callK_rt (EvR.fr [_] d4 rfl rfl ⟨rfl, trivial⟩ rfl) ?_ | refine callK_rf rfl (EvR.fr [_] d4 rfl rfl ⟨rfl, trivial⟩ rfl) ?_ | refine callK_rft rfl (EvR.fr [_] d4 rfl rfl ⟨rfl, trivial⟩ rfl) ?_ | refine callK_r (EvR.fr [_] d5 rfl rfl ⟨rfl, trivial⟩ rfl) ?_ | refine callM_l (LEv.fr [_] d5 rfl rfl ⟨rfl, trivial⟩ rfl rfl) ?_ | refine callK_rt (EvR.fr [_] d5 rfl rfl ⟨rfl, trivial⟩ rfl) ?_ | refine callK_rf rfl (EvR.fr [_] d5 rfl rfl ⟨rfl, trivial⟩ rfl) ?_ | refine callK_rft rfl (EvR.fr [_] d5 rfl rfl ⟨rfl, trivial⟩ rfl) ?_ | refine wpfS_seq1 ?_ | refine wpfS_go ?_ | fail) <;> conv => whnf)
          exact ⟨rfl, rfl⟩
      · rw [chk_same (q := (p', t')) (fun h => he h.1), if_neg he]
        repeat' ((first | refine brP_t (by assumption) ?_ | refine brP_f (by assumption) ?_ | refine brP_t (decide_eq_true (by omega)) ?_ | refine brP_f (decide_eq_false (by omega)) ?_ | refine brP_t (nd_t (by omega)) ?_ | refine brP_f (nd_f (by omega)) ?_ | refine callK_r (EvR.fr [_] d2 rfl rfl ⟨rfl, trivial⟩ rfl) ?_ | refine callM_l (LEv.fr [_] d2 rfl rfl ⟨rfl, trivial⟩ rfl rfl) ?_ | refine callK_rt (EvR.fr [_] d2 rfl rfl ⟨rfl, trivial⟩ rfl) ?_ | refine callK_rf rfl (EvR.fr [_] d2 rfl rfl ⟨rfl, trivial⟩ rfl) ?_ | refine callK_rft rfl (EvR.fr [_] d2 rfl rfl ⟨rfl, trivial⟩ rfl) ?_ | refine wpfS_seq1 ?_ | refine wpfS_go ?_ | fail) <;> conv => whnf)
        exact ⟨rfl, rfl⟩
  · intro e H1 _ h
    exact h.elim
end Go.Ab.S

namespace Go.Ab.S
open Go Go.Ab Go.Proofs
attribute [local irreducible] SemS
set_option maxRecDepth 100000
/-- The roles below i are read. -/
def rolesTo (keep : Bool) (n i : Nat) (q : Pol × St) : Pol × St := ((List.range i).filter fun r => n.testBit r).foldl (recRd keep) q
theorem rolesTo_yes {keep : Bool} {n i : Nat} {q : Pol × St} (h : n.testBit i = true) : rolesTo keep n (i + 1) q = recRd keep (rolesTo keep n i q) i := by
  unfold rolesTo; rw [List.range_succ, List.filter_append, List.foldl_append]; simp [h]
theorem rolesTo_no {keep : Bool} {n i : Nat} {q : Pol × St} (h : n.testBit i = false) : rolesTo keep n (i + 1) q = rolesTo keep n i q := by
  unfold rolesTo; rw [List.range_succ, List.filter_append, List.foldl_append]; simp [h]
theorem rolesTo_live {keep : Bool} {n i : Nat} {q : Pol × St} : (rolesTo keep n i q).1.live = q.1.live := rolesRd_live _ _
set_option maxHeartbeats 1000000 in
theorem R12_Read_ok (B : List UInt8) (hB : B.length < 2 ^ 40) (s : St) (hs : Suf B s.b) : EvR PR G f_R12_Read [.c (.ptr (.par 0) 0)] ⟨s.px B, []⟩ (polRd false s).1.v ⟨(polRd false s).2.px B, []⟩ := by
  have c0 := px_num hs (by omega) 2 65535
  have hu := nv_u16 (s := s) (size := 2)
  have hs1 := hs.num false 2 65535
  have hR : rolesRd false s = rolesTo false (s.nv 2 65535).toNat 16 (setLive zeroP (s.nv 2 65535).toNat, s.num false 2 65535) := rfl
  have hn : (s.nv 2 65535).toNat < 65536 := nv16_lt
  have hok := rolesRd_ok (keep := false) (s := s)
  have hT : tagsRd false s = (List.range 16).foldl (ownRd false) (setActive (rolesRd false s).1 ((rolesRd false s).2.nv 2 65535).toNat, (rolesRd false s).2.num false 2 65535) := rfl
  have htok := tagsRd_ok (keep := false) (s := s)
  have hrs : Suf B (rolesRd false s).2.b := recF_suf _ hs1
  unfold polRd
  generalize tagsRd false s = Q at *
  generalize rolesRd false s = R at *
  generalize s.num false 2 65535 = s1 at *
  generalize hv : (s.nv 2 65535).toNat = n at *
  generalize s.nv 2 65535 = v at *
  refine EvR.of_wpfC false true hm c_R12_Read rfl rfl ?_
  refine wpf_seq1 ?_
  conv => whnf
  repeat' ((first | refine brP_t (by assumption) ?_ | refine brP_f (by assumption) ?_ | refine brP_t (decide_eq_true (by omega)) ?_ | refine brP_f (decide_eq_false (by omega)) ?_ | refine brP_t (nd_t (by omega)) ?_ | refine brP_f (nd_f (by omega)) ?_ | refine callK_r (EvR.fr [_] c0 rfl rfl ⟨rfl, trivial⟩ rfl) ?_ | refine callM_l (LEv.fr [_] c0 rfl rfl ⟨rfl, trivial⟩ rfl rfl) ?_ | refine callK_rt (EvR.fr [_] c0 rfl rfl ⟨rfl, trivial⟩ rfl) ?_ | refine callK_rf rfl (EvR.fr [_] c0 rfl rfl ⟨rfl, trivial⟩ rfl) ?_ | refine callK_rft rfl (EvR.fr [_] c0 rfl rfl ⟨rfl, trivial⟩ rfl) ?_ | ((rw [hu])) | refine wpfS_seq1 ?_ | refine wpfS_go ?_ | fail) <;> conv => whnf)
  refine SemS.loopF false hm (σ := Nat) (fun i => [(0, .c (.ptr (.par 0) 0)), (2, .c (.ptr (.loc 0) 0)), (3, .c (.ptr (.loc 1) 0)), (4, iv i)]) (fun i => ⟨(rolesTo false n i (setLive zeroP n, s1)).2.px B, [.row zeroP.row, .row (rolesTo false n i (setLive zeroP n, s1)).1.row]⟩) (fun i => 16 - i) (fun i => i ≤ 16 ∧ Suf B (rolesTo false n i (setLive zeroP n, s1)).2.b) 0 ⟨Nat.zero_le _, hs1⟩ ⟨rfl, rfl, rfl, rfl, trivial⟩ rfl ?_
  rintro i ⟨hi, hsu⟩
  have hy := rolesTo_yes (keep := false) (n := n) (i := i) (q := (setLive zeroP n, s1))
  have hno := rolesTo_no (keep := false) (n := n) (i := i) (q := (setLive zeroP n, s1))
  have hlv : (rolesTo false n i (setLive zeroP n, s1)).1.live = n := rolesTo_live
  generalize hqe : rolesTo false n i (setLive zeroP n, s1) = o at *
  obtain ⟨p, t⟩ := o
  dsimp only at hlv hsu
  refine wpf_seq1 ?_
  conv => whnf
  try (refine wpfS_seq1 ?_; conv => whnf)
  refine brP_mk (fun h => ?_) (fun h => ?_)
  · have hi' : i < 16 := by have := of_decide_eq_true h; omega
    clear h
    have hw2 : IntKind.i64.wrap ((i : Int) + 1) = ((i + 1 : Nat) : Int) := by rw [wrap64 (by omega)]; rfl
    have e0 := R01_Has_ok p.live i (by rw [hlv]; exact hn)
    rw [hasN_nat hi'] at e0
    cases h1 : n.testBit i with
    | false =>
      rw [show p.live.testBit i = false by rw [hlv]; exact h1] at e0
      have hno := hno h1
      repeat' ((first | refine brP_t (by assumption) ?_ | refine brP_f (by assumption) ?_ | refine brP_t (decide_eq_true (by omega)) ?_ | refine brP_f (decide_eq_false (by omega)) ?_ | refine brP_t (nd_t (by omega)) ?_ | refine brP_f (nd_f (by omega)) ?_ | refine callK_p e0 ?_ | refine callM_p e0 rfl ?_ | refine callK_pf rfl e0 ?_ | refine wpfS_seq1 ?_ | refine wpfS_go ?_ | fail) <;> conv => whnf)
      rw [hw2]
      refine ⟨i + 1, ⟨hi', by rw [hno]; exact hsu⟩, (show 16 - (i + 1) < 16 - i by omega), ⟨rfl, rfl, rfl, rfl, trivial⟩, ?_⟩
      exact congrArg (fun q : Pol × St => (⟨q.2.px B, [.row zeroP.row, .row q.1.row]⟩ : Hp)) hno.symm
    | true =>
      rw [show p.live.testBit i = true by rw [hlv]; exact h1] at e0
      have hy := hy h1
      unfold recRd at hy
      dsimp only at hy
      have d1 := px_num hsu (by omega) 2 65535
      have u1 := nv_u16 (s := t) (size := 2)
      have f1 := hsu.num false 2 65535
      generalize t.num false 2 65535 = t1 at *
      have d2 := px_num f1 (by omega) 2 65535
      have u2 := nv_u16 (s := t1) (size := 2)
      have f2 := f1.num false 2 65535
      generalize t1.num false 2 65535 = t2 at *
      have d3 := px_num f2 (by omega) 2 65535
      have u3 := nv_u16 (s := t2) (size := 2)
      have f3 := f2.num false 2 65535
      generalize t2.num false 2 65535 = t3 at *
      generalize hv1 : (t.nv 2 65535).toNat = v1 at *
      generalize hv2 : (t1.nv 2 65535).toNat = v2 at *
      generalize hv3 : (t2.nv 2 65535).toNat = v3 at *
      generalize t.nv 2 65535 = w1 at *
      generalize t1.nv 2 65535 = w2 at *
      generalize t2.nv 2 65535 = w3 at *
      repeat' ((first | (refine gd_mk ?_ ?_; (focus (first | exact decide_eq_true (by rw [pol_len]; omega) | exact decide_eq_true (And.intro rfl (by rw [pol_len]; simp only [List.length_cons, List.length_nil]; omega)) | exact decide_eq_true (And.intro rfl (by rw [pol_len]; omega)) | exact decide_eq_true (by rw [pol_len]; simp only [List.length_cons, List.length_nil]; omega) | exact decide_eq_true (by show _ ≤ 16; omega) | exact decide_eq_true (And.intro rfl (by show _ ≤ 16; omega)) | exact decide_eq_true (And.intro rfl (by show _ ≤ 16; simp only [List.length_cons, List.length_nil]; omega)))); rw [Int.toNat_natCast, put_act _ hi']) | (refine gd_mk ?_ ?_; (focus (first | exact decide_eq_true (by rw [pol_len]; omega) | exact decide_eq_true (And.intro rfl (by rw [pol_len]; simp only [List.length_cons, List.length_nil]; omega)) | exact decide_eq_true (And.intro rfl (by rw [pol_len]; omega)) | exact decide_eq_true (by rw [pol_len]; simp only [List.length_cons, List.length_nil]; omega) | exact decide_eq_true (by show _ ≤ 16; omega) | exact decide_eq_true (And.intro rfl (by show _ ≤ 16; omega)) | exact decide_eq_true (And.intro rfl (by show _ ≤ 16; simp only [List.length_cons, List.length_nil]; omega)))); rw [Int.toNat_natCast, put_li _ hi']) | (refine gd_mk ?_ ?_; (focus (first | exact decide_eq_true (by rw [pol_len]; omega) | exact decide_eq_true (And.intro rfl (by rw [pol_len]; simp only [List.length_cons, List.length_nil]; omega)) | exact decide_eq_true (And.intro rfl (by rw [pol_len]; omega)) | exact decide_eq_true (by rw [pol_len]; simp only [List.length_cons, List.length_nil]; omega) | exact decide_eq_true (by show _ ≤ 16; omega) | exact decide_eq_true (And.intro rfl (by show _ ≤ 16; omega)) | exact decide_eq_true (And.intro rfl (by show _ ≤ 16; simp only [List.length_cons, List.length_nil]; omega)))); rw [Int.toNat_natCast, put_ls _ hi']) | refine brP_t (by assumption) ?_ | refine brP_f (by assumption) ?_ | refine brP_t (decide_eq_true (by omega)) ?_ | refine brP_f (decide_eq_false (by omega)) ?_ | refine brP_t (nd_t (by omega)) ?_ | refine brP_f (nd_f (by omega)) ?_ | refine callK_p e0 ?_ | refine callM_p e0 rfl ?_ | refine callK_pf rfl e0 ?_ | refine callK_r (EvR.fr [_] d1 rfl rfl ⟨rfl, trivial⟩ rfl) ?_ | refine callM_l (LEv.fr [_] d1 rfl rfl ⟨rfl, trivial⟩ rfl rfl) ?_ | refine callK_rt (EvR.fr [_] d1 rfl rfl ⟨rfl, trivial⟩ rfl) ?_ | refine callK_rf rfl (EvR.fr [_] d1 rfl rfl ⟨rfl, trivial⟩ rfl) ?_ | refine callK_rft rfl (EvR.fr [_] d1 rfl rfl ⟨rfl, trivial⟩ rfl) ?_ | refine callK_r (EvR.fr [_] d2 rfl rfl ⟨rfl, trivial⟩ rfl) ?_ | refine callM_l (LEv.fr [_] d2 rfl rfl ⟨rfl, trivial⟩ rfl rfl) ?_ | refine callK_rt (EvR.fr [_] d2 rfl rfl ⟨rfl, trivial⟩ rfl) ?_ | refine callK_rf rfl (EvR.fr [_] d2 rfl rfl ⟨rfl, trivial⟩ rfl) ?_ | refine callK_rft rfl (EvR.fr [_] d2 rfl rfl ⟨rfl, trivial⟩ rfl) ?_ | refine callK_r (EvR.fr [_] d3 rfl rfl ⟨rfl, trivial⟩ rfl) ?_ | refine callM_l (LEv.fr [_] d3 rfl rfl ⟨rfl, trivial⟩ rfl rfl) ?_ | refine callK_rt (EvR.fr [_] d3 rfl rfl ⟨rfl, trivial⟩ rfl) ?_ | refine callK_rf rfl (EvR.fr [_] d3 rfl rfl ⟨rfl, trivial⟩ rfl) ?_ | refine callK_rft rfl (EvR.fr [_] d3 rfl rfl ⟨rfl, trivial⟩ rfl) ?_ | ((rw [u1])) | ((rw [u2])) | ((rw [u3])) | refine wpfS_seq1 ?_ | refine wpfS_go ?_ | fail) <;> conv => whnf)
      rw [hw2]
      refine ⟨i + 1, ⟨hi', by rw [hy]; exact f3⟩, (show 16 - (i + 1) < 16 - i by omega), ⟨rfl, rfl, rfl, rfl, trivial⟩, ?_⟩
      exact congrArg (fun q : Pol × St => (⟨q.2.px B, [.row zeroP.row, .row q.1.row]⟩ : Hp)) hy.symm
  · have hi' : i = 16 := by have := of_decide_eq_false h; omega
    subst hi'
    have hRo : R = (p, t) := hR.trans hqe
    subst hRo
    clear h hy hno hR hqe
    dsimp only at hok hrs hT
    have d1 := px_num hrs (by omega) 2 65535
    have u1 := nv_u16 (s := t) (size := 2)
    have f1 := hrs.num false 2 65535
    generalize t.num false 2 65535 = t1 at *
    generalize hv1 : (t.nv 2 65535).toNat = va at *
    generalize t.nv 2 65535 = w1 at *
    conv => whnf
    repeat' ((first | refine brP_t (by assumption) ?_ | refine brP_f (by assumption) ?_ | refine brP_t (decide_eq_true (by omega)) ?_ | refine brP_f (decide_eq_false (by omega)) ?_ | refine brP_t (nd_t (by omega)) ?_ | refine brP_f (nd_f (by omega)) ?_ | refine callK_r (EvR.fr [_] d1 rfl rfl ⟨rfl, trivial⟩ rfl) ?_ | refine callM_l (LEv.fr [_] d1 rfl rfl ⟨rfl, trivial⟩ rfl rfl) ?_ | refine callK_rt (EvR.fr [_] d1 rfl rfl ⟨rfl, trivial⟩ rfl) ?_ | refine callK_rf rfl (EvR.fr [_] d1 rfl rfl ⟨rfl, trivial⟩ rfl) ?_ | refine callK_rft rfl (EvR.fr [_] d1 rfl rfl ⟨rfl, trivial⟩ rfl) ?_ | ((rw [u1])) | refine wpfS_seq1 ?_ | refine wpfS_go ?_ | fail) <;> conv => whnf)
    refine SemS.loopF false hm (σ := Nat) (fun j => [(0, .c (.ptr (.par 0) 0)), (2, .c (.ptr (.loc 0) 0)), (3, .c (.ptr (.loc 1) 0)), (5, iv j)]) (fun j => ⟨((List.range j).foldl (ownRd false) (setActive p va, t1)).2.px B, [.row zeroP.row, .row ((List.range j).foldl (ownRd false) (setActive p va, t1)).1.row]⟩) (fun j => 16 - j) (fun j => j ≤ 16 ∧ Suf B ((List.range j).foldl (ownRd false) (setActive p va, t1)).2.b) 0 ⟨Nat.zero_le _, f1⟩ ⟨rfl, rfl, rfl, rfl, trivial⟩ rfl ?_
    rintro j ⟨hj, hsu⟩
    have hst : (List.range (j + 1)).foldl (ownRd false) (setActive p va, t1) = ownRd false ((List.range j).foldl (ownRd false) (setActive p va, t1)) j := by rw [List.range_succ, List.foldl_append]; rfl
    generalize hqe : (List.range j).foldl (ownRd false) (setActive p va, t1) = o at *
    obtain ⟨p', t'⟩ := o
    dsimp only at hsu
    refine wpf_seq1 ?_
    conv => whnf
    try (refine wpfS_seq1 ?_; conv => whnf)
    refine brP_mk (fun h => ?_) (fun h => ?_)
    · have hj' : j < 16 := by have := of_decide_eq_true h; omega
      clear h
      have hw2 : IntKind.i64.wrap ((j : Int) + 1) = ((j + 1 : Nat) : Int) := by rw [wrap64 (by omega)]; rfl
      have d2 := px_num hsu (by omega) 1 16
      have hw := nv_u8 (s := t') (size := 1) (most := 16) ⟨by omega, by omega⟩
      have f2 := hsu.num false 1 16
      have hst : (List.range (j + 1)).foldl (ownRd false) (setActive p va, t1) = (setOwn p' j (t'.nv 1 16).toNat, t'.num false 1 16) := hst
      generalize hvn : (t'.nv 1 16).toNat = vn at *
      generalize t'.nv 1 16 = wv at *
      generalize t'.num false 1 16 = t2 at *
      repeat' ((first | (refine gd_mk ?_ ?_; (focus (first | exact decide_eq_true (by rw [pol_len]; omega) | exact decide_eq_true (And.intro rfl (by rw [pol_len]; simp only [List.length_cons, List.length_nil]; omega)) | exact decide_eq_true (And.intro rfl (by rw [pol_len]; omega)) | exact decide_eq_true (by rw [pol_len]; simp only [List.length_cons, List.length_nil]; omega) | exact decide_eq_true (by show _ ≤ 16; omega) | exact decide_eq_true (And.intro rfl (by show _ ≤ 16; omega)) | exact decide_eq_true (And.intro rfl (by show _ ≤ 16; simp only [List.length_cons, List.length_nil]; omega)))); rw [Int.toNat_natCast, put_own _ hj']) | refine brP_t (by assumption) ?_ | refine brP_f (by assumption) ?_ | refine brP_t (decide_eq_true (by omega)) ?_ | refine brP_f (decide_eq_false (by omega)) ?_ | refine brP_t (nd_t (by omega)) ?_ | refine brP_f (nd_f (by omega)) ?_ | refine callK_r (EvR.fr [_] d2 rfl rfl ⟨rfl, trivial⟩ rfl) ?_ | refine callM_l (LEv.fr [_] d2 rfl rfl ⟨rfl, trivial⟩ rfl rfl) ?_ | refine callK_rt (EvR.fr [_] d2 rfl rfl ⟨rfl, trivial⟩ rfl) ?_ | refine callK_rf rfl (EvR.fr [_] d2 rfl rfl ⟨rfl, trivial⟩ rfl) ?_ | refine callK_rft rfl (EvR.fr [_] d2 rfl rfl ⟨rfl, trivial⟩ rfl) ?_ | ((rw [hw])) | refine wpfS_seq1 ?_ | refine wpfS_go ?_ | fail) <;> conv => whnf)
      rw [hw2]
      refine ⟨j + 1, ⟨hj', by rw [hst]; exact f2⟩, (show 16 - (j + 1) < 16 - j by omega), ⟨rfl, rfl, rfl, rfl, trivial⟩, ?_⟩
      exact congrArg (fun q : Pol × St => (⟨q.2.px B, [.row zeroP.row, .row q.1.row]⟩ : Hp)) hst.symm
    · have hj' : j = 16 := by have := of_decide_eq_false h; omega
      subst hj'
      have hQ : Q = (p', t') := hT.trans hqe
      subst hQ
      clear h hst hT hqe
      dsimp only at htok
      have d3 := R12_Fine_ok p' htok
      obtain ⟨e, b⟩ := t'
      conv => whnf
      by_cases he : e = 0
      · subst he
        cases hf : fineP p' with
        | true =>
          rw [hf] at d3
          rw [chk_same (q := (p', ⟨0, b⟩)) (fun h => by rw [hf] at h; cases h.2), if_pos rfl]
          repeat' ((first | refine brP_t (by assumption) ?_ | refine brP_f (by assumption) ?_ | refine brP_t (decide_eq_true (by omega)) ?_ | refine brP_f (decide_eq_false (by omega)) ?_ | refine brP_t (nd_t (by omega)) ?_ | refine brP_f (nd_f (by omega)) ?_ | refine callK_p d3 ?_ | refine callM_p d3 rfl ?_ | refine callK_pf rfl d3 ?_ | refine wpfS_seq1 ?_ | refine wpfS_go ?_ | fail) <;> conv => whnf)
          exact ⟨rfl, rfl⟩
        | false =>
          rw [hf] at d3
          rw [chk_fail (q := (p', ⟨0, b⟩)) rfl hf, if_neg (show ¬ (St.fail ⟨0, b⟩ 3).e = 0 by show ¬ firstE 0 3 = 0; decide)]
          repeat' ((first | refine brP_t (by assumption) ?_ | refine brP_f (by assumption) ?_ | refine brP_t (decide_eq_true (by omega)) ?_ | refine brP_f (decide_eq_false (by omega)) ?_ | refine brP_t (nd_t (by omega)) ?_ | refine brP_f (nd_f (by omega)) ?_ | refine callK_p d3 ?_ | refine callM_p d3 rfl ?_ | refine callK_pf rfl d3 ?_ | refine wpfS_seq1 ?_ | refine wpfS_go ?_ | fail) <;> conv => whnf)
          exact ⟨rfl, rfl⟩
      · rw [chk_same (q := (p', ⟨e, b⟩)) (fun h => he h.1), if_neg he]
        repeat' ((first | refine brP_t (by assumption) ?_ | refine brP_f (by assumption) ?_ | refine brP_t (decide_eq_true (by omega)) ?_ | refine brP_f (decide_eq_false (by omega)) ?_ | refine brP_t (nd_t (by omega)) ?_ | refine brP_f (nd_f (by omega)) ?_ | refine wpfS_seq1 ?_ | refine wpfS_go ?_ | fail) <;> conv => whnf)
        exact ⟨rfl, rfl⟩
end Go.Ab.S

namespace Go.Ab.S
open Go Go.Ab Go.Proofs
theorem mend_ok {p : Pol} (hp : p.Ok) : (mendP p).Ok := by
  refine ⟨hp.live, fun r h => ?_, fun r h => ?_, fun r h => ?_, fun r h => ?_, hp.active⟩
  · show (if p.live.testBit r then p.ls r &&& p.active else 0) < 65536
    split
    · exact and_lt (hp.ls r h)
    · omega
  · show (if p.live.testBit r then p.li r &&& p.active else 0) < 65536
    split
    · exact and_lt (hp.li r h)
    · omega
  · show (if p.live.testBit r then lessN (p.acts r &&& p.live) (2 ^ r) else 0) < 65536
    split
    · exact less_lt
    · omega
  · show (if hasN p.live (p.own r) && p.active.testBit r then p.own r else 16) ≤ 255
    split
    · exact hp.own r h
    · omega
theorem has_lt {s o : Nat} (h : hasN s o = true) : o < 16 := by
  unfold hasN at h
  simp only [Bool.and_eq_true, decide_eq_true_eq] at h
  omega
theorem mend_fine {p : Pol} (hp : p.Ok) : fineP (mendP p) = true := by
  unfold fineP
  rw [all16_t fun r hr => ?_, all16_t fun t ht => ?_]
  · rfl
  · have e : (mendP p).own t = if hasN p.live (p.own t) && p.active.testBit t then p.own t else 16 := rfl
    unfold ownB
    rw [e]
    cases h : hasN p.live (p.own t) && p.active.testBit t with
    | true =>
      rw [if_pos rfl]
      rw [show (hasN (mendP p).live (p.own t) && (mendP p).active.testBit t) = true from h, Bool.or_true]
    | false => rw [if_neg (by simp)]; rfl
  · unfold roleB
    have e1 : (mendP p).ls r = if p.live.testBit r then p.ls r &&& p.active else 0 := rfl
    have e2 : (mendP p).li r = if p.live.testBit r then p.li r &&& p.active else 0 := rfl
    have e3 : (mendP p).acts r = if p.live.testBit r then lessN (p.acts r &&& p.live) (2 ^ r) else 0 := rfl
    have e4 : (mendP p).live = p.live := rfl
    have e5 : (mendP p).active = p.active := rfl
    rw [e1, e2, e3, e4, e5]
    cases h : p.live.testBit r with
    | true =>
      rw [if_pos rfl, if_pos rfl, if_pos rfl, if_pos rfl]
      have a1 : subB (p.ls r &&& p.active ||| p.li r &&& p.active) p.active = true := (subB_iff (or_lt (and_lt (hp.ls r hr)) (and_lt (hp.li r hr))) hp.active).2 fun j _ hj => by
        rw [Nat.testBit_or, Nat.testBit_and, Nat.testBit_and] at hj
        cases hb : p.active.testBit j with
        | true => rfl
        | false => rw [hb] at hj; simp at hj
      have a2 : subB (lessN (p.acts r &&& p.live) (2 ^ r)) p.live = true := (subB_iff less_lt hp.live).2 fun j hj16 hj => by
        rw [less_bit hj16, Nat.testBit_and] at hj
        cases hb : p.live.testBit j with
        | true => rfl
        | false => rw [hb] at hj; simp at hj
      have a3 : (lessN (p.acts r &&& p.live) (2 ^ r)).testBit r = false := by
        rw [less_bit hr, Nat.testBit_two_pow, decide_eq_true rfl]; simp
      rw [a1, a2, a3]; rfl
    | false => rfl
/-! ### Without some roles -/
section
variable {p : Pol} {S : Nat}
end
section
variable {p : Pol} {s i : Nat}
/-! ### Under a label above -/
variable {s' i' : Nat}
end
end Go.Ab.S
