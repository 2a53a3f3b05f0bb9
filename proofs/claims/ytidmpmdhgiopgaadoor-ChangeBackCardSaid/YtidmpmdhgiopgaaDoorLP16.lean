/- Part of a proof; no condition. Part of a proof; no condition. Part of a proof; no condition. Part of a proof; no condition. Part of a proof; no condition. Part of a proof; no condition. What policies that may be are like; what a mended one is, one without unseen roles, and one seen from above. No condition. -/
import Derived.Test.YtidmpmdhgiopgaaDoorLP9
import Derived.Test.YtidmpmdhgiopgaaDoorLWZ
set_option linter.unusedSimpArgs false
set_option linter.unusedVariables false
namespace Go.Ab.S
open Go Go.Ab Go.Proofs
attribute [local irreducible] SemS
set_option maxRecDepth 100000
/-! ### A policy that may be, of any -/
def lessN (a b : Nat) : Nat := setOf (fun t => a.testBit t && !b.testBit t) 16
theorem less_lt {a b : Nat} : lessN a b < 65536 := setOf_lt _ (Nat.le_refl 16)
theorem less_bit {a b j : Nat} (hj : j < 16) : (lessN a b).testBit j = (a.testBit j && !b.testBit j) := by rw [lessN, setOf_bit' _ hj]
def setLab (p : Pol) (r s i : Nat) : Pol := { p with ls := updF p.ls r s, li := updF p.li r i }
def setAct (p : Pol) (r s : Nat) : Pol := { p with acts := updF p.acts r s }
def setOwn (p : Pol) (r s : Nat) : Pol := { p with own := updF p.own r s }
theorem put_lab (p : Pol) {r : Nat} (h : r < 16) (s i : Nat) : putAt p.row (0 + 1 + r * 2) [.int .u16 s, .int .u16 i] = (setLab p r s i).row := pol_putlab p h s i
theorem put_lab0 (p : Pol) {r : Nat} (h : r < 16) : putAt p.row (0 + 1 + r * 2) [.int .u16 0, .int .u16 0] = (setLab p r 0 0).row := pol_putlab p h 0 0
theorem put_act (p : Pol) {r : Nat} (h : r < 16) (s : Nat) : putAt p.row (0 + 33 + r * 1) [.int .u16 s] = (setAct p r s).row := pol_putact p h s
theorem put_act0 (p : Pol) {r : Nat} (h : r < 16) : putAt p.row (0 + 33 + r * 1) [.int .u16 0] = (setAct p r 0).row := pol_putact p h 0
theorem put_own (p : Pol) {r : Nat} (h : r < 16) (s : Nat) : putAt p.row (0 + 49 + r * 1) [.int .u8 s] = (setOwn p r s).row := pol_putown p h s
theorem put_own16 (p : Pol) {r : Nat} (h : r < 16) : putAt p.row (0 + 49 + r * 1) [.int .u8 16] = (setOwn p r 16).row := pol_putown p h 16
theorem upd_at (f : Nat → Nat) (r v : Nat) : updF f r v r = v := by unfold updF; rw [if_pos rfl]
theorem upd_ne (f : Nat → Nat) {r v j : Nat} (h : j ≠ r) : updF f r v j = f j := by unfold updF; rw [if_neg h]
def mendP (p : Pol) : Pol := { p with
  ls := fun r => if p.live.testBit r then p.ls r &&& p.active else 0
  li := fun r => if p.live.testBit r then p.li r &&& p.active else 0
  acts := fun r => if p.live.testBit r then lessN (p.acts r &&& p.live) (2 ^ r) else 0
  own := fun t => if hasN p.live (p.own t) && p.active.testBit t then p.own t else 16 }
def zeroP : Pol := ⟨0, fun _ => 0, fun _ => 0, fun _ => 0, fun _ => 0, 0⟩
/-- The first i roles are mended, and the first j tags. -/
def mendTo (p : Pol) (i j : Nat) : Pol := { p with
  ls := fun r => if r < i then (mendP p).ls r else p.ls r
  li := fun r => if r < i then (mendP p).li r else p.li r
  acts := fun r => if r < i then (mendP p).acts r else p.acts r
  own := fun t => if t < j then (mendP p).own t else p.own t }
theorem mendTo_step (p : Pol) {i x y z : Nat} (hx : x = (mendP p).ls i) (hy : y = (mendP p).li i) (hz : z = (mendP p).acts i) : (setAct (setLab (mendTo p i 0) i x y) i z).row = (mendTo p (i + 1) 0).row := by
  have key : ∀ (f g : Nat → Nat) (v : Nat), v = f i → ∀ r, updF (fun r => if r < i then f r else g r) i v r = if r < i + 1 then f r else g r := by
    intro f g v hv r
    by_cases e : r = i
    · subst e; rw [upd_at, if_pos (by omega), hv]
    · rw [upd_ne _ e]
      by_cases h : r < i
      · rw [if_pos h, if_pos (by omega)]
      · rw [if_neg h, if_neg (by omega)]
  exact Pol.row_ext rfl (fun r _ => key _ _ _ hx r) (fun r _ => key _ _ _ hy r) (fun r _ => key _ _ _ hz r) (fun _ _ => rfl) rfl
theorem mendTo_stepO (p : Pol) {j x : Nat} (hx : x = (mendP p).own j) : (setOwn (mendTo p 16 j) j x).row = (mendTo p 16 (j + 1)).row := by
  refine Pol.row_ext rfl (fun _ _ => rfl) (fun _ _ => rfl) (fun _ _ => rfl) (fun r _ => ?_) rfl
  show updF (fun t => if t < j then (mendP p).own t else p.own t) j x r = if r < j + 1 then (mendP p).own r else p.own r
  by_cases e : r = j
  · subst e; rw [upd_at, if_pos (by omega), hx]
  · rw [upd_ne _ e]
    by_cases h : r < j
    · rw [if_pos h, if_pos (by omega)]
    · rw [if_neg h, if_neg (by omega)]
theorem mendTo_skipO (p : Pol) {j : Nat} (hx : (mendP p).own j = p.own j) : (mendTo p 16 j).row = (mendTo p 16 (j + 1)).row := by
  refine Pol.row_ext rfl (fun _ _ => rfl) (fun _ _ => rfl) (fun _ _ => rfl) (fun r _ => ?_) rfl
  show (if r < j then (mendP p).own r else p.own r) = if r < j + 1 then (mendP p).own r else p.own r
  by_cases e : r = j
  · subst e; rw [if_neg (by omega), if_pos (by omega), hx]
  · by_cases h : r < j
    · rw [if_pos h, if_pos (by omega)]
    · rw [if_neg h, if_neg (by omega)]
theorem setLab2 (p : Pol) (i a b c d e f : Nat) : (setAct (setLab (setAct (setLab p i a b) i e) i c d) i f).row = (setAct (setLab p i c d) i f).row := by
  have key : ∀ (g : Nat → Nat) (u v r : Nat), updF (updF g i u) i v r = updF g i v r := by
    intro g u v r
    by_cases h : r = i
    · subst h; rw [upd_at, upd_at]
    · rw [upd_ne _ h, upd_ne _ h, upd_ne _ h]
  exact Pol.row_ext rfl (fun r _ => key _ _ _ r) (fun r _ => key _ _ _ r) (fun r _ => key _ _ _ r) (fun _ _ => rfl) rfl
theorem less_zero {a b : Nat} (h : ∀ j, j < 16 → a.testBit j = false) : lessN a b = 0 := by
  refine set_ext less_lt (by omega) fun j hj => ?_
  rw [less_bit hj, h j hj, Nat.zero_testBit]; rfl
theorem R12_Mend_ok (p : Pol) (hp : p.Ok) : EvP PR G f_R12_Mend [p.v] (mendP p).v := by
  refine EvP.of_wpf false hm c_R12_Mend rfl ?_
  refine wpf_seq1 ?_
  conv => whnf
  repeat' ((first | refine brP_t (by assumption) ?_ | refine brP_f (by assumption) ?_ | refine brP_t (decide_eq_true (by omega)) ?_ | refine brP_f (decide_eq_false (by omega)) ?_ | refine brP_t (nd_t (by omega)) ?_ | refine brP_f (nd_f (by omega)) ?_ | refine wpfS_seq1 ?_ | refine wpfS_go ?_ | fail) <;> conv => whnf)
  refine SemS.loopC false hm (σ := Nat) (fun i => [(1, .c (.ptr (.loc 0) 0)), (2, .c (.ptr (.loc 1) 0)), (3, iv i)]) (fun i => ⟨[], [.row (mendTo p i 0).row, .row zeroP.row]⟩) (fun i => 16 - i) (fun i => i ≤ 16) 0 (Nat.zero_le _) ⟨rfl, rfl, rfl, trivial⟩ rfl ?_
  · intro i hi
    have hmz := fun x y z => mendTo_step p (i := i) (x := x) (y := y) (z := z)
    have q1 : (mendTo p i 0).ls i = p.ls i := if_neg (Nat.lt_irrefl i)
    have q2 : (mendTo p i 0).li i = p.li i := if_neg (Nat.lt_irrefl i)
    have q3 : (mendTo p i 0).acts i = p.acts i := if_neg (Nat.lt_irrefl i)
    have q4 : (mendTo p i 0).live = p.live := rfl
    have q5 : (mendTo p i 0).active = p.active := rfl
    generalize hqe : mendTo p i 0 = q at *
    refine wpf_seq1 ?_
    conv => whnf
    try (refine wpfS_seq1 ?_; conv => whnf)
    refine brP_mk (fun h => ?_) (fun h => ?_)
    · have hi' : i < 16 := by have := of_decide_eq_true h; omega
      clear h
      have hw2 : IntKind.i64.wrap ((i : Int) + 1) = ((i + 1 : Nat) : Int) := by rw [wrap64 (by omega)]; rfl
      have hpw := pow16 (t := i) (by omega)
      have e0 := R01_Has_ok q.live i (by rw [q4]; exact hp.live)
      rw [hasN_nat hi'] at e0
      have e5 := R01_With_ok 0 i (by omega)
      rw [withN_nat hi', Nat.zero_or] at e5
      cases h1 : q.live.testBit i with
      | false =>
        rw [h1] at e0
        have hq : q.live < 65536 := by rw [q4]; exact hp.live
        have hact : q.active < 65536 := by rw [q5]; exact hp.active
        have f1 : (setAct (setLab q i 0 0) i 0).ls i = 0 := upd_at _ _ _
        have f2 : (setAct (setLab q i 0 0) i 0).li i = 0 := upd_at _ _ _
        have f3 : (setAct (setLab q i 0 0) i 0).acts i = 0 := upd_at _ _ _
        have g1 := pol_labL (setAct (setLab q i 0 0) i 0) hi'
        rw [f1, f2] at g1
        have g2 := pol_act (setLab (setAct (setLab q i 0 0) i 0) i (0 &&& q.active) (0 &&& q.active)) hi'
        have g2 : partP false 1 (setLab (setAct (setLab q i 0 0) i 0) i (0 &&& q.active) (0 &&& q.active)).row (0 + 33 + i * 1) = some (true, uv ((0 : Nat) : Int)) := by rw [g2]; show some (true, uv ((setAct (setLab q i 0 0) i 0).acts i : Int)) = _; rw [f3]
        have e1 := R01_And_ok 0 q.active (by omega) hact
        have e4 := R01_And_ok 0 q.live (by omega) hq
        have e6 : EvP PR G f_R01_Less [uv ((0 &&& q.live : Nat) : Int), uv ((2 ^ i : Nat) : Int)] (uv ((lessN (0 &&& q.live) (2 ^ i) : Nat) : Int)) := R01_Less_ok _ _ (and_lt (by omega)) (by omega)
        repeat' ((first | (refine gd_mk ?_ ?_; (focus (first | exact decide_eq_true (by rw [pol_len]; omega) | exact decide_eq_true (And.intro rfl (by rw [pol_len]; simp only [List.length_cons, List.length_nil]; omega)) | exact decide_eq_true (And.intro rfl (by rw [pol_len]; omega)) | exact decide_eq_true (by rw [pol_len]; simp only [List.length_cons, List.length_nil]; omega) | exact decide_eq_true (by show _ ≤ 16; omega) | exact decide_eq_true (And.intro rfl (by show _ ≤ 16; omega)) | exact decide_eq_true (And.intro rfl (by show _ ≤ 16; simp only [List.length_cons, List.length_nil]; omega)))); rw [Int.toNat_natCast, g1]) | (refine gd_mk ?_ ?_; (focus (first | exact decide_eq_true (by rw [pol_len]; omega) | exact decide_eq_true (And.intro rfl (by rw [pol_len]; simp only [List.length_cons, List.length_nil]; omega)) | exact decide_eq_true (And.intro rfl (by rw [pol_len]; omega)) | exact decide_eq_true (by rw [pol_len]; simp only [List.length_cons, List.length_nil]; omega) | exact decide_eq_true (by show _ ≤ 16; omega) | exact decide_eq_true (And.intro rfl (by show _ ≤ 16; omega)) | exact decide_eq_true (And.intro rfl (by show _ ≤ 16; simp only [List.length_cons, List.length_nil]; omega)))); rw [Int.toNat_natCast, put_act _ hi']) | (refine gd_mk ?_ ?_; (focus (first | exact decide_eq_true (by rw [pol_len]; omega) | exact decide_eq_true (And.intro rfl (by rw [pol_len]; simp only [List.length_cons, List.length_nil]; omega)) | exact decide_eq_true (And.intro rfl (by rw [pol_len]; omega)) | exact decide_eq_true (by rw [pol_len]; simp only [List.length_cons, List.length_nil]; omega) | exact decide_eq_true (by show _ ≤ 16; omega) | exact decide_eq_true (And.intro rfl (by show _ ≤ 16; omega)) | exact decide_eq_true (And.intro rfl (by show _ ≤ 16; simp only [List.length_cons, List.length_nil]; omega)))); rw [Int.toNat_natCast, put_lab _ hi']) | (refine gd_mk ?_ ?_; (focus (first | exact decide_eq_true (by rw [pol_len]; omega) | exact decide_eq_true (And.intro rfl (by rw [pol_len]; simp only [List.length_cons, List.length_nil]; omega)) | exact decide_eq_true (And.intro rfl (by rw [pol_len]; omega)) | exact decide_eq_true (by rw [pol_len]; simp only [List.length_cons, List.length_nil]; omega) | exact decide_eq_true (by show _ ≤ 16; omega) | exact decide_eq_true (And.intro rfl (by show _ ≤ 16; omega)) | exact decide_eq_true (And.intro rfl (by show _ ≤ 16; simp only [List.length_cons, List.length_nil]; omega)))); rw [Int.toNat_natCast, put_act0 _ hi']) | (refine gd_mk ?_ ?_; (focus (first | exact decide_eq_true (by rw [pol_len]; omega) | exact decide_eq_true (And.intro rfl (by rw [pol_len]; simp only [List.length_cons, List.length_nil]; omega)) | exact decide_eq_true (And.intro rfl (by rw [pol_len]; omega)) | exact decide_eq_true (by rw [pol_len]; simp only [List.length_cons, List.length_nil]; omega) | exact decide_eq_true (by show _ ≤ 16; omega) | exact decide_eq_true (And.intro rfl (by show _ ≤ 16; omega)) | exact decide_eq_true (And.intro rfl (by show _ ≤ 16; simp only [List.length_cons, List.length_nil]; omega)))); rw [Int.toNat_natCast, put_lab0 _ hi']) | refine brP_t (by assumption) ?_ | refine brP_f (by assumption) ?_ | refine brP_t (decide_eq_true (by omega)) ?_ | refine brP_f (decide_eq_false (by omega)) ?_ | refine brP_t (nd_t (by omega)) ?_ | refine brP_f (nd_f (by omega)) ?_ | refine callK_p e0 ?_ | refine callM_p e0 rfl ?_ | refine callK_pf rfl e0 ?_ | ((conv in (opS _ _ _ _) => whnf); rw [Int.toNat_natCast, g2]) | ((conv in (opM _ _ _ _ _) => whnf); (conv in (opS _ _ _ _) => whnf); rw [Int.toNat_natCast, g2]) | refine callK_p e1 ?_ | refine callM_p e1 rfl ?_ | refine callK_pf rfl e1 ?_ | refine callK_p e4 ?_ | refine callM_p e4 rfl ?_ | refine callK_pf rfl e4 ?_ | refine callK_p e5 ?_ | refine callM_p e5 rfl ?_ | refine callK_pf rfl e5 ?_ | refine callK_p e6 ?_ | refine callM_p e6 rfl ?_ | refine callK_pf rfl e6 ?_ | refine wpfS_seq1 ?_ | refine wpfS_go ?_ | fail) <;> conv => whnf)
        rw [hw2]
        refine ⟨i + 1, 2, hi', (show 16 - (i + 1) < 16 - i by omega), ⟨rfl, rfl, rfl, trivial⟩, Nat.le_refl 2, ?_, rfl, rfl⟩
        have hz : (mendP p).ls i = 0 := if_neg (by rw [← q4, h1]; simp)
        have hz2 : (mendP p).li i = 0 := if_neg (by rw [← q4, h1]; simp)
        have hz3 : (mendP p).acts i = 0 := if_neg (by rw [← q4, h1]; simp)
        have hl : lessN (0 &&& q.live) (2 ^ i) = 0 := less_zero fun j _ => by rw [Nat.zero_and, Nat.zero_testBit]
        show (⟨[], [.row (setAct (setLab (setAct (setLab q i 0 0) i 0) i (0 &&& q.active) (0 &&& q.active)) i (lessN (0 &&& q.live) (2 ^ i))).row, .row zeroP.row]⟩ : Hp) = _
        rw [setLab2, hmz _ _ _ (by rw [Nat.zero_and, hz]) (by rw [Nat.zero_and, hz2]) (by rw [hl, hz3])]
      | true =>
        rw [h1] at e0
        have hq : q.live < 65536 := by rw [q4]; exact hp.live
        have hact : q.active < 65536 := by rw [q5]; exact hp.active
        have hl1 : q.ls i < 65536 := by rw [q1]; exact hp.ls i hi'
        have hl2 : q.li i < 65536 := by rw [q2]; exact hp.li i hi'
        have hl3 : q.acts i < 65536 := by rw [q3]; exact hp.acts i hi'
        have g1 := pol_labL q hi'
        have g2 : partP false 1 (setLab q i (q.ls i &&& q.active) (q.li i &&& q.active)).row (0 + 33 + i * 1) = some (true, uv (q.acts i)) := pol_act (setLab q i (q.ls i &&& q.active) (q.li i &&& q.active)) hi'
        have e1 := R01_And_ok (q.ls i) q.active hl1 hact
        have e2 := R01_And_ok (q.li i) q.active hl2 hact
        have e4 := R01_And_ok (q.acts i) q.live hl3 hq
        have e6 : EvP PR G f_R01_Less [uv ((q.acts i &&& q.live : Nat) : Int), uv ((2 ^ i : Nat) : Int)] (uv ((lessN (q.acts i &&& q.live) (2 ^ i) : Nat) : Int)) := R01_Less_ok _ _ (and_lt hl3) (by omega)
        repeat' ((first | (refine gd_mk ?_ ?_; (focus (first | exact decide_eq_true (by rw [pol_len]; omega) | exact decide_eq_true (And.intro rfl (by rw [pol_len]; simp only [List.length_cons, List.length_nil]; omega)) | exact decide_eq_true (And.intro rfl (by rw [pol_len]; omega)) | exact decide_eq_true (by rw [pol_len]; simp only [List.length_cons, List.length_nil]; omega) | exact decide_eq_true (by show _ ≤ 16; omega) | exact decide_eq_true (And.intro rfl (by show _ ≤ 16; omega)) | exact decide_eq_true (And.intro rfl (by show _ ≤ 16; simp only [List.length_cons, List.length_nil]; omega)))); rw [Int.toNat_natCast, g1]) | (refine gd_mk ?_ ?_; (focus (first | exact decide_eq_true (by rw [pol_len]; omega) | exact decide_eq_true (And.intro rfl (by rw [pol_len]; simp only [List.length_cons, List.length_nil]; omega)) | exact decide_eq_true (And.intro rfl (by rw [pol_len]; omega)) | exact decide_eq_true (by rw [pol_len]; simp only [List.length_cons, List.length_nil]; omega) | exact decide_eq_true (by show _ ≤ 16; omega) | exact decide_eq_true (And.intro rfl (by show _ ≤ 16; omega)) | exact decide_eq_true (And.intro rfl (by show _ ≤ 16; simp only [List.length_cons, List.length_nil]; omega)))); rw [Int.toNat_natCast, put_act _ hi']) | (refine gd_mk ?_ ?_; (focus (first | exact decide_eq_true (by rw [pol_len]; omega) | exact decide_eq_true (And.intro rfl (by rw [pol_len]; simp only [List.length_cons, List.length_nil]; omega)) | exact decide_eq_true (And.intro rfl (by rw [pol_len]; omega)) | exact decide_eq_true (by rw [pol_len]; simp only [List.length_cons, List.length_nil]; omega) | exact decide_eq_true (by show _ ≤ 16; omega) | exact decide_eq_true (And.intro rfl (by show _ ≤ 16; omega)) | exact decide_eq_true (And.intro rfl (by show _ ≤ 16; simp only [List.length_cons, List.length_nil]; omega)))); rw [Int.toNat_natCast, put_lab _ hi']) | refine brP_t (by assumption) ?_ | refine brP_f (by assumption) ?_ | refine brP_t (decide_eq_true (by omega)) ?_ | refine brP_f (decide_eq_false (by omega)) ?_ | refine brP_t (nd_t (by omega)) ?_ | refine brP_f (nd_f (by omega)) ?_ | refine callK_p e0 ?_ | refine callM_p e0 rfl ?_ | refine callK_pf rfl e0 ?_ | ((conv in (opS _ _ _ _) => whnf); rw [Int.toNat_natCast, g2]) | ((conv in (opM _ _ _ _ _) => whnf); (conv in (opS _ _ _ _) => whnf); rw [Int.toNat_natCast, g2]) | refine callK_p e1 ?_ | refine callM_p e1 rfl ?_ | refine callK_pf rfl e1 ?_ | refine callK_p e2 ?_ | refine callM_p e2 rfl ?_ | refine callK_pf rfl e2 ?_ | refine callK_p e4 ?_ | refine callM_p e4 rfl ?_ | refine callK_pf rfl e4 ?_ | refine callK_p e5 ?_ | refine callM_p e5 rfl ?_ | refine callK_pf rfl e5 ?_ | refine callK_p e6 ?_ | refine callM_p e6 rfl ?_ | refine callK_pf rfl e6 ?_ | refine wpfS_seq1 ?_ | refine wpfS_go ?_ | fail) <;> conv => whnf)
        rw [hw2]
        refine ⟨i + 1, 2, hi', (show 16 - (i + 1) < 16 - i by omega), ⟨rfl, rfl, rfl, trivial⟩, Nat.le_refl 2, ?_, rfl, rfl⟩
        have hz : (mendP p).ls i = q.ls i &&& q.active := by rw [q1, q5]; exact if_pos (by rw [← q4, h1])
        have hz2 : (mendP p).li i = q.li i &&& q.active := by rw [q2, q5]; exact if_pos (by rw [← q4, h1])
        have hz3 : (mendP p).acts i = lessN (q.acts i &&& q.live) (2 ^ i) := by rw [q3, q4]; exact if_pos (by rw [← q4, h1])
        show (⟨[], [.row (setAct (setLab q i (q.ls i &&& q.active) (q.li i &&& q.active)) i (lessN (q.acts i &&& q.live) (2 ^ i))).row, .row zeroP.row]⟩ : Hp) = _
        rw [hmz _ _ _ hz.symm hz2.symm hz3.symm]
    · have hi' : i = 16 := by have := of_decide_eq_false h; omega
      subst hi'
      clear h
      subst hqe
      clear hmz q1 q2 q3 q4 q5
      conv => whnf
      repeat' ((first | refine brP_t (by assumption) ?_ | refine brP_f (by assumption) ?_ | refine brP_t (decide_eq_true (by omega)) ?_ | refine brP_f (decide_eq_false (by omega)) ?_ | refine brP_t (nd_t (by omega)) ?_ | refine brP_f (nd_f (by omega)) ?_ | refine wpfS_seq1 ?_ | refine wpfS_go ?_ | fail) <;> conv => whnf)
      refine SemS.loopF false hm (σ := Nat) (fun j => [(1, .c (.ptr (.loc 0) 0)), (2, .c (.ptr (.loc 1) 0)), (5, iv j)]) (fun j => ⟨[], [.row (mendTo p 16 j).row, .row zeroP.row]⟩) (fun j => 16 - j) (fun j => j ≤ 16) 0 (Nat.zero_le _) ⟨rfl, rfl, rfl, trivial⟩ rfl ?_
      intro j hj
      have hmz := fun x => mendTo_stepO p (j := j) (x := x)
      have hms := mendTo_skipO p (j := j)
      have q1 : (mendTo p 16 j).own j = p.own j := if_neg (Nat.lt_irrefl j)
      have q4 : (mendTo p 16 j).live = p.live := rfl
      have q5 : (mendTo p 16 j).active = p.active := rfl
      generalize hqe : mendTo p 16 j = q at *
      refine wpf_seq1 ?_
      conv => whnf
      try (refine wpfS_seq1 ?_; conv => whnf)
      refine brP_mk (fun h => ?_) (fun h => ?_)
      · have hj' : j < 16 := by have := of_decide_eq_true h; omega
        clear h
        have hw2 : IntKind.i64.wrap ((j : Int) + 1) = ((j + 1 : Nat) : Int) := by rw [wrap64 (by omega)]; rfl
        have e0 := R01_Has_ok q.live (q.own j) (by rw [q4]; exact hp.live)
        have e1 := R01_Has_ok q.active j (by rw [q5]; exact hp.active)
        rw [hasN_nat hj'] at e1
        have hget := pol_own q hj'
        have hw := wrapU8 (q.own j) (by rw [q1]; exact hp.own j hj')
        cases h1 : hasN q.live (q.own j) with
        | false =>
          rw [h1] at e0
          repeat' ((first | (refine gd_mk ?_ ?_; (focus (first | exact decide_eq_true (by rw [pol_len]; omega) | exact decide_eq_true (And.intro rfl (by rw [pol_len]; simp only [List.length_cons, List.length_nil]; omega)) | exact decide_eq_true (And.intro rfl (by rw [pol_len]; omega)) | exact decide_eq_true (by rw [pol_len]; simp only [List.length_cons, List.length_nil]; omega) | exact decide_eq_true (by show _ ≤ 16; omega) | exact decide_eq_true (And.intro rfl (by show _ ≤ 16; omega)) | exact decide_eq_true (And.intro rfl (by show _ ≤ 16; simp only [List.length_cons, List.length_nil]; omega)))); rw [Int.toNat_natCast, put_own16 _ hj']) | refine brP_t (by assumption) ?_ | refine brP_f (by assumption) ?_ | refine brP_t (decide_eq_true (by omega)) ?_ | refine brP_f (decide_eq_false (by omega)) ?_ | refine brP_t (nd_t (by omega)) ?_ | refine brP_f (nd_f (by omega)) ?_ | ((conv in (opS _ _ _ _) => whnf); rw [Int.toNat_natCast, hget]) | ((conv in (opM _ _ _ _ _) => whnf); (conv in (opS _ _ _ _) => whnf); rw [Int.toNat_natCast, hget]) | ((rw [hw])) | refine callK_p e0 ?_ | refine callM_p e0 rfl ?_ | refine callK_pf rfl e0 ?_ | refine wpfS_seq1 ?_ | refine wpfS_go ?_ | fail) <;> conv => whnf)
          rw [hw2]
          refine ⟨j + 1, hj', (show 16 - (j + 1) < 16 - j by omega), ⟨rfl, rfl, rfl, trivial⟩, ?_⟩
          show (⟨[], [.row (setOwn q j 16).row, .row zeroP.row]⟩ : Hp) = _
          rw [hmz 16 (by show 16 = if _ then _ else _; rw [← q4, ← q1, h1]; rfl)]
        | true =>
          rw [h1] at e0
          cases h2 : q.active.testBit j with
          | false =>
            rw [h2] at e1
            repeat' ((first | (refine gd_mk ?_ ?_; (focus (first | exact decide_eq_true (by rw [pol_len]; omega) | exact decide_eq_true (And.intro rfl (by rw [pol_len]; simp only [List.length_cons, List.length_nil]; omega)) | exact decide_eq_true (And.intro rfl (by rw [pol_len]; omega)) | exact decide_eq_true (by rw [pol_len]; simp only [List.length_cons, List.length_nil]; omega) | exact decide_eq_true (by show _ ≤ 16; omega) | exact decide_eq_true (And.intro rfl (by show _ ≤ 16; omega)) | exact decide_eq_true (And.intro rfl (by show _ ≤ 16; simp only [List.length_cons, List.length_nil]; omega)))); rw [Int.toNat_natCast, put_own16 _ hj']) | refine brP_t (by assumption) ?_ | refine brP_f (by assumption) ?_ | refine brP_t (decide_eq_true (by omega)) ?_ | refine brP_f (decide_eq_false (by omega)) ?_ | refine brP_t (nd_t (by omega)) ?_ | refine brP_f (nd_f (by omega)) ?_ | ((conv in (opS _ _ _ _) => whnf); rw [Int.toNat_natCast, hget]) | ((conv in (opM _ _ _ _ _) => whnf); (conv in (opS _ _ _ _) => whnf); rw [Int.toNat_natCast, hget]) | ((rw [hw])) | refine callK_p e0 ?_ | refine callM_p e0 rfl ?_ | refine callK_pf rfl e0 ?_ | refine callK_p e1 ?_ | refine callM_p e1 rfl ?_ | refine callK_pf rfl e1 ?_ | refine wpfS_seq1 ?_ | refine wpfS_go ?_ | fail) <;> conv => whnf)
            rw [hw2]
            refine ⟨j + 1, hj', (show 16 - (j + 1) < 16 - j by omega), ⟨rfl, rfl, rfl, trivial⟩, ?_⟩
            show (⟨[], [.row (setOwn q j 16).row, .row zeroP.row]⟩ : Hp) = _
            rw [hmz 16 (by show 16 = if _ then _ else _; rw [← q4, ← q1, ← q5, h1, h2]; rfl)]
          | true =>
            rw [h2] at e1
            repeat' ((first | refine brP_t (by assumption) ?_ | refine brP_f (by assumption) ?_ | refine brP_t (decide_eq_true (by omega)) ?_ | refine brP_f (decide_eq_false (by omega)) ?_ | refine brP_t (nd_t (by omega)) ?_ | refine brP_f (nd_f (by omega)) ?_ | ((conv in (opS _ _ _ _) => whnf); rw [Int.toNat_natCast, hget]) | ((conv in (opM _ _ _ _ _) => whnf); (conv in (opS _ _ _ _) => whnf); rw [Int.toNat_natCast, hget]) | ((rw [hw])) | refine callK_p e0 ?_ | refine callM_p e0 rfl ?_ | refine callK_pf rfl e0 ?_ | refine callK_p e1 ?_ | refine callM_p e1 rfl ?_ | refine callK_pf rfl e1 ?_ | refine wpfS_seq1 ?_ | refine wpfS_go ?_ | fail) <;> conv => whnf)
            rw [hw2]
            refine ⟨j + 1, hj', (show 16 - (j + 1) < 16 - j by omega), ⟨rfl, rfl, rfl, trivial⟩, ?_⟩
            show (⟨[], [.row q.row, .row zeroP.row]⟩ : Hp) = _
            rw [hms (by show (if _ then _ else _) = _; rw [← q4, ← q1, ← q5, h1, h2]; rfl)]
      · have hj' : j = 16 := by have := of_decide_eq_false h; omega
        subst hj'
        subst hqe
        clear h hmz hms q1 q4 q5
        have hend : (mendTo p 16 16).row = (mendP p).row := Pol.row_ext rfl (fun r h => if_pos h) (fun r h => if_pos h) (fun r h => if_pos h) (fun r h => if_pos h) rfl
        rw [hend]
        generalize mendP p = q
        conv => whnf
        repeat' ((first | refine brP_t (by assumption) ?_ | refine brP_f (by assumption) ?_ | refine brP_t (decide_eq_true (by omega)) ?_ | refine brP_f (decide_eq_false (by omega)) ?_ | refine brP_t (nd_t (by omega)) ?_ | refine brP_f (nd_f (by omega)) ?_ | refine wpfS_seq1 ?_ | refine wpfS_go ?_ | fail) <;> conv => whnf)
        rfl
end Go.Ab.S

namespace Go.Ab.S
open Go Go.Ab Go.Proofs
attribute [local irreducible] SemS
set_option maxRecDepth 100000
/-! ### A policy without some roles -/
def cutA (W : Nat) (g : Nat → Nat) (a : Nat) : Nat := setOf (succB W g a) 16
def cutAt (W : Nat) (g : Nat → Nat) (i b a : Nat) : Nat := if a < i then cutA W g a else if a = i then setOf (succB W g a) b else 0
/-- Roles outside the set go; their tags are nobody's. -/
def cutS (p : Pol) (S : Nat) : Pol := { p with
  live := S
  ls := fun r => if S.testBit r then p.ls r else 0
  li := fun r => if S.testBit r then p.li r else 0
  acts := cutA S p.acts
  own := fun t => if hasN S (p.own t) then p.own t else 16 }
def cutTo (p : Pol) (S i j : Nat) : Pol := { p with
  ls := fun r => if r < i then (cutS p S).ls r else p.ls r
  li := fun r => if r < i then (cutS p S).li r else p.li r
  acts := cutA S p.acts
  own := fun t => if t < j then (cutS p S).own t else p.own t }
end Go.Ab.S

namespace Go.Ab.S
open Go Go.Ab Go.Proofs
attribute [local irreducible] SemS
set_option maxRecDepth 100000
/-! ### A policy's bytes -/
def recB (p : Pol) (r : Nat) : List UInt8 := numB (p.ls r) 2 ++ (numB (p.li r) 2 ++ numB (p.acts r) 2)
def ownsB (p : Pol) (n : Nat) : List UInt8 := (List.range n).flatMap fun t => numB (p.own t) 1
def polB (p : Pol) : List UInt8 := numB p.live 2 ++ (bitsN p.live).flatMap (recB p) ++ numB p.active 2 ++ ownsB p 16
/-! ### The document's bytes -/
/-- The records of the roles below i. -/
def recsB (p : Pol) (i : Nat) : List UInt8 := ((List.range i).filter fun r => p.live.testBit r).flatMap (recB p)
end Go.Ab.S

namespace Go.Ab.S
open Go Go.Ab Go.Proofs
attribute [local irreducible] SemS
set_option maxRecDepth 100000
/-! ### Policies that are read -/
def recRd (keep : Bool) (q : Pol × St) (r : Nat) : Pol × St :=
  (setAct (setLab q.1 r (q.2.nv 2 65535).toNat ((q.2.num keep 2 65535).nv 2 65535).toNat) r (((q.2.num keep 2 65535).num keep 2 65535).nv 2 65535).toNat, ((q.2.num keep 2 65535).num keep 2 65535).num keep 2 65535)
def ownRd (keep : Bool) (q : Pol × St) (t : Nat) : Pol × St := (setOwn q.1 t (q.2.nv 1 16).toNat, q.2.num keep 1 16)
def setLive (p : Pol) (n : Nat) : Pol := { p with live := n }
def setActive (p : Pol) (n : Nat) : Pol := { p with active := n }
def rolesRd (keep : Bool) (s : St) : Pol × St := (bitsN (s.nv 2 65535).toNat).foldl (recRd keep) (setLive zeroP (s.nv 2 65535).toNat, s.num keep 2 65535)
def tagsRd (keep : Bool) (s : St) : Pol × St := (List.range 16).foldl (ownRd keep) (setActive (rolesRd keep s).1 ((rolesRd keep s).2.nv 2 65535).toNat, (rolesRd keep s).2.num keep 2 65535)
def chkRd (q : Pol × St) : St := if q.2.e = 0 ∧ fineP q.1 = false then q.2.fail 3 else q.2
def polRd (keep : Bool) (s : St) : Pol × St := if (chkRd (tagsRd keep s)).e = 0 then ((tagsRd keep s).1, chkRd (tagsRd keep s)) else (zeroP, chkRd (tagsRd keep s))
theorem zero_ok : zeroP.Ok :=
  have h : 0 < 65536 := by omega
  ⟨h, fun _ _ => h, fun _ _ => h, fun _ _ => h, fun _ _ => Nat.zero_le _, h⟩
end Go.Ab.S

namespace Go.Ab.S
open Go Go.Ab Go.Proofs
attribute [local irreducible] SemS
set_option maxRecDepth 100000
end Go.Ab.S

namespace Go.Ab.S
open Go Go.Ab Go.Proofs
attribute [local irreducible] SemS
set_option maxRecDepth 100000
/-- The roles below i are read. -/
def rolesTo (keep : Bool) (n i : Nat) (q : Pol × St) : Pol × St := ((List.range i).filter fun r => n.testBit r).foldl (recRd keep) q
end Go.Ab.S

namespace Go.Ab.S
open Go Go.Ab Go.Proofs
theorem mend_ok {p : Pol} (hp : p.Ok) : (mendP p).Ok := by
  refine ⟨hp.live, fun r h => ?_, fun r h => ?_, fun r h => ?_, fun r h => ?_, hp.active⟩
  · show (if p.live.testBit r then p.ls r &&& p.active else 0) < 65536
    split
    · exact and_lt (hp.ls r h)
    · omega
  · show (if p.live.testBit r then p.li r &&& p.active else 0) < 65536
    split
    · exact and_lt (hp.li r h)
    · omega
  · show (if p.live.testBit r then lessN (p.acts r &&& p.live) (2 ^ r) else 0) < 65536
    split
    · exact less_lt
    · omega
  · show (if hasN p.live (p.own r) && p.active.testBit r then p.own r else 16) ≤ 255
    split
    · exact hp.own r h
    · omega
theorem has_lt {s o : Nat} (h : hasN s o = true) : o < 16 := by
  unfold hasN at h
  simp only [Bool.and_eq_true, decide_eq_true_eq] at h
  omega
theorem mend_fine {p : Pol} (hp : p.Ok) : fineP (mendP p) = true := by
  unfold fineP
  rw [all16_t fun r hr => ?_, all16_t fun t ht => ?_]
  · rfl
  · have e : (mendP p).own t = if hasN p.live (p.own t) && p.active.testBit t then p.own t else 16 := rfl
    unfold ownB
    rw [e]
    cases h : hasN p.live (p.own t) && p.active.testBit t with
    | true =>
      rw [if_pos rfl]
      rw [show (hasN (mendP p).live (p.own t) && (mendP p).active.testBit t) = true from h, Bool.or_true]
    | false => rw [if_neg (by simp)]; rfl
  · unfold roleB
    have e1 : (mendP p).ls r = if p.live.testBit r then p.ls r &&& p.active else 0 := rfl
    have e2 : (mendP p).li r = if p.live.testBit r then p.li r &&& p.active else 0 := rfl
    have e3 : (mendP p).acts r = if p.live.testBit r then lessN (p.acts r &&& p.live) (2 ^ r) else 0 := rfl
    have e4 : (mendP p).live = p.live := rfl
    have e5 : (mendP p).active = p.active := rfl
    rw [e1, e2, e3, e4, e5]
    cases h : p.live.testBit r with
    | true =>
      rw [if_pos rfl, if_pos rfl, if_pos rfl, if_pos rfl]
      have a1 : subB (p.ls r &&& p.active ||| p.li r &&& p.active) p.active = true := (subB_iff (or_lt (and_lt (hp.ls r hr)) (and_lt (hp.li r hr))) hp.active).2 fun j _ hj => by
        rw [Nat.testBit_or, Nat.testBit_and, Nat.testBit_and] at hj
        cases hb : p.active.testBit j with
        | true => rfl
        | false => rw [hb] at hj; simp at hj
      have a2 : subB (lessN (p.acts r &&& p.live) (2 ^ r)) p.live = true := (subB_iff less_lt hp.live).2 fun j hj16 hj => by
        rw [less_bit hj16, Nat.testBit_and] at hj
        cases hb : p.live.testBit j with
        | true => rfl
        | false => rw [hb] at hj; simp at hj
      have a3 : (lessN (p.acts r &&& p.live) (2 ^ r)).testBit r = false := by
        rw [less_bit hr, Nat.testBit_two_pow, decide_eq_true rfl]; simp
      rw [a1, a2, a3]; rfl
    | false => rfl
/-! ### Without some roles -/
section
variable {p : Pol} {S : Nat}
end
section
variable {p : Pol} {s i : Nat}
/-! ### Under a label above -/
variable {s' i' : Nat}
end
end Go.Ab.S
