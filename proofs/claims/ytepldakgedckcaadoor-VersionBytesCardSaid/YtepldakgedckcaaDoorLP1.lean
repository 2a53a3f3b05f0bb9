/- Part of a proof; no condition. -/
import Derived.Test.YtepldakgedckcaaDoorLA11
import Derived.Test.YtepldakgedckcaaDoorLWZ
set_option linter.unusedSimpArgs false
set_option linter.unusedVariables false
namespace Go.Ab.S
open Go Go.Ab Go.Proofs
attribute [local irreducible] SemS
set_option maxRecDepth 100000
/-! ### Policies -/
structure Pol where
  live : Nat
  ls : Nat → Nat
  li : Nat → Nat
  acts : Nat → Nat
  own : Nat → Nat
  active : Nat
def labsR (ls li : Nat → Nat) : List PV := [.int .u16 (ls 0), .int .u16 (li 0), .int .u16 (ls 1), .int .u16 (li 1), .int .u16 (ls 2), .int .u16 (li 2), .int .u16 (ls 3), .int .u16 (li 3), .int .u16 (ls 4), .int .u16 (li 4), .int .u16 (ls 5), .int .u16 (li 5), .int .u16 (ls 6), .int .u16 (li 6), .int .u16 (ls 7), .int .u16 (li 7), .int .u16 (ls 8), .int .u16 (li 8), .int .u16 (ls 9), .int .u16 (li 9), .int .u16 (ls 10), .int .u16 (li 10), .int .u16 (ls 11), .int .u16 (li 11), .int .u16 (ls 12), .int .u16 (li 12), .int .u16 (ls 13), .int .u16 (li 13), .int .u16 (ls 14), .int .u16 (li 14), .int .u16 (ls 15), .int .u16 (li 15)]
def actsR (g : Nat → Nat) : List PV := [.int .u16 (g 0), .int .u16 (g 1), .int .u16 (g 2), .int .u16 (g 3), .int .u16 (g 4), .int .u16 (g 5), .int .u16 (g 6), .int .u16 (g 7), .int .u16 (g 8), .int .u16 (g 9), .int .u16 (g 10), .int .u16 (g 11), .int .u16 (g 12), .int .u16 (g 13), .int .u16 (g 14), .int .u16 (g 15)]
def Pol.row (p : Pol) : List PV := .int .u16 p.live :: (labsR p.ls p.li ++ (actsR p.acts ++ (mrow p.own ++ [.int .u16 p.active])))
def Pol.v (p : Pol) : AV := .agg p.row
structure Pol.Ok (p : Pol) : Prop where
  live : p.live < 65536
  ls : ∀ r, r < 16 → p.ls r < 65536
  li : ∀ r, r < 16 → p.li r < 65536
  acts : ∀ r, r < 16 → p.acts r < 65536
  own : ∀ r, r < 16 → p.own r ≤ 255
  active : p.active < 65536
theorem cases16 {r : Nat} (h : r < 16) : r = 0 ∨ r = 1 ∨ r = 2 ∨ r = 3 ∨ r = 4 ∨ r = 5 ∨ r = 6 ∨ r = 7 ∨ r = 8 ∨ r = 9 ∨ r = 10 ∨ r = 11 ∨ r = 12 ∨ r = 13 ∨ r = 14 ∨ r = 15 := by omega
theorem pol_len (p : Pol) : p.row.length = 66 := rfl
theorem pol_labL (p : Pol) {r : Nat} (h : r < 16) : List.take 2 (List.drop (0 + 1 + r * 2) p.row) = [.int .u16 (p.ls r), .int .u16 (p.li r)] := by
  rcases cases16 h with rfl | rfl | rfl | rfl | rfl | rfl | rfl | rfl | rfl | rfl | rfl | rfl | rfl | rfl | rfl | rfl <;> rfl
theorem pol_act (p : Pol) {r : Nat} (h : r < 16) : partP false 1 p.row (0 + 33 + r * 1) = some (true, uv (p.acts r)) := by
  rcases cases16 h with rfl | rfl | rfl | rfl | rfl | rfl | rfl | rfl | rfl | rfl | rfl | rfl | rfl | rfl | rfl | rfl <;> rfl
theorem pol_own (p : Pol) {r : Nat} (h : r < 16) : partP false 1 p.row (0 + 49 + r * 1) = some (true, .c (.p (.int .u8 (p.own r)))) := by
  rcases cases16 h with rfl | rfl | rfl | rfl | rfl | rfl | rfl | rfl | rfl | rfl | rfl | rfl | rfl | rfl | rfl | rfl <;> rfl
theorem own_at (g : Nat → Nat) {r : Nat} (h : r < 16) : partP false 1 (mrow g) (r * 1) = some (true, .c (.p (.int .u8 (g r)))) := by
  rcases cases16 h with rfl | rfl | rfl | rfl | rfl | rfl | rfl | rfl | rfl | rfl | rfl | rfl | rfl | rfl | rfl | rfl <;> rfl
def updF (f : Nat → Nat) (r v : Nat) : Nat → Nat := fun i => if i = r then v else f i
theorem pol_putlab (p : Pol) {r : Nat} (h : r < 16) (s i : Nat) : putAt p.row (0 + 1 + r * 2) [.int .u16 s, .int .u16 i] = Pol.row { p with ls := updF p.ls r s, li := updF p.li r i } := by
  rcases cases16 h with rfl | rfl | rfl | rfl | rfl | rfl | rfl | rfl | rfl | rfl | rfl | rfl | rfl | rfl | rfl | rfl <;> rfl
theorem pol_putact (p : Pol) {r : Nat} (h : r < 16) (s : Nat) : putAt p.row (0 + 33 + r * 1) [.int .u16 s] = Pol.row { p with acts := updF p.acts r s } := by
  rcases cases16 h with rfl | rfl | rfl | rfl | rfl | rfl | rfl | rfl | rfl | rfl | rfl | rfl | rfl | rfl | rfl | rfl <;> rfl
theorem pol_putown (p : Pol) {r : Nat} (h : r < 16) (s : Nat) : putAt p.row (0 + 49 + r * 1) [.int .u8 s] = Pol.row { p with own := updF p.own r s } := by
  rcases cases16 h with rfl | rfl | rfl | rfl | rfl | rfl | rfl | rfl | rfl | rfl | rfl | rfl | rfl | rfl | rfl | rfl <;> rfl
/-! ### Sets once more -/
theorem shr_bit (s r : Nat) (hs : s < 65536) (hr : r < 16) : decide (IntKind.u16.wrap ((BitVec.ofInt IntKind.u16.bits ((s : Int).fdiv (2 ^ (min (r : Int).toNat IntKind.u16.bits))) &&& BitVec.ofInt IntKind.u16.bits (1 : Int)).toNat : Int) = 1) = s.testBit r := by
  have hb : IntKind.bits .u16 = 16 := rfl
  have e : ((s : Int).fdiv (2 ^ (min (r : Int).toNat IntKind.u16.bits))) = ((s / 2 ^ r : Nat) : Int) := by
    rw [hb, Int.toNat_natCast, Nat.min_eq_left (by omega), Int.fdiv_eq_ediv_of_nonneg _ (by exact Int.le_of_lt (Int.pow_pos (by omega)))]
    rw [Int.natCast_ediv, Int.natCast_pow]; rfl
  have hlt : s / 2 ^ r < 65536 := Nat.lt_of_le_of_lt (Nat.div_le_self _ _) hs
  rw [e]
  have := and16 (a := s / 2 ^ r) (b := 1) hlt (by omega)
  have this : IntKind.u16.wrap ((BitVec.ofInt IntKind.u16.bits ((s / 2 ^ r : Nat) : Int) &&& BitVec.ofInt IntKind.u16.bits (1 : Int)).toNat : Int) = ((s / 2 ^ r &&& 1 : Nat) : Int) := this
  rw [this, Nat.and_one_is_mod, Nat.testBit_eq_decide_div_mod_eq]
  apply decide_eq_decide.2
  omega
theorem tagset_Has_ok (s : Nat) (t : Int) (hs : s < 65536) : EvP PR G f_tagset_Has [uv s, iv t] (bv (hasN s t)) := by
  refine EvP.of_wpf true hm c_tagset_Has rfl ?_
  conv => whnf
  by_cases h0 : 0 ≤ t
  · by_cases h1 : t < 16
    · obtain ⟨r, rfl⟩ := Int.eq_ofNat_of_zero_le h0
      have hb := shr_bit s r hs (by omega)
      rw [hasN_nat (by omega)]
      repeat' ((first | refine brP_t (by assumption) ?_ | refine brP_f (by assumption) ?_ | refine brP_t (decide_eq_true (by omega)) ?_ | refine brP_f (decide_eq_false (by omega)) ?_ | refine brP_t (nd_t (by omega)) ?_ | refine brP_f (nd_f (by omega)) ?_ | fail) <;> conv => whnf)
      exact congrArg bv hb
    · have : hasN s t = false := by simp [hasN]; omega
      rw [this]
      repeat' ((first | refine brP_t (by assumption) ?_ | refine brP_f (by assumption) ?_ | refine brP_t (decide_eq_true (by omega)) ?_ | refine brP_f (decide_eq_false (by omega)) ?_ | refine brP_t (nd_t (by omega)) ?_ | refine brP_f (nd_f (by omega)) ?_ | fail) <;> conv => whnf)
      rfl
  · have : hasN s t = false := by simp [hasN]; omega
    rw [this]
    repeat' ((first | refine brP_t (by assumption) ?_ | refine brP_f (by assumption) ?_ | refine brP_t (decide_eq_true (by omega)) ?_ | refine brP_f (decide_eq_false (by omega)) ?_ | refine brP_t (nd_t (by omega)) ?_ | refine brP_f (nd_f (by omega)) ?_ | fail) <;> conv => whnf)
    rfl
theorem subB_false {a b i : Nat} (ha : a < 65536) (hb : b < 65536) (hi : i < 16) (h1 : a.testBit i = true) (h2 : b.testBit i = false) : subB a b = false := by
  cases h : subB a b with
  | false => rfl
  | true =>
    have := (subB_iff ha hb).1 h i hi h1
    rw [h2] at this; cases this
theorem R01_Sub_ok (a b : Nat) (ha : a < 65536) (hb : b < 65536) : EvP PR G f_R01_Sub [uv a, uv b] (bv (subB a b)) := by
  refine EvP.of_wpf true hm c_R01_Sub rfl ?_
  refine wpf_seq1 ?_
  conv => whnf
  repeat' ((first | refine brP_t (by assumption) ?_ | refine brP_f (by assumption) ?_ | refine brP_t (decide_eq_true (by omega)) ?_ | refine brP_f (decide_eq_false (by omega)) ?_ | refine brP_t (nd_t (by omega)) ?_ | refine brP_f (nd_f (by omega)) ?_ | refine wpfS_seq1 ?_ | refine wpfS_go ?_ | fail) <;> conv => whnf)
  refine SemS.loopF true hm (σ := Nat) (fun i => [(0, uv a), (1, uv b), (5, iv i)]) (fun _ => ⟨[], []⟩) (fun i => 16 - i) (fun i => i ≤ 16 ∧ ∀ j, j < i → a.testBit j = true → b.testBit j = true) 0 ⟨Nat.zero_le _, fun j h => absurd h (Nat.not_lt_zero j)⟩ ⟨rfl, rfl, rfl, trivial⟩ rfl ?_
  rintro i ⟨hi, hall⟩
  refine wpf_seq1 ?_
  conv => whnf
  refine brP_mk (fun h => ?_) (fun h => ?_)
  · have hi' : i < 16 := by have := of_decide_eq_true h; omega
    clear h
    have hw2 : IntKind.i64.wrap ((i : Int) + 1) = ((i + 1 : Nat) : Int) := by rw [wrap64 (by omega)]; rfl
    have e1 := R01_Has_ok a i ha
    have e2 := R01_Has_ok b i hb
    rw [hasN_nat hi'] at e1 e2
    cases h1 : a.testBit i with
    | false =>
      rw [h1] at e1
      repeat' ((first | refine brP_t (by assumption) ?_ | refine brP_f (by assumption) ?_ | refine brP_t (decide_eq_true (by omega)) ?_ | refine brP_f (decide_eq_false (by omega)) ?_ | refine brP_t (nd_t (by omega)) ?_ | refine brP_f (nd_f (by omega)) ?_ | refine callK_p e1 ?_ | refine callM_p e1 rfl ?_ | refine callK_pf rfl e1 ?_ | refine callK_p e2 ?_ | refine callM_p e2 rfl ?_ | refine callK_pf rfl e2 ?_ | refine wpfS_seq1 ?_ | refine wpfS_go ?_ | fail) <;> conv => whnf)
      rw [hw2]
      refine ⟨i + 1, ⟨hi', fun j hj hb' => ?_⟩, (show 16 - (i + 1) < 16 - i by omega), ⟨rfl, rfl, rfl, trivial⟩, rfl⟩
      by_cases e : j = i
      · subst e; rw [h1] at hb'; cases hb'
      · exact hall j (by omega) hb'
    | true =>
      rw [h1] at e1
      cases h2 : b.testBit i with
      | false =>
        rw [h2] at e2
        rw [subB_false ha hb hi' h1 h2]
        repeat' ((first | refine brP_t (by assumption) ?_ | refine brP_f (by assumption) ?_ | refine brP_t (decide_eq_true (by omega)) ?_ | refine brP_f (decide_eq_false (by omega)) ?_ | refine brP_t (nd_t (by omega)) ?_ | refine brP_f (nd_f (by omega)) ?_ | refine callK_p e1 ?_ | refine callM_p e1 rfl ?_ | refine callK_pf rfl e1 ?_ | refine callK_p e2 ?_ | refine callM_p e2 rfl ?_ | refine callK_pf rfl e2 ?_ | refine wpfS_seq1 ?_ | refine wpfS_go ?_ | fail) <;> conv => whnf)
        rfl
      | true =>
        rw [h2] at e2
        repeat' ((first | refine brP_t (by assumption) ?_ | refine brP_f (by assumption) ?_ | refine brP_t (decide_eq_true (by omega)) ?_ | refine brP_f (decide_eq_false (by omega)) ?_ | refine brP_t (nd_t (by omega)) ?_ | refine brP_f (nd_f (by omega)) ?_ | refine callK_p e1 ?_ | refine callM_p e1 rfl ?_ | refine callK_pf rfl e1 ?_ | refine callK_p e2 ?_ | refine callM_p e2 rfl ?_ | refine callK_pf rfl e2 ?_ | refine wpfS_seq1 ?_ | refine wpfS_go ?_ | fail) <;> conv => whnf)
        rw [hw2]
        refine ⟨i + 1, ⟨hi', fun j hj hb' => ?_⟩, (show 16 - (i + 1) < 16 - i by omega), ⟨rfl, rfl, rfl, trivial⟩, rfl⟩
        by_cases e : j = i
        · subst e; exact h2
        · exact hall j (by omega) hb'
  · have hi' : i = 16 := by have := of_decide_eq_false h; omega
    subst hi'
    rw [(subB_iff ha hb).2 hall]
    conv => whnf
    repeat' ((first | refine brP_t (by assumption) ?_ | refine brP_f (by assumption) ?_ | refine brP_t (decide_eq_true (by omega)) ?_ | refine brP_f (decide_eq_false (by omega)) ?_ | refine brP_t (nd_t (by omega)) ?_ | refine brP_f (nd_f (by omega)) ?_ | refine wpfS_seq1 ?_ | refine wpfS_go ?_ | fail) <;> conv => whnf)
    rfl
theorem R02_Tags_ok (s i : Nat) (hs : s < 65536) (hi : i < 65536) : EvP PR G f_R02_Tags [lab s i] (uv ((s ||| i : Nat) : Int)) := by
  have h := R01_Or_ok s i hs hi
  refine EvP.of_wpf true hm c_R02_Tags rfl ?_
  conv => whnf
  repeat' ((first | refine brP_t (by assumption) ?_ | refine brP_f (by assumption) ?_ | refine brP_t (decide_eq_true (by omega)) ?_ | refine brP_f (decide_eq_false (by omega)) ?_ | refine brP_t (nd_t (by omega)) ?_ | refine brP_f (nd_f (by omega)) ?_ | refine callK_p h ?_ | refine callM_p h rfl ?_ | refine callK_pf rfl h ?_ | fail) <;> conv => whnf)
  rfl
end Go.Ab.S
