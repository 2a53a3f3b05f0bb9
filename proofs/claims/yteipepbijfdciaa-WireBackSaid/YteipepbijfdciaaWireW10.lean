/- Part of a proof; no condition. -/
import Derived.Test.YteipepbijfdciaaWireW9
import Derived.Test.YteipepbijfdciaaWireW4
set_option linter.unusedSimpArgs false
set_option linter.unusedVariables false
namespace Go.Ab.S
open Go Go.Ab Go.Proofs
attribute [local irreducible] SemS
set_option maxRecDepth 100000
/-- The program's reader and the document's stand at the same place of the same bytes. -/
structure Same2 (B : List UInt8) (e : Int) (b p b' : List UInt8) : Prop where
  all : p ++ b' = B
  eq : e = 0 → b = b'
theorem num_same {e : Int} {b b' : List UInt8} (h : e = 0 → b = b') (size most : Int) : numV e b size most = numV e b' size most ∧ numE e b size most = numE e b' size most ∧ (numE e b size most = 0 → numL true e b size = numL false e b' size) := by
  by_cases he : e = 0
  · subst he
    obtain rfl := h rfl
    refine ⟨rfl, rfl, fun h0 => ?_⟩
    unfold numE at h0
    unfold numL
    split
    · rfl
    · rename_i h1
      rw [if_neg h1] at h0
      split
      · rfl
      · rename_i h2
        rw [if_neg h2] at h0
        split
        · rename_i h3; rw [if_pos h3] at h0; omega
        · rfl
  · unfold numV numE
    simp only [if_pos (show e ≠ 0 from he)]
    exact ⟨trivial, trivial, fun h => absurd h he⟩
theorem txt_same {e : Int} {b b' : List UInt8} (h : e = 0 → b = b') (most : Int) : txtV e b most = txtV e b' most ∧ txtE e b most = txtE e b' most ∧ (txtE e b most = 0 → txtL true e b most = txtL false e b' most) := by
  by_cases he : e = 0
  · subst he
    obtain rfl := h rfl
    refine ⟨rfl, rfl, fun h0 => ?_⟩
    cases b with
    | nil => rfl
    | cons c r =>
      have h0 : (if most < c.toNat then (5 : Int) else if r.length < c.toNat then 4 else 0) = 0 := h0
      show (if most < c.toNat then r else if r.length < c.toNat then r else r.drop c.toNat) = (if most < c.toNat then r else if r.length < c.toNat then [] else r.drop c.toNat)
      split
      · rfl
      · rename_i h1
        rw [if_neg h1] at h0
        split
        · rename_i h2; rw [if_pos h2] at h0; omega
        · rfl
  · unfold txtV txtE
    simp only [if_pos (show e ≠ 0 from he)]
    exact ⟨trivial, trivial, fun h => absurd h he⟩
theorem numL_suf (e : Int) (b : List UInt8) (size : Int) : b.take (b.length - (numL false e b size).length) ++ numL false e b size = b := by
  have h : ∀ n, b.take (b.length - (b.drop n).length) ++ b.drop n = b := fun n => by
    by_cases hn : n ≤ b.length
    · rw [List.length_drop, show b.length - (b.length - n) = n by omega, List.take_append_drop]
    · rw [List.drop_eq_nil_of_le (by omega)]; simp
  unfold numL
  split
  · exact h 0
  · split
    · exact h 0
    · split
      · simp
      · exact h _
theorem txtL_suf (e : Int) (b : List UInt8) (most : Int) : b.take (b.length - (txtL false e b most).length) ++ txtL false e b most = b := by
  have h : ∀ n, b.take (b.length - (b.drop n).length) ++ b.drop n = b := fun n => by
    by_cases hn : n ≤ b.length
    · rw [List.length_drop, show b.length - (b.length - n) = n by omega, List.take_append_drop]
    · rw [List.drop_eq_nil_of_le (by omega)]; simp
  unfold txtL
  split
  · exact h 0
  · cases b with
    | nil => rfl
    | cons c r =>
      show List.take ((c :: r).length - (if most < c.toNat then r else if r.length < c.toNat then [] else r.drop c.toNat).length) (c :: r) ++ (if most < c.toNat then r else if r.length < c.toNat then [] else r.drop c.toNat) = c :: r
      split
      · exact h 1
      · split
        · simp
        · exact h (c.toNat + 1)
theorem Same2.num {B : List UInt8} {e : Int} {b p b' : List UInt8} (h : Same2 B e b p b') (hB : B.length < 2 ^ 40) (size most : Int) (hm0 : -9223372036854775808 ≤ most) :
    ∃ v e1 b1 p1 b1', EvR PR G f_wire_Reader_Num [.c (.ptr (.par 0) 0), iv size, iv most] ⟨rdB e b, []⟩ (iv v) ⟨rdB e1 b1, []⟩ ∧
      EvR PR G f_R05_R_Num [.c (.ptr (.par 0) 0), iv size, iv most] ⟨rrB e p b', []⟩ (iv v) ⟨rrB e1 p1 b1', []⟩ ∧ Same2 B e1 b1 p1 b1' := by
  have h2 := rr_Num_ok e p b' (by rw [h.all]; omega) size most
  obtain ⟨k1, k2, k3⟩ := num_same h.eq size most
  rw [← k1, ← k2] at h2
  refine ⟨_, _, _, _, _, r_Num_ok e b size most hm0, h2, ?_, k3⟩
  rw [List.append_assoc, numL_suf, h.all]
theorem Same2.txt {B : List UInt8} {e : Int} {b p b' : List UInt8} (h : Same2 B e b p b') (hB : B.length < 2 ^ 40) (most : Int) :
    ∃ v e1 b1 p1 b1', EvR PR G f_wire_Reader_Text [.c (.ptr (.par 0) 0), iv most] ⟨rdB e b, []⟩ (.c (.p (.str v))) ⟨rdB e1 b1, []⟩ ∧
      EvR PR G f_R05_R_Text [.c (.ptr (.par 0) 0), iv most] ⟨rrB e p b', []⟩ (.c (.p (.str v))) ⟨rrB e1 p1 b1', []⟩ ∧ Same2 B e1 b1 p1 b1' := by
  have h2 := rr_Text_ok e p b' (by rw [h.all]; omega) most
  obtain ⟨k1, k2, k3⟩ := txt_same h.eq most
  rw [← k1, ← k2] at h2
  refine ⟨_, _, _, _, _, r_Text_ok e b most, h2, ?_, k3⟩
  rw [List.append_assoc, txtL_suf, h.all]
theorem Same2.left {B : List UInt8} {e : Int} {b p b' : List UInt8} (h : Same2 B e b p b') : leftR e b' = leftR e b := by
  unfold leftR
  split
  · rename_i he; rw [h.eq he]
  · rfl
theorem Same2.fail {B : List UInt8} {e : Int} {b p b' : List UInt8} (h : Same2 B e b p b') (x : Int) : Same2 B (firstE e x) b p b' := by
  refine ⟨h.all, fun h0 => h.eq ?_⟩
  unfold firstE at h0
  split at h0
  · assumption
  · exact h0
def rdH (e : Int) (b p b' : List UInt8) : Hp := ⟨[], [.row [.int .i64 e, .sl (bytesOf b)], .row [.sl (bytesOf (p ++ b')), .int .i64 p.length, .int .i64 e]]⟩
set_option maxHeartbeats 4000000 in
theorem reads_ok (B : List UInt8) (l : List Part) (hl : l.length < 2 ^ 63) (hn : ∀ p ∈ l, -9223372036854775808 ≤ p.most) (at_ bad : Int) : EvP PR G f_L05_WireReads [slv (bytesOf B), slv (prts l), iv at_, iv bad] (bv true) := by
  have hlen := prts_len (l := l)
  have hBl := bytesOf_len B
  have hfar := far_ok l hl
  refine EvP.of_wpf false hm c_L05_WireReads rfl ?_
  refine wpf_seq1 ?_
  conv => whnf
  cases hf : farB l with
  | true =>
    rw [hf] at hfar
    repeat' ((first | refine brP_t (by assumption) ?_ | refine brP_f (by assumption) ?_ | refine brP_t (decide_eq_true (by omega)) ?_ | refine brP_f (decide_eq_false (by omega)) ?_ | refine brP_t (nd_t (by omega)) ?_ | refine brP_f (nd_f (by omega)) ?_ | refine callK_p hfar ?_ | refine callM_p hfar rfl ?_ | refine callK_pf rfl hfar ?_ | refine callK_p L05_alive_ok ?_ | refine callM_p L05_alive_ok rfl ?_ | refine callK_pf rfl L05_alive_ok ?_ | refine wpfS_seq1 ?_ | refine wpfS_go ?_ | fail) <;> conv => whnf)
    rfl
  | false =>
    rw [hf] at hfar
    by_cases hB : 3000 < B.length
    · repeat' ((first | refine brP_t (by assumption) ?_ | refine brP_f (by assumption) ?_ | refine brP_t (decide_eq_true (by omega)) ?_ | refine brP_f (decide_eq_false (by omega)) ?_ | refine brP_t (nd_t (by omega)) ?_ | refine brP_f (nd_f (by omega)) ?_ | refine callK_p hfar ?_ | refine callM_p hfar rfl ?_ | refine callK_pf rfl hfar ?_ | refine callK_p L05_alive_ok ?_ | refine callM_p L05_alive_ok rfl ?_ | refine callK_pf rfl L05_alive_ok ?_ | refine wpfS_seq1 ?_ | refine wpfS_go ?_ | fail) <;> conv => whnf)
      rfl
    have hnr := NewReader_ok B
    repeat' ((first | refine brP_t (by assumption) ?_ | refine brP_f (by assumption) ?_ | refine brP_t (decide_eq_true (by omega)) ?_ | refine brP_f (decide_eq_false (by omega)) ?_ | refine brP_t (nd_t (by omega)) ?_ | refine brP_f (nd_f (by omega)) ?_ | refine callK_p hfar ?_ | refine callM_p hfar rfl ?_ | refine callK_pf rfl hfar ?_ | refine callK_r (EvR.fr [] hnr rfl rfl trivial rfl) ?_ | refine callM_l (LEv.fr [] hnr rfl rfl trivial rfl rfl) ?_ | refine callK_rt (EvR.fr [] hnr rfl rfl trivial rfl) ?_ | refine callK_rf rfl (EvR.fr [] hnr rfl rfl trivial rfl) ?_ | refine callK_rft rfl (EvR.fr [] hnr rfl rfl trivial rfl) ?_ | refine wpfS_seq1 ?_ | refine wpfS_go ?_ | fail) <;> conv => whnf)
    refine SemS.loopF false hm (σ := Nat × Int × List UInt8 × List UInt8 × List UInt8) (fun s => [(0, slv (bytesOf B)), (1, slv (prts l)), (2, iv at_), (3, iv bad), (9, .c (.ptr (.loc 0) 0)), (10, .c (.ptr (.loc 1) 0)), (11, iv s.1)])
      (fun s => rdH s.2.1 s.2.2.1 s.2.2.2.1 s.2.2.2.2)
      (fun s => l.length - s.1) (fun s => s.1 ≤ l.length ∧ Same2 B s.2.1 s.2.2.1 s.2.2.2.1 s.2.2.2.2) (0, 0, B, [], B) ⟨Nat.zero_le _, rfl, fun _ => rfl⟩ ⟨rfl, rfl, rfl, rfl, rfl, rfl, rfl, trivial⟩ rfl ?_
    rintro ⟨i, e, b, p, b'⟩ ⟨hi, hS⟩
    have hi : i ≤ l.length := hi
    have hS : Same2 B e b p b' := hS
    show wpf PR G false _ _ [(0, slv (bytesOf B)), (1, slv (prts l)), (2, iv at_), (3, iv bad), (9, .c (.ptr (.loc 0) 0)), (10, .c (.ptr (.loc 1) 0)), (11, iv i)] (rdH e b p b') _
    refine wpf_seq1 ?_
    conv => whnf
    rw [hlen]
    refine brP_mk (fun h => ?_) (fun h => ?_)
    · have hi' : i < l.length := by have := of_decide_eq_true h; omega
      clear h
      have hget := prts_get hi'
      have hw2 : IntKind.i64.wrap ((i : Int) + 1) = ((i + 1 : Nat) : Int) := by rw [wrap64 (by omega)]; rfl
      have hpm := hn l[i] (List.getElem_mem hi')
      generalize hq : l[i] = q at *
      clear hq
      obtain ⟨t, n, size, most, s⟩ := q
      have hget : (prts l)[i]? = some [.bool t, .int .i64 n, .int .i64 size, .int .i64 most, .str s] := hget
      have hpm : -9223372036854775808 ≤ most := hpm
      cases t with
      | true =>
        obtain ⟨v, e1, b1, p1, b1', h1, h2, hS1⟩ := hS.txt (by omega) most
        by_cases ha : (i : Int) = at_
        · by_cases he1 : e1 = 0
          · have h3 := r_Fail_ok e1 b1 bad
            have hS2 := hS1.fail bad
            rw [show firstE e1 bad = bad by unfold firstE; rw [if_pos he1]] at h3 hS2
            have h4 := r_Left_ok bad b1
            have h5 := rr_Left_ok bad p1 b1' (by rw [hS2.all]; omega)
            have h6 := r_Err_ok bad b1
            rw [hS2.left] at h5
            generalize leftR bad b1 = lf at *
            repeat' ((first | refine brP_t (by assumption) ?_ | refine brP_f (by assumption) ?_ | refine brP_t (decide_eq_true (by omega)) ?_ | refine brP_f (decide_eq_false (by omega)) ?_ | refine brP_t (nd_t (by omega)) ?_ | refine brP_f (nd_f (by omega)) ?_ | ((conv in (opS _ _ _ _) => whnf); rw [Int.toNat_natCast, hget]) | ((conv in (opM _ _ _ _ _) => whnf); (conv in (opS _ _ _ _) => whnf); rw [Int.toNat_natCast, hget]) | refine callK_r (EvR.fr [_] h1 rfl rfl ⟨rfl, trivial⟩ rfl) ?_ | refine callM_l (LEv.fr [_] h1 rfl rfl ⟨rfl, trivial⟩ rfl rfl) ?_ | refine callK_rt (EvR.fr [_] h1 rfl rfl ⟨rfl, trivial⟩ rfl) ?_ | refine callK_rf rfl (EvR.fr [_] h1 rfl rfl ⟨rfl, trivial⟩ rfl) ?_ | refine callK_rft rfl (EvR.fr [_] h1 rfl rfl ⟨rfl, trivial⟩ rfl) ?_ | refine callK_r (EvR.fr [_] h2 rfl rfl ⟨rfl, trivial⟩ rfl) ?_ | refine callM_l (LEv.fr [_] h2 rfl rfl ⟨rfl, trivial⟩ rfl rfl) ?_ | refine callK_rt (EvR.fr [_] h2 rfl rfl ⟨rfl, trivial⟩ rfl) ?_ | refine callK_rf rfl (EvR.fr [_] h2 rfl rfl ⟨rfl, trivial⟩ rfl) ?_ | refine callK_rft rfl (EvR.fr [_] h2 rfl rfl ⟨rfl, trivial⟩ rfl) ?_ | refine callK_r (EvR.fr [_] h3 rfl rfl ⟨rfl, trivial⟩ rfl) ?_ | refine callM_l (LEv.fr [_] h3 rfl rfl ⟨rfl, trivial⟩ rfl rfl) ?_ | refine callK_rt (EvR.fr [_] h3 rfl rfl ⟨rfl, trivial⟩ rfl) ?_ | refine callK_rf rfl (EvR.fr [_] h3 rfl rfl ⟨rfl, trivial⟩ rfl) ?_ | refine callK_rft rfl (EvR.fr [_] h3 rfl rfl ⟨rfl, trivial⟩ rfl) ?_ | refine callK_r (EvR.fr [_] h4 rfl rfl ⟨rfl, trivial⟩ rfl) ?_ | refine callM_l (LEv.fr [_] h4 rfl rfl ⟨rfl, trivial⟩ rfl rfl) ?_ | refine callK_rt (EvR.fr [_] h4 rfl rfl ⟨rfl, trivial⟩ rfl) ?_ | refine callK_rf rfl (EvR.fr [_] h4 rfl rfl ⟨rfl, trivial⟩ rfl) ?_ | refine callK_rft rfl (EvR.fr [_] h4 rfl rfl ⟨rfl, trivial⟩ rfl) ?_ | refine callK_r (EvR.fr [_] h5 rfl rfl ⟨rfl, trivial⟩ rfl) ?_ | refine callM_l (LEv.fr [_] h5 rfl rfl ⟨rfl, trivial⟩ rfl rfl) ?_ | refine callK_rt (EvR.fr [_] h5 rfl rfl ⟨rfl, trivial⟩ rfl) ?_ | refine callK_rf rfl (EvR.fr [_] h5 rfl rfl ⟨rfl, trivial⟩ rfl) ?_ | refine callK_rft rfl (EvR.fr [_] h5 rfl rfl ⟨rfl, trivial⟩ rfl) ?_ | refine callK_r (EvR.fr [_] h6 rfl rfl ⟨rfl, trivial⟩ rfl) ?_ | refine callM_l (LEv.fr [_] h6 rfl rfl ⟨rfl, trivial⟩ rfl rfl) ?_ | refine callK_rt (EvR.fr [_] h6 rfl rfl ⟨rfl, trivial⟩ rfl) ?_ | refine callK_rf rfl (EvR.fr [_] h6 rfl rfl ⟨rfl, trivial⟩ rfl) ?_ | refine callK_rft rfl (EvR.fr [_] h6 rfl rfl ⟨rfl, trivial⟩ rfl) ?_ | refine brP_f (nd_f rfl) ?_ | refine wpfS_seq1 ?_ | refine wpfS_go ?_ | fail) <;> conv => whnf)
            rw [hw2]
            exact ⟨(i + 1, bad, b1, p1, b1'), ⟨hi', hS2⟩, (show l.length - (i + 1) < l.length - i by omega), ⟨rfl, rfl, rfl, rfl, rfl, rfl, rfl, trivial⟩, rfl⟩
          · have h3 := r_Fail_ok e1 b1 bad
            rw [show firstE e1 bad = e1 by unfold firstE; rw [if_neg he1]] at h3
            have h4 := r_Left_ok e1 b1
            have h5 := rr_Left_ok e1 p1 b1' (by rw [hS1.all]; omega)
            have h6 := r_Err_ok e1 b1
            rw [hS1.left] at h5
            generalize leftR e1 b1 = lf at *
            repeat' ((first | refine brP_t (by assumption) ?_ | refine brP_f (by assumption) ?_ | refine brP_t (decide_eq_true (by omega)) ?_ | refine brP_f (decide_eq_false (by omega)) ?_ | refine brP_t (nd_t (by omega)) ?_ | refine brP_f (nd_f (by omega)) ?_ | ((conv in (opS _ _ _ _) => whnf); rw [Int.toNat_natCast, hget]) | ((conv in (opM _ _ _ _ _) => whnf); (conv in (opS _ _ _ _) => whnf); rw [Int.toNat_natCast, hget]) | refine callK_r (EvR.fr [_] h1 rfl rfl ⟨rfl, trivial⟩ rfl) ?_ | refine callM_l (LEv.fr [_] h1 rfl rfl ⟨rfl, trivial⟩ rfl rfl) ?_ | refine callK_rt (EvR.fr [_] h1 rfl rfl ⟨rfl, trivial⟩ rfl) ?_ | refine callK_rf rfl (EvR.fr [_] h1 rfl rfl ⟨rfl, trivial⟩ rfl) ?_ | refine callK_rft rfl (EvR.fr [_] h1 rfl rfl ⟨rfl, trivial⟩ rfl) ?_ | refine callK_r (EvR.fr [_] h2 rfl rfl ⟨rfl, trivial⟩ rfl) ?_ | refine callM_l (LEv.fr [_] h2 rfl rfl ⟨rfl, trivial⟩ rfl rfl) ?_ | refine callK_rt (EvR.fr [_] h2 rfl rfl ⟨rfl, trivial⟩ rfl) ?_ | refine callK_rf rfl (EvR.fr [_] h2 rfl rfl ⟨rfl, trivial⟩ rfl) ?_ | refine callK_rft rfl (EvR.fr [_] h2 rfl rfl ⟨rfl, trivial⟩ rfl) ?_ | refine callK_r (EvR.fr [_] h3 rfl rfl ⟨rfl, trivial⟩ rfl) ?_ | refine callM_l (LEv.fr [_] h3 rfl rfl ⟨rfl, trivial⟩ rfl rfl) ?_ | refine callK_rt (EvR.fr [_] h3 rfl rfl ⟨rfl, trivial⟩ rfl) ?_ | refine callK_rf rfl (EvR.fr [_] h3 rfl rfl ⟨rfl, trivial⟩ rfl) ?_ | refine callK_rft rfl (EvR.fr [_] h3 rfl rfl ⟨rfl, trivial⟩ rfl) ?_ | refine callK_r (EvR.fr [_] h4 rfl rfl ⟨rfl, trivial⟩ rfl) ?_ | refine callM_l (LEv.fr [_] h4 rfl rfl ⟨rfl, trivial⟩ rfl rfl) ?_ | refine callK_rt (EvR.fr [_] h4 rfl rfl ⟨rfl, trivial⟩ rfl) ?_ | refine callK_rf rfl (EvR.fr [_] h4 rfl rfl ⟨rfl, trivial⟩ rfl) ?_ | refine callK_rft rfl (EvR.fr [_] h4 rfl rfl ⟨rfl, trivial⟩ rfl) ?_ | refine callK_r (EvR.fr [_] h5 rfl rfl ⟨rfl, trivial⟩ rfl) ?_ | refine callM_l (LEv.fr [_] h5 rfl rfl ⟨rfl, trivial⟩ rfl rfl) ?_ | refine callK_rt (EvR.fr [_] h5 rfl rfl ⟨rfl, trivial⟩ rfl) ?_ | refine callK_rf rfl (EvR.fr [_] h5 rfl rfl ⟨rfl, trivial⟩ rfl) ?_ | refine callK_rft rfl (EvR.fr [_] h5 rfl rfl ⟨rfl, trivial⟩ rfl) ?_ | refine callK_r (EvR.fr [_] h6 rfl rfl ⟨rfl, trivial⟩ rfl) ?_ | refine callM_l (LEv.fr [_] h6 rfl rfl ⟨rfl, trivial⟩ rfl rfl) ?_ | refine callK_rt (EvR.fr [_] h6 rfl rfl ⟨rfl, trivial⟩ rfl) ?_ | refine callK_rf rfl (EvR.fr [_] h6 rfl rfl ⟨rfl, trivial⟩ rfl) ?_ | refine callK_rft rfl (EvR.fr [_] h6 rfl rfl ⟨rfl, trivial⟩ rfl) ?_ | refine brP_f (nd_f rfl) ?_ | refine wpfS_seq1 ?_ | refine wpfS_go ?_ | fail) <;> conv => whnf)
            rw [hw2]
            exact ⟨(i + 1, e1, b1, p1, b1'), ⟨hi', hS1⟩, (show l.length - (i + 1) < l.length - i by omega), ⟨rfl, rfl, rfl, rfl, rfl, rfl, rfl, trivial⟩, rfl⟩
        · have h4 := r_Left_ok e1 b1
          have h5 := rr_Left_ok e1 p1 b1' (by rw [hS1.all]; omega)
          have h6 := r_Err_ok e1 b1
          rw [hS1.left] at h5
          generalize leftR e1 b1 = lf at *
          repeat' ((first | refine brP_t (by assumption) ?_ | refine brP_f (by assumption) ?_ | refine brP_t (decide_eq_true (by omega)) ?_ | refine brP_f (decide_eq_false (by omega)) ?_ | refine brP_t (nd_t (by omega)) ?_ | refine brP_f (nd_f (by omega)) ?_ | ((conv in (opS _ _ _ _) => whnf); rw [Int.toNat_natCast, hget]) | ((conv in (opM _ _ _ _ _) => whnf); (conv in (opS _ _ _ _) => whnf); rw [Int.toNat_natCast, hget]) | refine callK_r (EvR.fr [_] h1 rfl rfl ⟨rfl, trivial⟩ rfl) ?_ | refine callM_l (LEv.fr [_] h1 rfl rfl ⟨rfl, trivial⟩ rfl rfl) ?_ | refine callK_rt (EvR.fr [_] h1 rfl rfl ⟨rfl, trivial⟩ rfl) ?_ | refine callK_rf rfl (EvR.fr [_] h1 rfl rfl ⟨rfl, trivial⟩ rfl) ?_ | refine callK_rft rfl (EvR.fr [_] h1 rfl rfl ⟨rfl, trivial⟩ rfl) ?_ | refine callK_r (EvR.fr [_] h2 rfl rfl ⟨rfl, trivial⟩ rfl) ?_ | refine callM_l (LEv.fr [_] h2 rfl rfl ⟨rfl, trivial⟩ rfl rfl) ?_ | refine callK_rt (EvR.fr [_] h2 rfl rfl ⟨rfl, trivial⟩ rfl) ?_ | refine callK_rf rfl (EvR.fr [_] h2 rfl rfl ⟨rfl, trivial⟩ rfl) ?_ | refine callK_rft rfl (EvR.fr [_] h2 rfl rfl ⟨rfl, trivial⟩ rfl) ?_ | refine callK_r (EvR.fr [_] h4 rfl rfl ⟨rfl, trivial⟩ rfl) ?_ | refine callM_l (LEv.fr [_] h4 rfl rfl ⟨rfl, trivial⟩ rfl rfl) ?_ | refine callK_rt (EvR.fr [_] h4 rfl rfl ⟨rfl, trivial⟩ rfl) ?_ | refine callK_rf rfl (EvR.fr [_] h4 rfl rfl ⟨rfl, trivial⟩ rfl) ?_ | refine callK_rft rfl (EvR.fr [_] h4 rfl rfl ⟨rfl, trivial⟩ rfl) ?_ | refine callK_r (EvR.fr [_] h5 rfl rfl ⟨rfl, trivial⟩ rfl) ?_ | refine callM_l (LEv.fr [_] h5 rfl rfl ⟨rfl, trivial⟩ rfl rfl) ?_ | refine callK_rt (EvR.fr [_] h5 rfl rfl ⟨rfl, trivial⟩ rfl) ?_ | refine callK_rf rfl (EvR.fr [_] h5 rfl rfl ⟨rfl, trivial⟩ rfl) ?_ | refine callK_rft rfl (EvR.fr [_] h5 rfl rfl ⟨rfl, trivial⟩ rfl) ?_ | refine callK_r (EvR.fr [_] h6 rfl rfl ⟨rfl, trivial⟩ rfl) ?_ | refine callM_l (LEv.fr [_] h6 rfl rfl ⟨rfl, trivial⟩ rfl rfl) ?_ | refine callK_rt (EvR.fr [_] h6 rfl rfl ⟨rfl, trivial⟩ rfl) ?_ | refine callK_rf rfl (EvR.fr [_] h6 rfl rfl ⟨rfl, trivial⟩ rfl) ?_ | refine callK_rft rfl (EvR.fr [_] h6 rfl rfl ⟨rfl, trivial⟩ rfl) ?_ | refine brP_f (nd_f rfl) ?_ | refine wpfS_seq1 ?_ | refine wpfS_go ?_ | fail) <;> conv => whnf)
          rw [hw2]
          exact ⟨(i + 1, e1, b1, p1, b1'), ⟨hi', hS1⟩, (show l.length - (i + 1) < l.length - i by omega), ⟨rfl, rfl, rfl, rfl, rfl, rfl, rfl, trivial⟩, rfl⟩
      | false =>
        obtain ⟨v, e1, b1, p1, b1', h1, h2, hS1⟩ := hS.num (by omega) size most hpm
        by_cases ha : (i : Int) = at_
        · by_cases he1 : e1 = 0
          · have h3 := r_Fail_ok e1 b1 bad
            have hS2 := hS1.fail bad
            rw [show firstE e1 bad = bad by unfold firstE; rw [if_pos he1]] at h3 hS2
            have h4 := r_Left_ok bad b1
            have h5 := rr_Left_ok bad p1 b1' (by rw [hS2.all]; omega)
            have h6 := r_Err_ok bad b1
            rw [hS2.left] at h5
            generalize leftR bad b1 = lf at *
            repeat' ((first | refine brP_t (by assumption) ?_ | refine brP_f (by assumption) ?_ | refine brP_t (decide_eq_true (by omega)) ?_ | refine brP_f (decide_eq_false (by omega)) ?_ | refine brP_t (nd_t (by omega)) ?_ | refine brP_f (nd_f (by omega)) ?_ | ((conv in (opS _ _ _ _) => whnf); rw [Int.toNat_natCast, hget]) | ((conv in (opM _ _ _ _ _) => whnf); (conv in (opS _ _ _ _) => whnf); rw [Int.toNat_natCast, hget]) | refine callK_r (EvR.fr [_] h1 rfl rfl ⟨rfl, trivial⟩ rfl) ?_ | refine callM_l (LEv.fr [_] h1 rfl rfl ⟨rfl, trivial⟩ rfl rfl) ?_ | refine callK_rt (EvR.fr [_] h1 rfl rfl ⟨rfl, trivial⟩ rfl) ?_ | refine callK_rf rfl (EvR.fr [_] h1 rfl rfl ⟨rfl, trivial⟩ rfl) ?_ | refine callK_rft rfl (EvR.fr [_] h1 rfl rfl ⟨rfl, trivial⟩ rfl) ?_ | refine callK_r (EvR.fr [_] h2 rfl rfl ⟨rfl, trivial⟩ rfl) ?_ | refine callM_l (LEv.fr [_] h2 rfl rfl ⟨rfl, trivial⟩ rfl rfl) ?_ | refine callK_rt (EvR.fr [_] h2 rfl rfl ⟨rfl, trivial⟩ rfl) ?_ | refine callK_rf rfl (EvR.fr [_] h2 rfl rfl ⟨rfl, trivial⟩ rfl) ?_ | refine callK_rft rfl (EvR.fr [_] h2 rfl rfl ⟨rfl, trivial⟩ rfl) ?_ | refine callK_r (EvR.fr [_] h3 rfl rfl ⟨rfl, trivial⟩ rfl) ?_ | refine callM_l (LEv.fr [_] h3 rfl rfl ⟨rfl, trivial⟩ rfl rfl) ?_ | refine callK_rt (EvR.fr [_] h3 rfl rfl ⟨rfl, trivial⟩ rfl) ?_ | refine callK_rf rfl (EvR.fr [_] h3 rfl rfl ⟨rfl, trivial⟩ rfl) ?_ | refine callK_rft rfl (EvR.fr [_] h3 rfl rfl ⟨rfl, trivial⟩ rfl) ?_ | refine callK_r (EvR.fr [_] h4 rfl rfl ⟨rfl, trivial⟩ rfl) ?_ | refine callM_l (LEv.fr [_] h4 rfl rfl ⟨rfl, trivial⟩ rfl rfl) ?_ | refine callK_rt (EvR.fr [_] h4 rfl rfl ⟨rfl, trivial⟩ rfl) ?_ | refine callK_rf rfl (EvR.fr [_] h4 rfl rfl ⟨rfl, trivial⟩ rfl) ?_ | refine callK_rft rfl (EvR.fr [_] h4 rfl rfl ⟨rfl, trivial⟩ rfl) ?_ | refine callK_r (EvR.fr [_] h5 rfl rfl ⟨rfl, trivial⟩ rfl) ?_ | refine callM_l (LEv.fr [_] h5 rfl rfl ⟨rfl, trivial⟩ rfl rfl) ?_ | refine callK_rt (EvR.fr [_] h5 rfl rfl ⟨rfl, trivial⟩ rfl) ?_ | refine callK_rf rfl (EvR.fr [_] h5 rfl rfl ⟨rfl, trivial⟩ rfl) ?_ | refine callK_rft rfl (EvR.fr [_] h5 rfl rfl ⟨rfl, trivial⟩ rfl) ?_ | refine callK_r (EvR.fr [_] h6 rfl rfl ⟨rfl, trivial⟩ rfl) ?_ | refine callM_l (LEv.fr [_] h6 rfl rfl ⟨rfl, trivial⟩ rfl rfl) ?_ | refine callK_rt (EvR.fr [_] h6 rfl rfl ⟨rfl, trivial⟩ rfl) ?_ | refine callK_rf rfl (EvR.fr [_] h6 rfl rfl ⟨rfl, trivial⟩ rfl) ?_ | refine callK_rft rfl (EvR.fr [_] h6 rfl rfl ⟨rfl, trivial⟩ rfl) ?_ | refine brP_f (nd_f rfl) ?_ | refine wpfS_seq1 ?_ | refine wpfS_go ?_ | fail) <;> conv => whnf)
            rw [hw2]
            exact ⟨(i + 1, bad, b1, p1, b1'), ⟨hi', hS2⟩, (show l.length - (i + 1) < l.length - i by omega), ⟨rfl, rfl, rfl, rfl, rfl, rfl, rfl, trivial⟩, rfl⟩
          · have h3 := r_Fail_ok e1 b1 bad
            rw [show firstE e1 bad = e1 by unfold firstE; rw [if_neg he1]] at h3
            have h4 := r_Left_ok e1 b1
            have h5 := rr_Left_ok e1 p1 b1' (by rw [hS1.all]; omega)
            have h6 := r_Err_ok e1 b1
            rw [hS1.left] at h5
            generalize leftR e1 b1 = lf at *
            repeat' ((first | refine brP_t (by assumption) ?_ | refine brP_f (by assumption) ?_ | refine brP_t (decide_eq_true (by omega)) ?_ | refine brP_f (decide_eq_false (by omega)) ?_ | refine brP_t (nd_t (by omega)) ?_ | refine brP_f (nd_f (by omega)) ?_ | ((conv in (opS _ _ _ _) => whnf); rw [Int.toNat_natCast, hget]) | ((conv in (opM _ _ _ _ _) => whnf); (conv in (opS _ _ _ _) => whnf); rw [Int.toNat_natCast, hget]) | refine callK_r (EvR.fr [_] h1 rfl rfl ⟨rfl, trivial⟩ rfl) ?_ | refine callM_l (LEv.fr [_] h1 rfl rfl ⟨rfl, trivial⟩ rfl rfl) ?_ | refine callK_rt (EvR.fr [_] h1 rfl rfl ⟨rfl, trivial⟩ rfl) ?_ | refine callK_rf rfl (EvR.fr [_] h1 rfl rfl ⟨rfl, trivial⟩ rfl) ?_ | refine callK_rft rfl (EvR.fr [_] h1 rfl rfl ⟨rfl, trivial⟩ rfl) ?_ | refine callK_r (EvR.fr [_] h2 rfl rfl ⟨rfl, trivial⟩ rfl) ?_ | refine callM_l (LEv.fr [_] h2 rfl rfl ⟨rfl, trivial⟩ rfl rfl) ?_ | refine callK_rt (EvR.fr [_] h2 rfl rfl ⟨rfl, trivial⟩ rfl) ?_ | refine callK_rf rfl (EvR.fr [_] h2 rfl rfl ⟨rfl, trivial⟩ rfl) ?_ | refine callK_rft rfl (EvR.fr [_] h2 rfl rfl ⟨rfl, trivial⟩ rfl) ?_ | refine callK_r (EvR.fr [_] h3 rfl rfl ⟨rfl, trivial⟩ rfl) ?_ | refine callM_l (LEv.fr [_] h3 rfl rfl ⟨rfl, trivial⟩ rfl rfl) ?_ | refine callK_rt (EvR.fr [_] h3 rfl rfl ⟨rfl, trivial⟩ rfl) ?_ | refine callK_rf rfl (EvR.fr [_] h3 rfl rfl ⟨rfl, trivial⟩ rfl) ?_ | refine callK_rft rfl (EvR.fr [_] h3 rfl rfl ⟨rfl, trivial⟩ rfl) ?_ | refine callK_r (EvR.fr [_] h4 rfl rfl ⟨rfl, trivial⟩ rfl) ?_ | refine callM_l (LEv.fr [_] h4 rfl rfl ⟨rfl, trivial⟩ rfl rfl) ?_ | refine callK_rt (EvR.fr [_] h4 rfl rfl ⟨rfl, trivial⟩ rfl) ?_ | refine callK_rf rfl (EvR.fr [_] h4 rfl rfl ⟨rfl, trivial⟩ rfl) ?_ | refine callK_rft rfl (EvR.fr [_] h4 rfl rfl ⟨rfl, trivial⟩ rfl) ?_ | refine callK_r (EvR.fr [_] h5 rfl rfl ⟨rfl, trivial⟩ rfl) ?_ | refine callM_l (LEv.fr [_] h5 rfl rfl ⟨rfl, trivial⟩ rfl rfl) ?_ | refine callK_rt (EvR.fr [_] h5 rfl rfl ⟨rfl, trivial⟩ rfl) ?_ | refine callK_rf rfl (EvR.fr [_] h5 rfl rfl ⟨rfl, trivial⟩ rfl) ?_ | refine callK_rft rfl (EvR.fr [_] h5 rfl rfl ⟨rfl, trivial⟩ rfl) ?_ | refine callK_r (EvR.fr [_] h6 rfl rfl ⟨rfl, trivial⟩ rfl) ?_ | refine callM_l (LEv.fr [_] h6 rfl rfl ⟨rfl, trivial⟩ rfl rfl) ?_ | refine callK_rt (EvR.fr [_] h6 rfl rfl ⟨rfl, trivial⟩ rfl) ?_ | refine callK_rf rfl (EvR.fr [_] h6 rfl rfl ⟨rfl, trivial⟩ rfl) ?_ | refine callK_rft rfl (EvR.fr [_] h6 rfl rfl ⟨rfl, trivial⟩ rfl) ?_ | refine brP_f (nd_f rfl) ?_ | refine wpfS_seq1 ?_ | refine wpfS_go ?_ | fail) <;> conv => whnf)
            rw [hw2]
            exact ⟨(i + 1, e1, b1, p1, b1'), ⟨hi', hS1⟩, (show l.length - (i + 1) < l.length - i by omega), ⟨rfl, rfl, rfl, rfl, rfl, rfl, rfl, trivial⟩, rfl⟩
        · have h4 := r_Left_ok e1 b1
          have h5 := rr_Left_ok e1 p1 b1' (by rw [hS1.all]; omega)
          have h6 := r_Err_ok e1 b1
          rw [hS1.left] at h5
          generalize leftR e1 b1 = lf at *
          repeat' ((first | refine brP_t (by assumption) ?_ | refine brP_f (by assumption) ?_ | refine brP_t (decide_eq_true (by omega)) ?_ | refine brP_f (decide_eq_false (by omega)) ?_ | refine brP_t (nd_t (by omega)) ?_ | refine brP_f (nd_f (by omega)) ?_ | ((conv in (opS _ _ _ _) => whnf); rw [Int.toNat_natCast, hget]) | ((conv in (opM _ _ _ _ _) => whnf); (conv in (opS _ _ _ _) => whnf); rw [Int.toNat_natCast, hget]) | refine callK_r (EvR.fr [_] h1 rfl rfl ⟨rfl, trivial⟩ rfl) ?_ | refine callM_l (LEv.fr [_] h1 rfl rfl ⟨rfl, trivial⟩ rfl rfl) ?_ | refine callK_rt (EvR.fr [_] h1 rfl rfl ⟨rfl, trivial⟩ rfl) ?_ | refine callK_rf rfl (EvR.fr [_] h1 rfl rfl ⟨rfl, trivial⟩ rfl) ?_ | refine callK_rft rfl (EvR.fr [_] h1 rfl rfl ⟨rfl, trivial⟩ rfl) ?_ | refine callK_r (EvR.fr [_] h2 rfl rfl ⟨rfl, trivial⟩ rfl) ?_ | refine callM_l (LEv.fr [_] h2 rfl rfl ⟨rfl, trivial⟩ rfl rfl) ?_ | refine callK_rt (EvR.fr [_] h2 rfl rfl ⟨rfl, trivial⟩ rfl) ?_ | refine callK_rf rfl (EvR.fr [_] h2 rfl rfl ⟨rfl, trivial⟩ rfl) ?_ | refine callK_rft rfl (EvR.fr [_] h2 rfl rfl ⟨rfl, trivial⟩ rfl) ?_ | refine callK_r (EvR.fr [_] h4 rfl rfl ⟨rfl, trivial⟩ rfl) ?_ | refine callM_l (LEv.fr [_] h4 rfl rfl ⟨rfl, trivial⟩ rfl rfl) ?_ | refine callK_rt (EvR.fr [_] h4 rfl rfl ⟨rfl, trivial⟩ rfl) ?_ | refine callK_rf rfl (EvR.fr [_] h4 rfl rfl ⟨rfl, trivial⟩ rfl) ?_ | refine callK_rft rfl (EvR.fr [_] h4 rfl rfl ⟨rfl, trivial⟩ rfl) ?_ | refine callK_r (EvR.fr [_] h5 rfl rfl ⟨rfl, trivial⟩ rfl) ?_ | refine callM_l (LEv.fr [_] h5 rfl rfl ⟨rfl, trivial⟩ rfl rfl) ?_ | refine callK_rt (EvR.fr [_] h5 rfl rfl ⟨rfl, trivial⟩ rfl) ?_ | refine callK_rf rfl (EvR.fr [_] h5 rfl rfl ⟨rfl, trivial⟩ rfl) ?_ | refine callK_rft rfl (EvR.fr [_] h5 rfl rfl ⟨rfl, trivial⟩ rfl) ?_ | refine callK_r (EvR.fr [_] h6 rfl rfl ⟨rfl, trivial⟩ rfl) ?_ | refine callM_l (LEv.fr [_] h6 rfl rfl ⟨rfl, trivial⟩ rfl rfl) ?_ | refine callK_rt (EvR.fr [_] h6 rfl rfl ⟨rfl, trivial⟩ rfl) ?_ | refine callK_rf rfl (EvR.fr [_] h6 rfl rfl ⟨rfl, trivial⟩ rfl) ?_ | refine callK_rft rfl (EvR.fr [_] h6 rfl rfl ⟨rfl, trivial⟩ rfl) ?_ | refine brP_f (nd_f rfl) ?_ | refine wpfS_seq1 ?_ | refine wpfS_go ?_ | fail) <;> conv => whnf)
          rw [hw2]
          exact ⟨(i + 1, e1, b1, p1, b1'), ⟨hi', hS1⟩, (show l.length - (i + 1) < l.length - i by omega), ⟨rfl, rfl, rfl, rfl, rfl, rfl, rfl, trivial⟩, rfl⟩
    · conv => whnf
      refine wpfS_go ?_
      conv => whnf
      repeat' ((first | refine brP_t (by assumption) ?_ | refine brP_f (by assumption) ?_ | refine brP_t (decide_eq_true (by omega)) ?_ | refine brP_f (decide_eq_false (by omega)) ?_ | refine brP_t (nd_t (by omega)) ?_ | refine brP_f (nd_f (by omega)) ?_ | refine callK_p L05_alive_ok ?_ | refine callM_p L05_alive_ok rfl ?_ | refine callK_pf rfl L05_alive_ok ?_ | refine wpfS_seq1 ?_ | refine wpfS_go ?_ | fail) <;> conv => whnf)
      rfl
end Go.Ab.S
