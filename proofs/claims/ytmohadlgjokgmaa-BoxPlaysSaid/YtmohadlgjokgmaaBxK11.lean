/- What was set aside, and let, or not, and restored, waits as if nothing had been. No condition. -/
import Derived.Test.YtmohadlgjokgmaaBxK10
set_option linter.unusedSimpArgs false
set_option linter.unusedVariables false
namespace Go.Ab.S
open Go Go.Ab Go.Proofs
attribute [local irreducible] SemS
set_option maxRecDepth 100000
theorem back1 {r0 : List PV} {ls : List Blk} : backH [.par 0] ⟨[.row r0], ls⟩ ⟨[.row r0], []⟩ = ⟨[.row r0], ls⟩ := by
  show (⟨[.row r0], ls ++ []⟩ : Hp) = _; rw [List.append_nil]
theorem fnK1 {g : FuncId} {r0 : List PV} {a : List Msg} {k : Msg → Bool} (h : ∀ m ∈ a, EvR PR G g [.agg m.row, .c (.ptr (.par 0) 0)] ⟨[.row r0], []⟩ (bv (k m)) ⟨[.row r0], []⟩) : FnK g [.par 0] (fun _ => [.row r0]) a k := fun i hi ls => by
  have := EvR.fr (H := ⟨[.row r0], ls⟩) [.par 0] (h _ (List.getElem_mem hi)) rfl rfl ⟨rfl, trivial⟩ rfl
  rw [back1] at this
  exact this
theorem fnM1 {g : FuncId} {r0 : List PV} {m : Msg} {cs : List PV} (h : EvR PR G g [.agg m.row, .c (.ptr (.par 0) 0)] ⟨[.row r0], []⟩ (.agg cs) ⟨[.row r0], []⟩) : FnM g [.par 0] [.row r0] m (.agg cs) := fun ls => by
  have := EvR.fr (H := ⟨[.row r0], ls⟩) [.par 0] h rfl rfl ⟨rfl, trivial⟩ rfl
  rw [back1] at this
  exact this
theorem Restores_1_ok (m : Msg) (n : Int) : EvR PR G f_L23_BoxRestores_1 [.agg m.row, .c (.ptr (.par 0) 0)] ⟨[.row [.int .i64 n]], []⟩ (bv (decide (m.role = n))) ⟨[.row [.int .i64 n]], []⟩ := by
  obtain ⟨no, ep, s, i', role, used, data⟩ := m
  refine EvR.of_wpfC false true hm c_L23_BoxRestores_1 rfl rfl ?_
  conv => whnf
  repeat' ((first | refine brP_t (by assumption) ?_ | refine brP_f (by assumption) ?_ | refine brP_t (decide_eq_true (by omega)) ?_ | refine brP_f (decide_eq_false (by omega)) ?_ | refine brP_t (nd_t (by omega)) ?_ | refine brP_f (nd_f (by omega)) ?_ | refine wpfS_seq1 ?_ | refine wpfS_go ?_ | fail) <;> conv => whnf)
  exact ⟨rfl, rfl⟩
def rmsg (i : Nat) (s : List UInt8) : Msg := ⟨0, 0, 0, 0, (i : Int).tmod 4, 0, s⟩
theorem tmod4 (i : Nat) : 0 ≤ (i : Int).tmod 4 ∧ (i : Int).tmod 4 < 4 := by
  rw [Int.tmod_eq_emod_of_nonneg (Int.natCast_nonneg i)]; omega
def resT (l : List (List UInt8)) (more : List UInt8) (n : Int) (lt : Bool) (i : Nat) : Tm := [(11, iv i), (9, .c (.ptr (.loc 1) 0)), (10, .c (.ptr (.loc 2) 0)), (6, .c (.ptr (.loc 0) 0)), (0, slv (strsR l)), (1, .c (.p (.str more))), (3, bv lt)]
def bxr (b : Bx) : Blk := .row [.int .i64 b.next, .sl (msgs b.q), .sl (msgs b.a), .sl (msgs b.h)]
def resH (n : Int) (b c : Bx) : Hp := ⟨[], [.row [.int .i64 n], bxr b, bxr c]⟩
/-- What the mailbox comes to that was set aside and let. -/
def letB (lt : Bool) (n : Int) (b : Bx) : Bx := if lt then b.aside.letK (fun m => decide (m.role = n)) else b.aside
theorem letB_next {lt : Bool} {n : Int} {b : Bx} : (letB lt n b).next = b.next := by cases lt <;> rfl
theorem letB_good {lt : Bool} {n : Int} {b : Bx} (h : b.Good) : (letB lt n b).Good := by
  cases lt
  · exact h.aside
  · exact h.aside.letK _
theorem aside_perm (b : Bx) : b.aside.all.Perm b.all := by
  show ([] ++ isort (b.a ++ b.q) ++ b.h).Perm (b.q ++ b.a ++ b.h)
  exact ((isort_perm _).trans List.perm_append_comm).append_right _
theorem let_perm (b : Bx) (k : Msg → Bool) : (b.letK k).all.Perm b.all := by
  show (isort (b.q ++ b.a.filter k) ++ [] ++ isort (b.h ++ b.a.filter fun m => !k m)).Perm (b.q ++ b.a ++ b.h)
  rw [List.append_nil, List.append_assoc]
  refine ((isort_perm _).append (isort_perm _)).trans ?_
  rw [List.append_assoc]
  refine List.Perm.append_left b.q ?_
  refine (List.Perm.append_left (b.a.filter k) List.perm_append_comm).trans ?_
  rw [← List.append_assoc]
  exact (List.filter_append_perm k b.a).append_right b.h
theorem letB_perm (lt : Bool) (n : Int) (b : Bx) : (letB lt n b).all.Perm b.all := by
  cases lt
  · exact aside_perm b
  · exact (let_perm _ _).trans (aside_perm b)
theorem put_all (b : Bx) (m : Msg) : (b.put m).all.Perm ({ m with no := b.next } :: b.all) := by
  show (b.q ++ [{ m with no := b.next }] ++ b.a ++ b.h).Perm (_ :: (b.q ++ b.a ++ b.h))
  rw [List.append_assoc, List.append_assoc, List.append_assoc]
  exact List.perm_middle
/-- All wait again. -/
theorem restore_of {b : Bx} {n : Nat} {q : List Msg} (hq : (qbox n q).Good) (hn : b.next = n) (p : b.all.Perm q) : b.restore = qbox n q := by
  have hd : Dif q := hq.q.dif
  have e : isort b.all = q := (isort_congr (hd.perm p.symm) p).trans (isort_of_str hq.q)
  show Bx.mk b.next (isort b.all) [] [] = _
  rw [e, hn]; rfl
theorem putR_lt {b : Bx} {m : Msg} (h1 : b.len < 8) (h2 : b.next < 2147483647) : putR b m = (b.put m, 0) := by
  unfold putR; rw [if_neg (by omega)]
set_option maxHeartbeats 4000000 in
theorem boxRestores_ok (l : List (List UInt8)) (hl63 : l.length < 2 ^ 63) (more : List UInt8) (n : Int) (lt : Bool) : EvP PR G f_L23_BoxRestores [slv (strsR l), .c (.p (.str more)), iv n, bv lt] (bv true) := by
  have hlen := strsR_len (l := l)
  refine EvP.of_wpf false hm c_L23_BoxRestores rfl ?_
  refine wpf_seq1 ?_
  conv => whnf
  repeat' ((first | refine brP_t (by assumption) ?_ | refine brP_f (by assumption) ?_ | refine brP_t (decide_eq_true (by omega)) ?_ | refine brP_f (decide_eq_false (by omega)) ?_ | refine brP_t (nd_t (by omega)) ?_ | refine brP_f (nd_f (by omega)) ?_ | refine wpfS_seq1 ?_ | refine wpfS_go ?_ | fail) <;> conv => whnf)
  refine SemS.weak (weak_bx0 _ (.loc 1) rfl) ?_
  refine SemS.weak (weak_bx0 _ (.loc 2) rfl) ?_
  refine SemS.loopC false hm (σ := Nat × List Msg) (fun s => resT l more n lt s.1) (fun s => resH n (qbox s.1 s.2) (qbox s.1 s.2)) (fun s => l.length - s.1)
    (fun s => s.1 ≤ l.length ∧ s.1 ≤ 8 ∧ s.2.length = s.1 ∧ (qbox s.1 s.2).Good) (0, []) ⟨Nat.zero_le _, Nat.zero_le _, rfl, Bx.fine_iff.1 rfl⟩ ⟨rfl, rfl, rfl, rfl, rfl, rfl, rfl, trivial⟩ rfl ?_
  rintro ⟨i, q⟩ ⟨hi, hi8, hql, hg⟩
  dsimp only at hi hi8 hql hg ⊢
  unfold resT resH bxr
  have hbl : (qbox i q).len = i := by rw [qbox_len, hql]
  refine wpf_seq1 ?_
  conv => whnf
  by_cases hi' : i < l.length ∧ i < 8
  · have hget := strsR_get hi'.1
    have hw2 : IntKind.i64.wrap ((i : Int) + 1) = ((i + 1 : Nat) : Int) := by rw [wrap64 (by omega)]; rfl
    obtain ⟨hi1, hi2⟩ := hi'
    generalize l[i] = s at *
    by_cases hs : 32 < s.length
    · repeat' ((first | refine brP_t (by assumption) ?_ | refine brP_f (by assumption) ?_ | refine brP_t (decide_eq_true (by omega)) ?_ | refine brP_f (decide_eq_false (by omega)) ?_ | refine brP_t (nd_t (by omega)) ?_ | refine brP_f (nd_f (by omega)) ?_ | ((rw [hlen])) | ((conv in (opS _ _ _ _) => whnf); rw [Int.toNat_natCast, hget]) | ((conv in (opM _ _ _ _ _) => whnf); (conv in (opS _ _ _ _) => whnf); rw [Int.toNat_natCast, hget]) | refine callK_p L23_alive_ok ?_ | refine callM_p L23_alive_ok rfl ?_ | refine callK_pf rfl L23_alive_ok ?_ | refine wpfS_seq1 ?_ | refine wpfS_go ?_ | fail) <;> conv => whnf)
      rfl
    have cp := box_Put_ok (qbox i q) (rmsg i s) (by rw [hbl]; omega) ⟨by show _ ≤ (i : Int); omega, by show (i : Int) < _; omega⟩
    have hmf : (rmsg i s).fine = true := by
      have := tmod4 i
      rw [Msg.fine_iff]
      exact ⟨Int.le_refl _, by show (0 : Int) ≤ _; omega, Int.le_refl _, by show (0 : Int) ≤ _; omega, this.1, by show (i : Int).tmod 4 ≤ 15; omega, by show s.length ≤ 32; omega⟩
    have hgp := hg.put hmf (by rw [hbl]; omega) (by show (i : Int) < _; omega)
    rw [putR_lt (by rw [hbl]; omega) (by show (i : Int) < _; omega)] at cp
    have ep : (qbox i q).put (rmsg i s) = qbox (i + 1) (q ++ [{ rmsg i s with no := i }]) := rfl
    rw [ep] at cp hgp
    repeat' ((first | refine brP_t (by assumption) ?_ | refine brP_f (by assumption) ?_ | refine brP_t (decide_eq_true (by omega)) ?_ | refine brP_f (decide_eq_false (by omega)) ?_ | refine brP_t (nd_t (by omega)) ?_ | refine brP_f (nd_f (by omega)) ?_ | ((rw [hlen])) | ((conv in (opS _ _ _ _) => whnf); rw [Int.toNat_natCast, hget]) | ((conv in (opM _ _ _ _ _) => whnf); (conv in (opS _ _ _ _) => whnf); rw [Int.toNat_natCast, hget]) | refine callK_p cp ?_ | refine callM_p cp rfl ?_ | refine callK_pf rfl cp ?_ | ((rw [hw2])) | refine wpfS_seq1 ?_ | refine wpfS_go ?_ | fail) <;> conv => whnf)
    refine ⟨(i + 1, q ++ [{ rmsg i s with no := i }]), 3, ⟨hi1, hi2, by simp [hql], hgp⟩, (show l.length - (i + 1) < l.length - i by omega), ⟨rfl, rfl, rfl, rfl, rfl, rfl, rfl, trivial⟩, Nat.le_refl _, rfl, rfl, rfl⟩
  · have c1 := box_SetAside_ok (qbox i q) (by rw [hbl]; omega)
    have hg1 := hg.aside
    have hll : (qbox i q).aside.len ≤ 19 := Nat.le_trans hg1.len (by decide)
    have hlt := hi'
    cases lt with
    | true =>
      have c2 : EvR PR G f_box_Let [.agg (qbox i q).aside.row, .c (.fn f_L23_BoxRestores_1 [.par 0])] ⟨[.row [.int .i64 n]], []⟩ (.agg (letB true n (qbox i q)).row) ⟨[.row [.int .i64 n]], []⟩ :=
        box_Let_ok f_L23_BoxRestores_1 [.par 0] (fun _ => [.row [.int .i64 n]]) (fun _ => rfl) (fun _ _ => rfl) (fun m => decide (m.role = n)) (qbox i q).aside hll (fnK1 fun m _ => Restores_1_ok m n)
      have hgl := letB_good (lt := true) (n := n) hg
      have hpl := letB_perm true n (qbox i q)
      have hnl : (letB true n (qbox i q)).next = i := letB_next
      have hlb : (letB true n (qbox i q)).len = i := by rw [← Bx.all_len, hpl.length_eq, Bx.all_len, hbl]
      have hqa : (qbox i q).all = q := by simp [qbox, Bx.all]
      rw [hqa] at hpl
      generalize letB true n (qbox i q) = B at *
      by_cases hmo : more.length ≤ 32 ∧ l.length < 8
      · obtain ⟨hmo1, hmo2⟩ := hmo
        have hmf : (smsg more).fine = true := Msg.fine_iff.2 ⟨Int.le_refl _, by show (0 : Int) ≤ 2147483647; decide, Int.le_refl _, by show (0 : Int) ≤ 255; decide, Int.le_refl _, by show (0 : Int) ≤ 15; decide, hmo1⟩
        have hB8 : B.len < 8 := by omega
        have d1 := box_Put_ok B (smsg more) (by omega) ⟨by omega, by omega⟩
        have d2 := box_Put_ok (qbox i q) (smsg more) (by rw [hbl]; omega) ⟨by show _ ≤ (i : Int); omega, by show (i : Int) < _; omega⟩
        rw [putR_lt hB8 (by omega)] at d1
        rw [putR_lt (by rw [hbl]; omega) (by show (i : Int) < _; omega)] at d2
        have hgB := hgl.put hmf hB8 (by omega)
        have hgc := hg.put hmf (by rw [hbl]; omega) (by show (i : Int) < _; omega)
        have ec : (qbox i q).put (smsg more) = qbox (i + 1) (q ++ [{ smsg more with no := i }]) := rfl
        rw [ec] at d2 hgc
        have hpB := put_all B (smsg more)
        rw [hnl] at hpB
        have hres := restore_of hgc (show (B.put (smsg more)).next = ((i + 1 : Nat) : Int) by show B.next + 1 = _; rw [hnl]; rfl) ((hpB.trans (hpl.cons _)).trans (List.perm_append_comm (l₁ := [_])))
        have hq19 : (q ++ [{ smsg more with no := i }]).length ≤ 19 := by simp; omega
        have d3 := box_Restore_ok (B.put (smsg more)) (Nat.le_trans hgB.len (by decide))
        rw [hres] at d3
        have d5 := box_Fine_ok (B.put (smsg more)) (Nat.lt_of_le_of_lt hgB.len (by decide))
        rw [Bx.fine_iff.2 hgB] at d5
        generalize q ++ [{ smsg more with no := i }] = q1 at *
        have d4 := box_Same_ok (qbox (i + 1) q1) (qbox (i + 1) q1) (by show q1.length < _; omega) (by show 0 < 2 ^ 63; decide) (by show 0 < 2 ^ 63; decide)
        rw [decide_eq_true rfl] at d4
        generalize B.put (smsg more) = B' at *
        repeat' ((first | refine brP_t (by assumption) ?_ | refine brP_f (by assumption) ?_ | refine brP_t (decide_eq_true (by omega)) ?_ | refine brP_f (decide_eq_false (by omega)) ?_ | refine brP_t (nd_t (by omega)) ?_ | refine brP_f (nd_f (by omega)) ?_ | ((rw [hlen])) | refine callK_p c1 ?_ | refine callM_p c1 rfl ?_ | refine callK_pf rfl c1 ?_ | refine callK_r (EvR.fr [_] c2 rfl rfl ⟨rfl, trivial⟩ rfl) ?_ | refine callM_l (LEv.fr [_] c2 rfl rfl ⟨rfl, trivial⟩ rfl rfl) ?_ | refine callK_rt (EvR.fr [_] c2 rfl rfl ⟨rfl, trivial⟩ rfl) ?_ | refine callK_rf rfl (EvR.fr [_] c2 rfl rfl ⟨rfl, trivial⟩ rfl) ?_ | refine callK_rft rfl (EvR.fr [_] c2 rfl rfl ⟨rfl, trivial⟩ rfl) ?_ | refine callK_p d1 ?_ | refine callM_p d1 rfl ?_ | refine callK_pf rfl d1 ?_ | refine callK_p d2 ?_ | refine callM_p d2 rfl ?_ | refine callK_pf rfl d2 ?_ | refine callK_p d3 ?_ | refine callM_p d3 rfl ?_ | refine callK_pf rfl d3 ?_ | refine callK_p d4 ?_ | refine callM_p d4 rfl ?_ | refine callK_pf rfl d4 ?_ | refine callK_p d5 ?_ | refine callM_p d5 rfl ?_ | refine callK_pf rfl d5 ?_ | refine callK_p L23_alive_ok ?_ | refine callM_p L23_alive_ok rfl ?_ | refine callK_pf rfl L23_alive_ok ?_ | refine wpfS_seq1 ?_ | refine wpfS_go ?_ | fail) <;> conv => whnf)
        rfl
      · have hres := restore_of hg hnl hpl
        have d3 := box_Restore_ok B (by omega)
        rw [hres] at d3
        have d5 := box_Fine_ok B (by omega)
        rw [Bx.fine_iff.2 hgl] at d5
        have d4 := box_Same_ok (qbox i q) (qbox i q) (by show q.length < _; omega) (by show 0 < 2 ^ 63; decide) (by show 0 < 2 ^ 63; decide)
        rw [decide_eq_true rfl] at d4
        by_cases hmo1 : more.length ≤ 32
        · have hmo2 : ¬ l.length < 8 := fun h => hmo ⟨hmo1, h⟩
          by_cases hil : i < l.length
          · repeat' ((first | refine brP_t (by assumption) ?_ | refine brP_f (by assumption) ?_ | refine brP_t (decide_eq_true (by omega)) ?_ | refine brP_f (decide_eq_false (by omega)) ?_ | refine brP_t (nd_t (by omega)) ?_ | refine brP_f (nd_f (by omega)) ?_ | ((rw [hlen])) | refine callK_p c1 ?_ | refine callM_p c1 rfl ?_ | refine callK_pf rfl c1 ?_ | refine callK_r (EvR.fr [_] c2 rfl rfl ⟨rfl, trivial⟩ rfl) ?_ | refine callM_l (LEv.fr [_] c2 rfl rfl ⟨rfl, trivial⟩ rfl rfl) ?_ | refine callK_rt (EvR.fr [_] c2 rfl rfl ⟨rfl, trivial⟩ rfl) ?_ | refine callK_rf rfl (EvR.fr [_] c2 rfl rfl ⟨rfl, trivial⟩ rfl) ?_ | refine callK_rft rfl (EvR.fr [_] c2 rfl rfl ⟨rfl, trivial⟩ rfl) ?_ | refine callK_p d3 ?_ | refine callM_p d3 rfl ?_ | refine callK_pf rfl d3 ?_ | refine callK_p d4 ?_ | refine callM_p d4 rfl ?_ | refine callK_pf rfl d4 ?_ | refine callK_p d5 ?_ | refine callM_p d5 rfl ?_ | refine callK_pf rfl d5 ?_ | refine callK_p L23_alive_ok ?_ | refine callM_p L23_alive_ok rfl ?_ | refine callK_pf rfl L23_alive_ok ?_ | refine wpfS_seq1 ?_ | refine wpfS_go ?_ | fail) <;> conv => whnf)
            rfl
          · repeat' ((first | refine brP_t (by assumption) ?_ | refine brP_f (by assumption) ?_ | refine brP_t (decide_eq_true (by omega)) ?_ | refine brP_f (decide_eq_false (by omega)) ?_ | refine brP_t (nd_t (by omega)) ?_ | refine brP_f (nd_f (by omega)) ?_ | ((rw [hlen])) | refine callK_p c1 ?_ | refine callM_p c1 rfl ?_ | refine callK_pf rfl c1 ?_ | refine callK_r (EvR.fr [_] c2 rfl rfl ⟨rfl, trivial⟩ rfl) ?_ | refine callM_l (LEv.fr [_] c2 rfl rfl ⟨rfl, trivial⟩ rfl rfl) ?_ | refine callK_rt (EvR.fr [_] c2 rfl rfl ⟨rfl, trivial⟩ rfl) ?_ | refine callK_rf rfl (EvR.fr [_] c2 rfl rfl ⟨rfl, trivial⟩ rfl) ?_ | refine callK_rft rfl (EvR.fr [_] c2 rfl rfl ⟨rfl, trivial⟩ rfl) ?_ | refine callK_p d3 ?_ | refine callM_p d3 rfl ?_ | refine callK_pf rfl d3 ?_ | refine callK_p d4 ?_ | refine callM_p d4 rfl ?_ | refine callK_pf rfl d4 ?_ | refine callK_p d5 ?_ | refine callM_p d5 rfl ?_ | refine callK_pf rfl d5 ?_ | refine callK_p L23_alive_ok ?_ | refine callM_p L23_alive_ok rfl ?_ | refine callK_pf rfl L23_alive_ok ?_ | refine wpfS_seq1 ?_ | refine wpfS_go ?_ | fail) <;> conv => whnf)
            rfl
        · by_cases hil : i < l.length
          · repeat' ((first | refine brP_t (by assumption) ?_ | refine brP_f (by assumption) ?_ | refine brP_t (decide_eq_true (by omega)) ?_ | refine brP_f (decide_eq_false (by omega)) ?_ | refine brP_t (nd_t (by omega)) ?_ | refine brP_f (nd_f (by omega)) ?_ | ((rw [hlen])) | refine callK_p c1 ?_ | refine callM_p c1 rfl ?_ | refine callK_pf rfl c1 ?_ | refine callK_r (EvR.fr [_] c2 rfl rfl ⟨rfl, trivial⟩ rfl) ?_ | refine callM_l (LEv.fr [_] c2 rfl rfl ⟨rfl, trivial⟩ rfl rfl) ?_ | refine callK_rt (EvR.fr [_] c2 rfl rfl ⟨rfl, trivial⟩ rfl) ?_ | refine callK_rf rfl (EvR.fr [_] c2 rfl rfl ⟨rfl, trivial⟩ rfl) ?_ | refine callK_rft rfl (EvR.fr [_] c2 rfl rfl ⟨rfl, trivial⟩ rfl) ?_ | refine callK_p d3 ?_ | refine callM_p d3 rfl ?_ | refine callK_pf rfl d3 ?_ | refine callK_p d4 ?_ | refine callM_p d4 rfl ?_ | refine callK_pf rfl d4 ?_ | refine callK_p d5 ?_ | refine callM_p d5 rfl ?_ | refine callK_pf rfl d5 ?_ | refine callK_p L23_alive_ok ?_ | refine callM_p L23_alive_ok rfl ?_ | refine callK_pf rfl L23_alive_ok ?_ | refine wpfS_seq1 ?_ | refine wpfS_go ?_ | fail) <;> conv => whnf)
            rfl
          · repeat' ((first | refine brP_t (by assumption) ?_ | refine brP_f (by assumption) ?_ | refine brP_t (decide_eq_true (by omega)) ?_ | refine brP_f (decide_eq_false (by omega)) ?_ | refine brP_t (nd_t (by omega)) ?_ | refine brP_f (nd_f (by omega)) ?_ | ((rw [hlen])) | refine callK_p c1 ?_ | refine callM_p c1 rfl ?_ | refine callK_pf rfl c1 ?_ | refine callK_r (EvR.fr [_] c2 rfl rfl ⟨rfl, trivial⟩ rfl) ?_ | refine callM_l (LEv.fr [_] c2 rfl rfl ⟨rfl, trivial⟩ rfl rfl) ?_ | refine callK_rt (EvR.fr [_] c2 rfl rfl ⟨rfl, trivial⟩ rfl) ?_ | refine callK_rf rfl (EvR.fr [_] c2 rfl rfl ⟨rfl, trivial⟩ rfl) ?_ | refine callK_rft rfl (EvR.fr [_] c2 rfl rfl ⟨rfl, trivial⟩ rfl) ?_ | refine callK_p d3 ?_ | refine callM_p d3 rfl ?_ | refine callK_pf rfl d3 ?_ | refine callK_p d4 ?_ | refine callM_p d4 rfl ?_ | refine callK_pf rfl d4 ?_ | refine callK_p d5 ?_ | refine callM_p d5 rfl ?_ | refine callK_pf rfl d5 ?_ | refine callK_p L23_alive_ok ?_ | refine callM_p L23_alive_ok rfl ?_ | refine callK_pf rfl L23_alive_ok ?_ | refine wpfS_seq1 ?_ | refine wpfS_go ?_ | fail) <;> conv => whnf)
            rfl
    | false =>
      have c1 : EvP PR G f_box_SetAside [.agg (qbox i q).row] (.agg (letB false n (qbox i q)).row) := c1
      have hgl := letB_good (lt := false) (n := n) hg
      have hpl := letB_perm false n (qbox i q)
      have hnl : (letB false n (qbox i q)).next = i := letB_next
      have hlb : (letB false n (qbox i q)).len = i := by rw [← Bx.all_len, hpl.length_eq, Bx.all_len, hbl]
      have hqa : (qbox i q).all = q := by simp [qbox, Bx.all]
      rw [hqa] at hpl
      generalize letB false n (qbox i q) = B at *
      by_cases hmo : more.length ≤ 32 ∧ l.length < 8
      · obtain ⟨hmo1, hmo2⟩ := hmo
        have hmf : (smsg more).fine = true := Msg.fine_iff.2 ⟨Int.le_refl _, by show (0 : Int) ≤ 2147483647; decide, Int.le_refl _, by show (0 : Int) ≤ 255; decide, Int.le_refl _, by show (0 : Int) ≤ 15; decide, hmo1⟩
        have hB8 : B.len < 8 := by omega
        have d1 := box_Put_ok B (smsg more) (by omega) ⟨by omega, by omega⟩
        have d2 := box_Put_ok (qbox i q) (smsg more) (by rw [hbl]; omega) ⟨by show _ ≤ (i : Int); omega, by show (i : Int) < _; omega⟩
        rw [putR_lt hB8 (by omega)] at d1
        rw [putR_lt (by rw [hbl]; omega) (by show (i : Int) < _; omega)] at d2
        have hgB := hgl.put hmf hB8 (by omega)
        have hgc := hg.put hmf (by rw [hbl]; omega) (by show (i : Int) < _; omega)
        have ec : (qbox i q).put (smsg more) = qbox (i + 1) (q ++ [{ smsg more with no := i }]) := rfl
        rw [ec] at d2 hgc
        have hpB := put_all B (smsg more)
        rw [hnl] at hpB
        have hres := restore_of hgc (show (B.put (smsg more)).next = ((i + 1 : Nat) : Int) by show B.next + 1 = _; rw [hnl]; rfl) ((hpB.trans (hpl.cons _)).trans (List.perm_append_comm (l₁ := [_])))
        have hq19 : (q ++ [{ smsg more with no := i }]).length ≤ 19 := by simp; omega
        have d3 := box_Restore_ok (B.put (smsg more)) (Nat.le_trans hgB.len (by decide))
        rw [hres] at d3
        have d5 := box_Fine_ok (B.put (smsg more)) (Nat.lt_of_le_of_lt hgB.len (by decide))
        rw [Bx.fine_iff.2 hgB] at d5
        generalize q ++ [{ smsg more with no := i }] = q1 at *
        have d4 := box_Same_ok (qbox (i + 1) q1) (qbox (i + 1) q1) (by show q1.length < _; omega) (by show 0 < 2 ^ 63; decide) (by show 0 < 2 ^ 63; decide)
        rw [decide_eq_true rfl] at d4
        generalize B.put (smsg more) = B' at *
        repeat' ((first | refine brP_t (by assumption) ?_ | refine brP_f (by assumption) ?_ | refine brP_t (decide_eq_true (by omega)) ?_ | refine brP_f (decide_eq_false (by omega)) ?_ | refine brP_t (nd_t (by omega)) ?_ | refine brP_f (nd_f (by omega)) ?_ | ((rw [hlen])) | refine callK_p c1 ?_ | refine callM_p c1 rfl ?_ | refine callK_pf rfl c1 ?_ | refine callK_p d1 ?_ | refine callM_p d1 rfl ?_ | refine callK_pf rfl d1 ?_ | refine callK_p d2 ?_ | refine callM_p d2 rfl ?_ | refine callK_pf rfl d2 ?_ | refine callK_p d3 ?_ | refine callM_p d3 rfl ?_ | refine callK_pf rfl d3 ?_ | refine callK_p d4 ?_ | refine callM_p d4 rfl ?_ | refine callK_pf rfl d4 ?_ | refine callK_p d5 ?_ | refine callM_p d5 rfl ?_ | refine callK_pf rfl d5 ?_ | refine callK_p L23_alive_ok ?_ | refine callM_p L23_alive_ok rfl ?_ | refine callK_pf rfl L23_alive_ok ?_ | refine wpfS_seq1 ?_ | refine wpfS_go ?_ | fail) <;> conv => whnf)
        rfl
      · have hres := restore_of hg hnl hpl
        have d3 := box_Restore_ok B (by omega)
        rw [hres] at d3
        have d5 := box_Fine_ok B (by omega)
        rw [Bx.fine_iff.2 hgl] at d5
        have d4 := box_Same_ok (qbox i q) (qbox i q) (by show q.length < _; omega) (by show 0 < 2 ^ 63; decide) (by show 0 < 2 ^ 63; decide)
        rw [decide_eq_true rfl] at d4
        by_cases hmo1 : more.length ≤ 32
        · have hmo2 : ¬ l.length < 8 := fun h => hmo ⟨hmo1, h⟩
          by_cases hil : i < l.length
          · repeat' ((first | refine brP_t (by assumption) ?_ | refine brP_f (by assumption) ?_ | refine brP_t (decide_eq_true (by omega)) ?_ | refine brP_f (decide_eq_false (by omega)) ?_ | refine brP_t (nd_t (by omega)) ?_ | refine brP_f (nd_f (by omega)) ?_ | ((rw [hlen])) | refine callK_p c1 ?_ | refine callM_p c1 rfl ?_ | refine callK_pf rfl c1 ?_ | refine callK_p d3 ?_ | refine callM_p d3 rfl ?_ | refine callK_pf rfl d3 ?_ | refine callK_p d4 ?_ | refine callM_p d4 rfl ?_ | refine callK_pf rfl d4 ?_ | refine callK_p d5 ?_ | refine callM_p d5 rfl ?_ | refine callK_pf rfl d5 ?_ | refine callK_p L23_alive_ok ?_ | refine callM_p L23_alive_ok rfl ?_ | refine callK_pf rfl L23_alive_ok ?_ | refine wpfS_seq1 ?_ | refine wpfS_go ?_ | fail) <;> conv => whnf)
            rfl
          · repeat' ((first | refine brP_t (by assumption) ?_ | refine brP_f (by assumption) ?_ | refine brP_t (decide_eq_true (by omega)) ?_ | refine brP_f (decide_eq_false (by omega)) ?_ | refine brP_t (nd_t (by omega)) ?_ | refine brP_f (nd_f (by omega)) ?_ | ((rw [hlen])) | refine callK_p c1 ?_ | refine callM_p c1 rfl ?_ | refine callK_pf rfl c1 ?_ | refine callK_p d3 ?_ | refine callM_p d3 rfl ?_ | refine callK_pf rfl d3 ?_ | refine callK_p d4 ?_ | refine callM_p d4 rfl ?_ | refine callK_pf rfl d4 ?_ | refine callK_p d5 ?_ | refine callM_p d5 rfl ?_ | refine callK_pf rfl d5 ?_ | refine callK_p L23_alive_ok ?_ | refine callM_p L23_alive_ok rfl ?_ | refine callK_pf rfl L23_alive_ok ?_ | refine wpfS_seq1 ?_ | refine wpfS_go ?_ | fail) <;> conv => whnf)
            rfl
        · by_cases hil : i < l.length
          · repeat' ((first | refine brP_t (by assumption) ?_ | refine brP_f (by assumption) ?_ | refine brP_t (decide_eq_true (by omega)) ?_ | refine brP_f (decide_eq_false (by omega)) ?_ | refine brP_t (nd_t (by omega)) ?_ | refine brP_f (nd_f (by omega)) ?_ | ((rw [hlen])) | refine callK_p c1 ?_ | refine callM_p c1 rfl ?_ | refine callK_pf rfl c1 ?_ | refine callK_p d3 ?_ | refine callM_p d3 rfl ?_ | refine callK_pf rfl d3 ?_ | refine callK_p d4 ?_ | refine callM_p d4 rfl ?_ | refine callK_pf rfl d4 ?_ | refine callK_p d5 ?_ | refine callM_p d5 rfl ?_ | refine callK_pf rfl d5 ?_ | refine callK_p L23_alive_ok ?_ | refine callM_p L23_alive_ok rfl ?_ | refine callK_pf rfl L23_alive_ok ?_ | refine wpfS_seq1 ?_ | refine wpfS_go ?_ | fail) <;> conv => whnf)
            rfl
          · repeat' ((first | refine brP_t (by assumption) ?_ | refine brP_f (by assumption) ?_ | refine brP_t (decide_eq_true (by omega)) ?_ | refine brP_f (decide_eq_false (by omega)) ?_ | refine brP_t (nd_t (by omega)) ?_ | refine brP_f (nd_f (by omega)) ?_ | ((rw [hlen])) | refine callK_p c1 ?_ | refine callM_p c1 rfl ?_ | refine callK_pf rfl c1 ?_ | refine callK_p d3 ?_ | refine callM_p d3 rfl ?_ | refine callK_pf rfl d3 ?_ | refine callK_p d4 ?_ | refine callM_p d4 rfl ?_ | refine callK_pf rfl d4 ?_ | refine callK_p d5 ?_ | refine callM_p d5 rfl ?_ | refine callK_pf rfl d5 ?_ | refine callK_p L23_alive_ok ?_ | refine callM_p L23_alive_ok rfl ?_ | refine callK_pf rfl L23_alive_ok ?_ | refine wpfS_seq1 ?_ | refine wpfS_go ?_ | fail) <;> conv => whnf)
            rfl
theorem law_boxRestores (pvss : List (List PV)) (hw : wts [.sl 1 16 .str, .str, .int .i64, .bool] pvss) : EvP PR G f_L23_BoxRestores (argAVs [.sl 1 16 .str, .str, .int .i64, .bool] pvss) (.c (.p (.bool true))) := by
  obtain ⟨a, _, rfl, ha, hw⟩ := wts_cons hw
  obtain ⟨b, _, rfl, hb, hw⟩ := wts_cons hw
  obtain ⟨c, _, rfl, hc, hw⟩ := wts_cons hw
  obtain ⟨d, _, rfl, hd, hw⟩ := wts_cons hw
  cases wts_nil hw
  obtain ⟨es, rfl, -, hl, hes⟩ := ha
  obtain ⟨l, rfl⟩ := strs_of hes
  obtain ⟨s, rfl, -⟩ := hb
  obtain ⟨n, rfl, -, -⟩ := hc
  obtain ⟨t, rfl⟩ := hd
  rw [strsR_len] at hl
  exact boxRestores_ok l (len63 hl) s n t
end Go.Ab.S
