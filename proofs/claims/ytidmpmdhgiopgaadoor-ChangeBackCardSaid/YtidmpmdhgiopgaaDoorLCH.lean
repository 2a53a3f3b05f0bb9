/- Reading an update. No condition. Reading an update, by the document. No condition. -/
import Derived.Test.YtidmpmdhgiopgaaDoorLCF
set_option linter.unusedSimpArgs false
set_option linter.unusedVariables false
namespace Go.Ab.S
open Go Go.Ab Go.Proofs
attribute [local irreducible] SemS
set_option maxRecDepth 100000
def St.k3 (keep : Bool) (s : St) : St := ((s.num keep 1 255).num keep 1 255).num keep 1 255
def St.k5 (keep : Bool) (s : St) : St := ((s.k3 keep).num keep 2 65535).num keep 2 65535
def Chg.rd0 (keep : Bool) (s : St) : Chg := ⟨s.nv 1 255, (s.num keep 1 255).nv 1 255, ((s.num keep 1 255).num keep 1 255).nv 1 255, ((s.k3 keep).nv 2 65535).toNat, (((s.k3 keep).num keep 2 65535).nv 2 65535).toNat⟩
def Chg.rd1 (keep : Bool) (s : St) : St := if (Chg.rd0 keep s).fine = true then s.k5 keep else (s.k5 keep).fail 3
def rdGo (keep : Bool) : Nat → List Chg → St → List Chg × St
  | 0, o, s => (o, s)
  | n + 1, o, s => if s.e = 0 then rdGo keep n (o ++ [Chg.rd0 keep s]) (Chg.rd1 keep s) else (o, s)
def rdHd (keep : Bool) (s : St) : St := if 1 ≤ s.nv 1 255 ∧ s.nv 1 255 ≤ 6 then s.num keep 1 255 else (s.num keep 1 255).fail 5
def rdAll (keep : Bool) (s : St) : List Chg × St := rdGo keep (s.nv 1 255).toNat [] (rdHd keep s)
def rdC (keep : Bool) (s : St) : List Chg × St := ((if (rdAll keep s).2.e = 0 then (rdAll keep s).1 else []), (rdAll keep s).2)
theorem rdGo_stop {keep : Bool} {n : Nat} {o : List Chg} {s : St} (h : ¬ s.e = 0) : rdGo keep n o s = (o, s) := by
  cases n with
  | zero => rfl
  | succ n => show (if s.e = 0 then _ else _) = _; rw [if_neg h]
theorem rdGo_go {keep : Bool} {n : Nat} {o : List Chg} {s : St} (h : s.e = 0) : rdGo keep (n + 1) o s = rdGo keep n (o ++ [Chg.rd0 keep s]) (Chg.rd1 keep s) := by
  show (if s.e = 0 then _ else _) = _; rw [if_pos h]
theorem fail_ne {s : St} {x : Int} (hx : x ≠ 0) : ¬ (s.fail x).e = 0 := by
  show ¬ firstE s.e x = 0
  unfold firstE
  split
  · exact hx
  · assumption
theorem rdHd_bad {keep : Bool} {s : St} (h : ¬ (1 ≤ s.nv 1 255 ∧ s.nv 1 255 ≤ 6)) : ¬ (rdHd keep s).e = 0 := by
  unfold rdHd
  rw [if_neg h]
  exact fail_ne (by omega)
theorem app_ch {n : Nat} {x : List (List PV)} {r : List PV} (h1 : n = x.length) (hl : n ≤ 1000) (hr : r.length = 5) : (true && decide (n = x.length ∧ 5 = 5 ∧ (n + [r].length) * 32 ≤ 2 ^ 47 ∧ n + [r].length < 2 ^ 62) && [r].all fun r => r.length == 5) = true := by
  rw [Bool.true_and, decide_eq_true (by refine ⟨h1, rfl, ?_, ?_⟩ <;> simp <;> omega)]
  simp [hr]
theorem chgs_app (o : List Chg) (k a b : Int) (s i : Nat) : chgs (o ++ [⟨k, a, b, s, i⟩]) = chgs o ++ [[.int .i64 k, .int .i64 a, .int .i64 b, .int .u16 s, .int .u16 i]] := by unfold chgs; rw [List.map_append]; rfl
set_option maxHeartbeats 8000000 in
theorem change_Read_ok (s : St) : EvR PR G f_change_Read [.c (.ptr (.par 0) 0)] ⟨s.pr, []⟩ (slv (chgs (rdC true s).1)) ⟨(rdC true s).2.pr, []⟩ := by
  have hR : rdAll true s = rdGo true (s.nv 1 255).toNat [] (rdHd true s) := rfl
  have hbad := rdHd_bad (keep := true) (s := s)
  have hd : rdHd true s = if 1 ≤ s.nv 1 255 ∧ s.nv 1 255 ≤ 6 then s.num true 1 255 else (s.num true 1 255).fail 5 := rfl
  have c0 := pr_num s 1 255 (by omega)
  have hn := nv_range (s := s) (size := 1) (most := 255) (by omega)
  unfold rdC
  generalize rdAll true s = Q at *
  generalize rdHd true s = s2 at *
  generalize s.num true 1 255 = s1 at *
  generalize s.nv 1 255 = n at *
  have cf := pr_fail s1 5
  obtain ⟨n, rfl⟩ := Int.eq_ofNat_of_zero_le hn.1
  rw [Int.toNat_natCast] at hR
  refine EvR.of_wpfZ false true hm c_change_Read rfl ?_
  conv => whnf
  by_cases hok : 1 ≤ (n : Int) ∧ (n : Int) ≤ 6
  case neg =>
    rw [if_neg hok] at hd
    have hbad := hbad hok
    rw [rdGo_stop hbad] at hR
    subst hR
    dsimp only
    rw [if_neg hbad]
    subst hd
    have ce := pr_err (s1.fail 5)
    have hne : ¬ (s1.fail 5).e = 0 := hbad
    generalize s1.fail 5 = s3 at *
    by_cases hz : (n : Int) < 1
    · repeat' ((first | refine brP_t (by assumption) ?_ | refine brP_f (by assumption) ?_ | refine brP_t (decide_eq_true (by omega)) ?_ | refine brP_f (decide_eq_false (by omega)) ?_ | refine brP_t (nd_t (by omega)) ?_ | refine brP_f (nd_f (by omega)) ?_ | refine callK_r (EvR.fr [_] ce rfl rfl ⟨rfl, trivial⟩ rfl) ?_ | refine callM_l (LEv.fr [_] ce rfl rfl ⟨rfl, trivial⟩ rfl rfl) ?_ | refine callK_rt (EvR.fr [_] ce rfl rfl ⟨rfl, trivial⟩ rfl) ?_ | refine callK_rf rfl (EvR.fr [_] ce rfl rfl ⟨rfl, trivial⟩ rfl) ?_ | refine callK_rft rfl (EvR.fr [_] ce rfl rfl ⟨rfl, trivial⟩ rfl) ?_ | refine SemS.loop1 false hm ?_ | refine wpfS_seq1 ?_ | refine wpfS_go ?_ | fail) <;> conv => whnf)
      (first | refine callK_r (EvR.fr [_] c0 rfl rfl ⟨rfl, trivial⟩ rfl) ?_ | refine callM_l (LEv.fr [_] c0 rfl rfl ⟨rfl, trivial⟩ rfl rfl) ?_ | refine callK_rt (EvR.fr [_] c0 rfl rfl ⟨rfl, trivial⟩ rfl) ?_ | refine callK_rf rfl (EvR.fr [_] c0 rfl rfl ⟨rfl, trivial⟩ rfl) ?_ | refine callK_rft rfl (EvR.fr [_] c0 rfl rfl ⟨rfl, trivial⟩ rfl) ?_)
      conv => whnf
      repeat' ((first | refine brP_t (by assumption) ?_ | refine brP_f (by assumption) ?_ | refine brP_t (decide_eq_true (by omega)) ?_ | refine brP_f (decide_eq_false (by omega)) ?_ | refine brP_t (nd_t (by omega)) ?_ | refine brP_f (nd_f (by omega)) ?_ | refine callK_r (EvR.fr [_] ce rfl rfl ⟨rfl, trivial⟩ rfl) ?_ | refine callM_l (LEv.fr [_] ce rfl rfl ⟨rfl, trivial⟩ rfl rfl) ?_ | refine callK_rt (EvR.fr [_] ce rfl rfl ⟨rfl, trivial⟩ rfl) ?_ | refine callK_rf rfl (EvR.fr [_] ce rfl rfl ⟨rfl, trivial⟩ rfl) ?_ | refine callK_rft rfl (EvR.fr [_] ce rfl rfl ⟨rfl, trivial⟩ rfl) ?_ | refine SemS.loop1 false hm ?_ | refine wpfS_seq1 ?_ | refine wpfS_go ?_ | fail) <;> conv => whnf)
      (first | refine callK_r (EvR.fr [_] cf rfl rfl ⟨rfl, trivial⟩ rfl) ?_ | refine callM_l (LEv.fr [_] cf rfl rfl ⟨rfl, trivial⟩ rfl rfl) ?_ | refine callK_rt (EvR.fr [_] cf rfl rfl ⟨rfl, trivial⟩ rfl) ?_ | refine callK_rf rfl (EvR.fr [_] cf rfl rfl ⟨rfl, trivial⟩ rfl) ?_ | refine callK_rft rfl (EvR.fr [_] cf rfl rfl ⟨rfl, trivial⟩ rfl) ?_)
      conv => whnf
      repeat' ((first | refine brP_t (by assumption) ?_ | refine brP_f (by assumption) ?_ | refine brP_t (decide_eq_true (by omega)) ?_ | refine brP_f (decide_eq_false (by omega)) ?_ | refine brP_t (nd_t (by omega)) ?_ | refine brP_f (nd_f (by omega)) ?_ | refine callK_r (EvR.fr [_] ce rfl rfl ⟨rfl, trivial⟩ rfl) ?_ | refine callM_l (LEv.fr [_] ce rfl rfl ⟨rfl, trivial⟩ rfl rfl) ?_ | refine callK_rt (EvR.fr [_] ce rfl rfl ⟨rfl, trivial⟩ rfl) ?_ | refine callK_rf rfl (EvR.fr [_] ce rfl rfl ⟨rfl, trivial⟩ rfl) ?_ | refine callK_rft rfl (EvR.fr [_] ce rfl rfl ⟨rfl, trivial⟩ rfl) ?_ | refine SemS.loop1 false hm ?_ | refine wpfS_seq1 ?_ | refine wpfS_go ?_ | fail) <;> conv => whnf)
      exact ⟨rfl, rfl⟩
    · have hz6 : (6 : Int) < n := by omega
      repeat' ((first | refine brP_t (by assumption) ?_ | refine brP_f (by assumption) ?_ | refine brP_t (decide_eq_true (by omega)) ?_ | refine brP_f (decide_eq_false (by omega)) ?_ | refine brP_t (nd_t (by omega)) ?_ | refine brP_f (nd_f (by omega)) ?_ | refine callK_r (EvR.fr [_] ce rfl rfl ⟨rfl, trivial⟩ rfl) ?_ | refine callM_l (LEv.fr [_] ce rfl rfl ⟨rfl, trivial⟩ rfl rfl) ?_ | refine callK_rt (EvR.fr [_] ce rfl rfl ⟨rfl, trivial⟩ rfl) ?_ | refine callK_rf rfl (EvR.fr [_] ce rfl rfl ⟨rfl, trivial⟩ rfl) ?_ | refine callK_rft rfl (EvR.fr [_] ce rfl rfl ⟨rfl, trivial⟩ rfl) ?_ | refine SemS.loop1 false hm ?_ | refine wpfS_seq1 ?_ | refine wpfS_go ?_ | fail) <;> conv => whnf)
      (first | refine callK_r (EvR.fr [_] c0 rfl rfl ⟨rfl, trivial⟩ rfl) ?_ | refine callM_l (LEv.fr [_] c0 rfl rfl ⟨rfl, trivial⟩ rfl rfl) ?_ | refine callK_rt (EvR.fr [_] c0 rfl rfl ⟨rfl, trivial⟩ rfl) ?_ | refine callK_rf rfl (EvR.fr [_] c0 rfl rfl ⟨rfl, trivial⟩ rfl) ?_ | refine callK_rft rfl (EvR.fr [_] c0 rfl rfl ⟨rfl, trivial⟩ rfl) ?_)
      conv => whnf
      repeat' ((first | refine brP_t (by assumption) ?_ | refine brP_f (by assumption) ?_ | refine brP_t (decide_eq_true (by omega)) ?_ | refine brP_f (decide_eq_false (by omega)) ?_ | refine brP_t (nd_t (by omega)) ?_ | refine brP_f (nd_f (by omega)) ?_ | refine callK_r (EvR.fr [_] ce rfl rfl ⟨rfl, trivial⟩ rfl) ?_ | refine callM_l (LEv.fr [_] ce rfl rfl ⟨rfl, trivial⟩ rfl rfl) ?_ | refine callK_rt (EvR.fr [_] ce rfl rfl ⟨rfl, trivial⟩ rfl) ?_ | refine callK_rf rfl (EvR.fr [_] ce rfl rfl ⟨rfl, trivial⟩ rfl) ?_ | refine callK_rft rfl (EvR.fr [_] ce rfl rfl ⟨rfl, trivial⟩ rfl) ?_ | refine SemS.loop1 false hm ?_ | refine wpfS_seq1 ?_ | refine wpfS_go ?_ | fail) <;> conv => whnf)
      (first | refine callK_r (EvR.fr [_] cf rfl rfl ⟨rfl, trivial⟩ rfl) ?_ | refine callM_l (LEv.fr [_] cf rfl rfl ⟨rfl, trivial⟩ rfl rfl) ?_ | refine callK_rt (EvR.fr [_] cf rfl rfl ⟨rfl, trivial⟩ rfl) ?_ | refine callK_rf rfl (EvR.fr [_] cf rfl rfl ⟨rfl, trivial⟩ rfl) ?_ | refine callK_rft rfl (EvR.fr [_] cf rfl rfl ⟨rfl, trivial⟩ rfl) ?_)
      conv => whnf
      repeat' ((first | refine brP_t (by assumption) ?_ | refine brP_f (by assumption) ?_ | refine brP_t (decide_eq_true (by omega)) ?_ | refine brP_f (decide_eq_false (by omega)) ?_ | refine brP_t (nd_t (by omega)) ?_ | refine brP_f (nd_f (by omega)) ?_ | refine callK_r (EvR.fr [_] ce rfl rfl ⟨rfl, trivial⟩ rfl) ?_ | refine callM_l (LEv.fr [_] ce rfl rfl ⟨rfl, trivial⟩ rfl rfl) ?_ | refine callK_rt (EvR.fr [_] ce rfl rfl ⟨rfl, trivial⟩ rfl) ?_ | refine callK_rf rfl (EvR.fr [_] ce rfl rfl ⟨rfl, trivial⟩ rfl) ?_ | refine callK_rft rfl (EvR.fr [_] ce rfl rfl ⟨rfl, trivial⟩ rfl) ?_ | refine SemS.loop1 false hm ?_ | refine wpfS_seq1 ?_ | refine wpfS_go ?_ | fail) <;> conv => whnf)
      exact ⟨rfl, rfl⟩
  rw [if_pos hok] at hd
  subst hd
  clear cf hbad
  repeat' ((first | refine brP_t (by assumption) ?_ | refine brP_f (by assumption) ?_ | refine brP_t (decide_eq_true (by omega)) ?_ | refine brP_f (decide_eq_false (by omega)) ?_ | refine brP_t (nd_t (by omega)) ?_ | refine brP_f (nd_f (by omega)) ?_ | refine wpfS_seq1 ?_ | refine wpfS_go ?_ | fail) <;> conv => whnf)
  (first | refine callK_r (EvR.fr [_] c0 rfl rfl ⟨rfl, trivial⟩ rfl) ?_ | refine callM_l (LEv.fr [_] c0 rfl rfl ⟨rfl, trivial⟩ rfl rfl) ?_ | refine callK_rt (EvR.fr [_] c0 rfl rfl ⟨rfl, trivial⟩ rfl) ?_ | refine callK_rf rfl (EvR.fr [_] c0 rfl rfl ⟨rfl, trivial⟩ rfl) ?_ | refine callK_rft rfl (EvR.fr [_] c0 rfl rfl ⟨rfl, trivial⟩ rfl) ?_)
  conv => whnf
  repeat' ((first | refine brP_t (by assumption) ?_ | refine brP_f (by assumption) ?_ | refine brP_t (decide_eq_true (by omega)) ?_ | refine brP_f (decide_eq_false (by omega)) ?_ | refine brP_t (nd_t (by omega)) ?_ | refine brP_f (nd_f (by omega)) ?_ | refine wpfS_seq1 ?_ | refine wpfS_go ?_ | fail) <;> conv => whnf)
  refine SemS.nilT 4 5 (by decide) rfl ?_
  refine SemS.loopC false hm (σ := Nat × List Chg × St) (fun x => [(5, iv x.1), (4, .c (.os (.loc 0) x.2.1.length)), (3, iv n), (2, .c .nils), (0, .c (.ptr (.par 0) 0))]) (fun x => ⟨x.2.2.pr, [.arr 5 false (chgs x.2.1)]⟩) (fun x => n - x.1) (fun x => x.1 ≤ n ∧ x.2.1.length ≤ x.1 ∧ Q = rdGo true (n - x.1) x.2.1 x.2.2) (0, [], s2) ⟨Nat.zero_le _, Nat.le_refl _, hR⟩ ⟨rfl, rfl, rfl, rfl, rfl, trivial⟩ rfl ?_
  rintro ⟨i, o, q⟩ ⟨hi, ho, hQ⟩
  dsimp only at hi ho hQ ⊢
  have hol := chgs_len (l := o)
  have ce := pr_err q
  have stop : ¬ (i < n ∧ q.e = 0) → Q = (o, q) := fun hh => by
    by_cases h1 : i < n
    · rw [hQ, rdGo_stop fun h2 => hh ⟨h1, h2⟩]
    · rw [hQ, show n - i = 0 by omega]; rfl
  by_cases hin : (i : Int) < n
  case neg =>
    have hQ := stop fun hh => hin (by omega)
    subst hQ
    dsimp only
    by_cases he : q.e = 0
    · rw [if_pos he]
      refine wpf_seq1 ?_
      conv => whnf
      repeat' ((first | refine brP_t (by assumption) ?_ | refine brP_f (by assumption) ?_ | refine brP_t (decide_eq_true (by omega)) ?_ | refine brP_f (decide_eq_false (by omega)) ?_ | refine brP_t (nd_t (by omega)) ?_ | refine brP_f (nd_f (by omega)) ?_ | refine callK_r (EvR.fr [_] ce rfl rfl ⟨rfl, trivial⟩ rfl) ?_ | refine callM_l (LEv.fr [_] ce rfl rfl ⟨rfl, trivial⟩ rfl rfl) ?_ | refine callK_rt (EvR.fr [_] ce rfl rfl ⟨rfl, trivial⟩ rfl) ?_ | refine callK_rf rfl (EvR.fr [_] ce rfl rfl ⟨rfl, trivial⟩ rfl) ?_ | refine callK_rft rfl (EvR.fr [_] ce rfl rfl ⟨rfl, trivial⟩ rfl) ?_ | (refine gd_mk ?_ ?_; focus (rw [decide_eq_true hol.symm]; rfl; done)) | refine wpfS_seq1 ?_ | refine wpfS_go ?_ | fail) <;> conv => whnf)
      exact ⟨rfl, rfl⟩
    · rw [if_neg he]
      refine wpf_seq1 ?_
      conv => whnf
      repeat' ((first | refine brP_t (by assumption) ?_ | refine brP_f (by assumption) ?_ | refine brP_t (decide_eq_true (by omega)) ?_ | refine brP_f (decide_eq_false (by omega)) ?_ | refine brP_t (nd_t (by omega)) ?_ | refine brP_f (nd_f (by omega)) ?_ | refine callK_r (EvR.fr [_] ce rfl rfl ⟨rfl, trivial⟩ rfl) ?_ | refine callM_l (LEv.fr [_] ce rfl rfl ⟨rfl, trivial⟩ rfl rfl) ?_ | refine callK_rt (EvR.fr [_] ce rfl rfl ⟨rfl, trivial⟩ rfl) ?_ | refine callK_rf rfl (EvR.fr [_] ce rfl rfl ⟨rfl, trivial⟩ rfl) ?_ | refine callK_rft rfl (EvR.fr [_] ce rfl rfl ⟨rfl, trivial⟩ rfl) ?_ | refine wpfS_seq1 ?_ | refine wpfS_go ?_ | fail) <;> conv => whnf)
      exact ⟨rfl, rfl⟩
  by_cases he : q.e = 0
  case neg =>
    have hQ := stop fun hh => he hh.2
    subst hQ
    dsimp only
    rw [if_neg he]
    refine wpf_seq1 ?_
    conv => whnf
    repeat' ((first | refine brP_t (by assumption) ?_ | refine brP_f (by assumption) ?_ | refine brP_t (decide_eq_true (by omega)) ?_ | refine brP_f (decide_eq_false (by omega)) ?_ | refine brP_t (nd_t (by omega)) ?_ | refine brP_f (nd_f (by omega)) ?_ | refine callK_r (EvR.fr [_] ce rfl rfl ⟨rfl, trivial⟩ rfl) ?_ | refine callM_l (LEv.fr [_] ce rfl rfl ⟨rfl, trivial⟩ rfl rfl) ?_ | refine callK_rt (EvR.fr [_] ce rfl rfl ⟨rfl, trivial⟩ rfl) ?_ | refine callK_rf rfl (EvR.fr [_] ce rfl rfl ⟨rfl, trivial⟩ rfl) ?_ | refine callK_rft rfl (EvR.fr [_] ce rfl rfl ⟨rfl, trivial⟩ rfl) ?_ | refine wpfS_seq1 ?_ | refine wpfS_go ?_ | fail) <;> conv => whnf)
    exact ⟨rfl, rfl⟩
  clear stop
  rw [show n - i = (n - (i + 1)) + 1 by omega, rdGo_go he] at hQ
  have hw2 : IntKind.i64.wrap ((i : Int) + 1) = ((i + 1 : Nat) : Int) := by rw [wrap64 (by omega)]; rfl
  have d1 := pr_num q 1 255 (by omega)
  unfold Chg.rd1 Chg.rd0 St.k5 St.k3 at hQ
  generalize q.nv 1 255 = k at *
  generalize q.num true 1 255 = q1 at *
  have d2 := pr_num q1 1 255 (by omega)
  generalize q1.nv 1 255 = a at *
  generalize q1.num true 1 255 = q2 at *
  have d3 := pr_num q2 1 255 (by omega)
  generalize q2.nv 1 255 = b at *
  generalize q2.num true 1 255 = q3 at *
  have d4 := pr_num q3 2 65535 (by omega)
  have u4 := nv_u16 (s := q3) (size := 2)
  generalize q3.num true 2 65535 = q4 at *
  have d5 := pr_num q4 2 65535 (by omega)
  have u5 := nv_u16 (s := q4) (size := 2)
  generalize q4.num true 2 65535 = q5 at *
  generalize q3.nv 2 65535 = s4 at *
  generalize q4.nv 2 65535 = s5 at *
  generalize s4.toNat = m4 at *
  generalize s5.toNat = m5 at *
  have d6 := change_Fine_ok ⟨k, a, b, m4, m5⟩
  have d7 := pr_fail q5 3
  rw [chgrow] at d6
  generalize hco : o ++ [Chg.mk k a b m4 m5] = o2 at *
  have hl2 : o2.length = o.length + 1 := by rw [← hco, List.length_append]; rfl
  have hc2 : chgs o2 = chgs o ++ [[.int .i64 k, .int .i64 a, .int .i64 b, .int .u16 m4, .int .u16 m5]] := by rw [← hco, chgs_app]
  cases hf : (Chg.mk k a b m4 m5).fine with
  | true =>
    rw [hf] at d6 hQ
    rw [if_pos rfl] at hQ
    refine wpf_seq1 ?_
    conv => whnf
    repeat' ((first | refine brP_t (by assumption) ?_ | refine brP_f (by assumption) ?_ | refine brP_t (decide_eq_true (by omega)) ?_ | refine brP_f (decide_eq_false (by omega)) ?_ | refine brP_t (nd_t (by omega)) ?_ | refine brP_f (nd_f (by omega)) ?_ | ((rw [u4])) | ((rw [u5])) | ((rw [hw2])) | (refine gd_mk ?_ ?_; focus (exact app_ch hol.symm (by omega) rfl; done)) | refine wpfS_seq1 ?_ | refine wpfS_go ?_ | fail) <;> conv => whnf)
    (first | refine callK_r (EvR.fr [_] ce rfl rfl ⟨rfl, trivial⟩ rfl) ?_ | refine callM_l (LEv.fr [_] ce rfl rfl ⟨rfl, trivial⟩ rfl rfl) ?_ | refine callK_rt (EvR.fr [_] ce rfl rfl ⟨rfl, trivial⟩ rfl) ?_ | refine callK_rf rfl (EvR.fr [_] ce rfl rfl ⟨rfl, trivial⟩ rfl) ?_ | refine callK_rft rfl (EvR.fr [_] ce rfl rfl ⟨rfl, trivial⟩ rfl) ?_)
    conv => whnf
    repeat' ((first | refine brP_t (by assumption) ?_ | refine brP_f (by assumption) ?_ | refine brP_t (decide_eq_true (by omega)) ?_ | refine brP_f (decide_eq_false (by omega)) ?_ | refine brP_t (nd_t (by omega)) ?_ | refine brP_f (nd_f (by omega)) ?_ | ((rw [u4])) | ((rw [u5])) | ((rw [hw2])) | (refine gd_mk ?_ ?_; focus (exact app_ch hol.symm (by omega) rfl; done)) | refine wpfS_seq1 ?_ | refine wpfS_go ?_ | fail) <;> conv => whnf)
    (first | refine callK_r (EvR.fr [_] d1 rfl rfl ⟨rfl, trivial⟩ rfl) ?_ | refine callM_l (LEv.fr [_] d1 rfl rfl ⟨rfl, trivial⟩ rfl rfl) ?_ | refine callK_rt (EvR.fr [_] d1 rfl rfl ⟨rfl, trivial⟩ rfl) ?_ | refine callK_rf rfl (EvR.fr [_] d1 rfl rfl ⟨rfl, trivial⟩ rfl) ?_ | refine callK_rft rfl (EvR.fr [_] d1 rfl rfl ⟨rfl, trivial⟩ rfl) ?_)
    conv => whnf
    repeat' ((first | refine brP_t (by assumption) ?_ | refine brP_f (by assumption) ?_ | refine brP_t (decide_eq_true (by omega)) ?_ | refine brP_f (decide_eq_false (by omega)) ?_ | refine brP_t (nd_t (by omega)) ?_ | refine brP_f (nd_f (by omega)) ?_ | ((rw [u4])) | ((rw [u5])) | ((rw [hw2])) | (refine gd_mk ?_ ?_; focus (exact app_ch hol.symm (by omega) rfl; done)) | refine wpfS_seq1 ?_ | refine wpfS_go ?_ | fail) <;> conv => whnf)
    (first | refine callK_r (EvR.fr [_] d2 rfl rfl ⟨rfl, trivial⟩ rfl) ?_ | refine callM_l (LEv.fr [_] d2 rfl rfl ⟨rfl, trivial⟩ rfl rfl) ?_ | refine callK_rt (EvR.fr [_] d2 rfl rfl ⟨rfl, trivial⟩ rfl) ?_ | refine callK_rf rfl (EvR.fr [_] d2 rfl rfl ⟨rfl, trivial⟩ rfl) ?_ | refine callK_rft rfl (EvR.fr [_] d2 rfl rfl ⟨rfl, trivial⟩ rfl) ?_)
    conv => whnf
    repeat' ((first | refine brP_t (by assumption) ?_ | refine brP_f (by assumption) ?_ | refine brP_t (decide_eq_true (by omega)) ?_ | refine brP_f (decide_eq_false (by omega)) ?_ | refine brP_t (nd_t (by omega)) ?_ | refine brP_f (nd_f (by omega)) ?_ | ((rw [u4])) | ((rw [u5])) | ((rw [hw2])) | (refine gd_mk ?_ ?_; focus (exact app_ch hol.symm (by omega) rfl; done)) | refine wpfS_seq1 ?_ | refine wpfS_go ?_ | fail) <;> conv => whnf)
    (first | refine callK_r (EvR.fr [_] d3 rfl rfl ⟨rfl, trivial⟩ rfl) ?_ | refine callM_l (LEv.fr [_] d3 rfl rfl ⟨rfl, trivial⟩ rfl rfl) ?_ | refine callK_rt (EvR.fr [_] d3 rfl rfl ⟨rfl, trivial⟩ rfl) ?_ | refine callK_rf rfl (EvR.fr [_] d3 rfl rfl ⟨rfl, trivial⟩ rfl) ?_ | refine callK_rft rfl (EvR.fr [_] d3 rfl rfl ⟨rfl, trivial⟩ rfl) ?_)
    conv => whnf
    repeat' ((first | refine brP_t (by assumption) ?_ | refine brP_f (by assumption) ?_ | refine brP_t (decide_eq_true (by omega)) ?_ | refine brP_f (decide_eq_false (by omega)) ?_ | refine brP_t (nd_t (by omega)) ?_ | refine brP_f (nd_f (by omega)) ?_ | ((rw [u4])) | ((rw [u5])) | ((rw [hw2])) | (refine gd_mk ?_ ?_; focus (exact app_ch hol.symm (by omega) rfl; done)) | refine wpfS_seq1 ?_ | refine wpfS_go ?_ | fail) <;> conv => whnf)
    (first | refine callK_r (EvR.fr [_] d4 rfl rfl ⟨rfl, trivial⟩ rfl) ?_ | refine callM_l (LEv.fr [_] d4 rfl rfl ⟨rfl, trivial⟩ rfl rfl) ?_ | refine callK_rt (EvR.fr [_] d4 rfl rfl ⟨rfl, trivial⟩ rfl) ?_ | refine callK_rf rfl (EvR.fr [_] d4 rfl rfl ⟨rfl, trivial⟩ rfl) ?_ | refine callK_rft rfl (EvR.fr [_] d4 rfl rfl ⟨rfl, trivial⟩ rfl) ?_)
    conv => whnf
    repeat' ((first | refine brP_t (by assumption) ?_ | refine brP_f (by assumption) ?_ | refine brP_t (decide_eq_true (by omega)) ?_ | refine brP_f (decide_eq_false (by omega)) ?_ | refine brP_t (nd_t (by omega)) ?_ | refine brP_f (nd_f (by omega)) ?_ | ((rw [u4])) | ((rw [u5])) | ((rw [hw2])) | (refine gd_mk ?_ ?_; focus (exact app_ch hol.symm (by omega) rfl; done)) | refine wpfS_seq1 ?_ | refine wpfS_go ?_ | fail) <;> conv => whnf)
    (first | refine callK_r (EvR.fr [_] d5 rfl rfl ⟨rfl, trivial⟩ rfl) ?_ | refine callM_l (LEv.fr [_] d5 rfl rfl ⟨rfl, trivial⟩ rfl rfl) ?_ | refine callK_rt (EvR.fr [_] d5 rfl rfl ⟨rfl, trivial⟩ rfl) ?_ | refine callK_rf rfl (EvR.fr [_] d5 rfl rfl ⟨rfl, trivial⟩ rfl) ?_ | refine callK_rft rfl (EvR.fr [_] d5 rfl rfl ⟨rfl, trivial⟩ rfl) ?_)
    conv => whnf
    repeat' ((first | refine brP_t (by assumption) ?_ | refine brP_f (by assumption) ?_ | refine brP_t (decide_eq_true (by omega)) ?_ | refine brP_f (decide_eq_false (by omega)) ?_ | refine brP_t (nd_t (by omega)) ?_ | refine brP_f (nd_f (by omega)) ?_ | ((rw [u4])) | ((rw [u5])) | ((rw [hw2])) | (refine gd_mk ?_ ?_; focus (exact app_ch hol.symm (by omega) rfl; done)) | refine wpfS_seq1 ?_ | refine wpfS_go ?_ | fail) <;> conv => whnf)
    (first | refine callK_p d6 ?_ | refine callM_p d6 rfl ?_ | refine callK_pf rfl d6 ?_ | refine callK_pk rfl d6 ?_)
    conv => whnf
    repeat' ((first | refine brP_t (by assumption) ?_ | refine brP_f (by assumption) ?_ | refine brP_t (decide_eq_true (by omega)) ?_ | refine brP_f (decide_eq_false (by omega)) ?_ | refine brP_t (nd_t (by omega)) ?_ | refine brP_f (nd_f (by omega)) ?_ | ((rw [u4])) | ((rw [u5])) | ((rw [hw2])) | (refine gd_mk ?_ ?_; focus (exact app_ch hol.symm (by omega) rfl; done)) | refine wpfS_seq1 ?_ | refine wpfS_go ?_ | fail) <;> conv => whnf)
    refine ⟨(i + 1, o2, q5), 1, ⟨by show i + 1 ≤ n; omega, by show o2.length ≤ i + 1; omega, hQ⟩, (show n - (i + 1) < n - i by omega), ⟨rfl, ?_, rfl, rfl, rfl, trivial⟩, Nat.le_refl _, ?_, rfl, rfl⟩
    · show AV.c (.os (.loc 0) (o.length + 1)) = AV.c (.os (.loc 0) o2.length)
      rw [hl2]
    · show _ = (⟨q5.pr, [.arr 5 false (chgs o2)]⟩ : Hp)
      rw [hc2]
      rfl
  | false =>
    rw [hf] at d6 hQ
    rw [if_neg (by decide)] at hQ
    generalize q5.fail 3 = q6 at *
    refine wpf_seq1 ?_
    conv => whnf
    repeat' ((first | refine brP_t (by assumption) ?_ | refine brP_f (by assumption) ?_ | refine brP_t (decide_eq_true (by omega)) ?_ | refine brP_f (decide_eq_false (by omega)) ?_ | refine brP_t (nd_t (by omega)) ?_ | refine brP_f (nd_f (by omega)) ?_ | ((rw [u4])) | ((rw [u5])) | ((rw [hw2])) | (refine gd_mk ?_ ?_; focus (exact app_ch hol.symm (by omega) rfl; done)) | refine wpfS_seq1 ?_ | refine wpfS_go ?_ | fail) <;> conv => whnf)
    (first | refine callK_r (EvR.fr [_] ce rfl rfl ⟨rfl, trivial⟩ rfl) ?_ | refine callM_l (LEv.fr [_] ce rfl rfl ⟨rfl, trivial⟩ rfl rfl) ?_ | refine callK_rt (EvR.fr [_] ce rfl rfl ⟨rfl, trivial⟩ rfl) ?_ | refine callK_rf rfl (EvR.fr [_] ce rfl rfl ⟨rfl, trivial⟩ rfl) ?_ | refine callK_rft rfl (EvR.fr [_] ce rfl rfl ⟨rfl, trivial⟩ rfl) ?_)
    conv => whnf
    repeat' ((first | refine brP_t (by assumption) ?_ | refine brP_f (by assumption) ?_ | refine brP_t (decide_eq_true (by omega)) ?_ | refine brP_f (decide_eq_false (by omega)) ?_ | refine brP_t (nd_t (by omega)) ?_ | refine brP_f (nd_f (by omega)) ?_ | ((rw [u4])) | ((rw [u5])) | ((rw [hw2])) | (refine gd_mk ?_ ?_; focus (exact app_ch hol.symm (by omega) rfl; done)) | refine wpfS_seq1 ?_ | refine wpfS_go ?_ | fail) <;> conv => whnf)
    (first | refine callK_r (EvR.fr [_] d1 rfl rfl ⟨rfl, trivial⟩ rfl) ?_ | refine callM_l (LEv.fr [_] d1 rfl rfl ⟨rfl, trivial⟩ rfl rfl) ?_ | refine callK_rt (EvR.fr [_] d1 rfl rfl ⟨rfl, trivial⟩ rfl) ?_ | refine callK_rf rfl (EvR.fr [_] d1 rfl rfl ⟨rfl, trivial⟩ rfl) ?_ | refine callK_rft rfl (EvR.fr [_] d1 rfl rfl ⟨rfl, trivial⟩ rfl) ?_)
    conv => whnf
    repeat' ((first | refine brP_t (by assumption) ?_ | refine brP_f (by assumption) ?_ | refine brP_t (decide_eq_true (by omega)) ?_ | refine brP_f (decide_eq_false (by omega)) ?_ | refine brP_t (nd_t (by omega)) ?_ | refine brP_f (nd_f (by omega)) ?_ | ((rw [u4])) | ((rw [u5])) | ((rw [hw2])) | (refine gd_mk ?_ ?_; focus (exact app_ch hol.symm (by omega) rfl; done)) | refine wpfS_seq1 ?_ | refine wpfS_go ?_ | fail) <;> conv => whnf)
    (first | refine callK_r (EvR.fr [_] d2 rfl rfl ⟨rfl, trivial⟩ rfl) ?_ | refine callM_l (LEv.fr [_] d2 rfl rfl ⟨rfl, trivial⟩ rfl rfl) ?_ | refine callK_rt (EvR.fr [_] d2 rfl rfl ⟨rfl, trivial⟩ rfl) ?_ | refine callK_rf rfl (EvR.fr [_] d2 rfl rfl ⟨rfl, trivial⟩ rfl) ?_ | refine callK_rft rfl (EvR.fr [_] d2 rfl rfl ⟨rfl, trivial⟩ rfl) ?_)
    conv => whnf
    repeat' ((first | refine brP_t (by assumption) ?_ | refine brP_f (by assumption) ?_ | refine brP_t (decide_eq_true (by omega)) ?_ | refine brP_f (decide_eq_false (by omega)) ?_ | refine brP_t (nd_t (by omega)) ?_ | refine brP_f (nd_f (by omega)) ?_ | ((rw [u4])) | ((rw [u5])) | ((rw [hw2])) | (refine gd_mk ?_ ?_; focus (exact app_ch hol.symm (by omega) rfl; done)) | refine wpfS_seq1 ?_ | refine wpfS_go ?_ | fail) <;> conv => whnf)
    (first | refine callK_r (EvR.fr [_] d3 rfl rfl ⟨rfl, trivial⟩ rfl) ?_ | refine callM_l (LEv.fr [_] d3 rfl rfl ⟨rfl, trivial⟩ rfl rfl) ?_ | refine callK_rt (EvR.fr [_] d3 rfl rfl ⟨rfl, trivial⟩ rfl) ?_ | refine callK_rf rfl (EvR.fr [_] d3 rfl rfl ⟨rfl, trivial⟩ rfl) ?_ | refine callK_rft rfl (EvR.fr [_] d3 rfl rfl ⟨rfl, trivial⟩ rfl) ?_)
    conv => whnf
    repeat' ((first | refine brP_t (by assumption) ?_ | refine brP_f (by assumption) ?_ | refine brP_t (decide_eq_true (by omega)) ?_ | refine brP_f (decide_eq_false (by omega)) ?_ | refine brP_t (nd_t (by omega)) ?_ | refine brP_f (nd_f (by omega)) ?_ | ((rw [u4])) | ((rw [u5])) | ((rw [hw2])) | (refine gd_mk ?_ ?_; focus (exact app_ch hol.symm (by omega) rfl; done)) | refine wpfS_seq1 ?_ | refine wpfS_go ?_ | fail) <;> conv => whnf)
    (first | refine callK_r (EvR.fr [_] d4 rfl rfl ⟨rfl, trivial⟩ rfl) ?_ | refine callM_l (LEv.fr [_] d4 rfl rfl ⟨rfl, trivial⟩ rfl rfl) ?_ | refine callK_rt (EvR.fr [_] d4 rfl rfl ⟨rfl, trivial⟩ rfl) ?_ | refine callK_rf rfl (EvR.fr [_] d4 rfl rfl ⟨rfl, trivial⟩ rfl) ?_ | refine callK_rft rfl (EvR.fr [_] d4 rfl rfl ⟨rfl, trivial⟩ rfl) ?_)
    conv => whnf
    repeat' ((first | refine brP_t (by assumption) ?_ | refine brP_f (by assumption) ?_ | refine brP_t (decide_eq_true (by omega)) ?_ | refine brP_f (decide_eq_false (by omega)) ?_ | refine brP_t (nd_t (by omega)) ?_ | refine brP_f (nd_f (by omega)) ?_ | ((rw [u4])) | ((rw [u5])) | ((rw [hw2])) | (refine gd_mk ?_ ?_; focus (exact app_ch hol.symm (by omega) rfl; done)) | refine wpfS_seq1 ?_ | refine wpfS_go ?_ | fail) <;> conv => whnf)
    (first | refine callK_r (EvR.fr [_] d5 rfl rfl ⟨rfl, trivial⟩ rfl) ?_ | refine callM_l (LEv.fr [_] d5 rfl rfl ⟨rfl, trivial⟩ rfl rfl) ?_ | refine callK_rt (EvR.fr [_] d5 rfl rfl ⟨rfl, trivial⟩ rfl) ?_ | refine callK_rf rfl (EvR.fr [_] d5 rfl rfl ⟨rfl, trivial⟩ rfl) ?_ | refine callK_rft rfl (EvR.fr [_] d5 rfl rfl ⟨rfl, trivial⟩ rfl) ?_)
    conv => whnf
    repeat' ((first | refine brP_t (by assumption) ?_ | refine brP_f (by assumption) ?_ | refine brP_t (decide_eq_true (by omega)) ?_ | refine brP_f (decide_eq_false (by omega)) ?_ | refine brP_t (nd_t (by omega)) ?_ | refine brP_f (nd_f (by omega)) ?_ | ((rw [u4])) | ((rw [u5])) | ((rw [hw2])) | (refine gd_mk ?_ ?_; focus (exact app_ch hol.symm (by omega) rfl; done)) | refine wpfS_seq1 ?_ | refine wpfS_go ?_ | fail) <;> conv => whnf)
    (first | refine callK_p d6 ?_ | refine callM_p d6 rfl ?_ | refine callK_pf rfl d6 ?_ | refine callK_pk rfl d6 ?_)
    conv => whnf
    repeat' ((first | refine brP_t (by assumption) ?_ | refine brP_f (by assumption) ?_ | refine brP_t (decide_eq_true (by omega)) ?_ | refine brP_f (decide_eq_false (by omega)) ?_ | refine brP_t (nd_t (by omega)) ?_ | refine brP_f (nd_f (by omega)) ?_ | ((rw [u4])) | ((rw [u5])) | ((rw [hw2])) | (refine gd_mk ?_ ?_; focus (exact app_ch hol.symm (by omega) rfl; done)) | refine wpfS_seq1 ?_ | refine wpfS_go ?_ | fail) <;> conv => whnf)
    (first | refine callK_r (EvR.fr [_] d7 rfl rfl ⟨rfl, trivial⟩ rfl) ?_ | refine callM_l (LEv.fr [_] d7 rfl rfl ⟨rfl, trivial⟩ rfl rfl) ?_ | refine callK_rt (EvR.fr [_] d7 rfl rfl ⟨rfl, trivial⟩ rfl) ?_ | refine callK_rf rfl (EvR.fr [_] d7 rfl rfl ⟨rfl, trivial⟩ rfl) ?_ | refine callK_rft rfl (EvR.fr [_] d7 rfl rfl ⟨rfl, trivial⟩ rfl) ?_)
    conv => whnf
    repeat' ((first | refine brP_t (by assumption) ?_ | refine brP_f (by assumption) ?_ | refine brP_t (decide_eq_true (by omega)) ?_ | refine brP_f (decide_eq_false (by omega)) ?_ | refine brP_t (nd_t (by omega)) ?_ | refine brP_f (nd_f (by omega)) ?_ | ((rw [u4])) | ((rw [u5])) | ((rw [hw2])) | (refine gd_mk ?_ ?_; focus (exact app_ch hol.symm (by omega) rfl; done)) | refine wpfS_seq1 ?_ | refine wpfS_go ?_ | fail) <;> conv => whnf)
    refine ⟨(i + 1, o2, q6), 1, ⟨by show i + 1 ≤ n; omega, by show o2.length ≤ i + 1; omega, hQ⟩, (show n - (i + 1) < n - i by omega), ⟨rfl, ?_, rfl, rfl, rfl, trivial⟩, Nat.le_refl _, ?_, rfl, rfl⟩
    · show AV.c (.os (.loc 0) (o.length + 1)) = AV.c (.os (.loc 0) o2.length)
      rw [hl2]
    · show _ = (⟨q6.pr, [.arr 5 false (chgs o2)]⟩ : Hp)
      rw [hc2]
      rfl
end Go.Ab.S

namespace Go.Ab.S
open Go Go.Ab Go.Proofs
attribute [local irreducible] SemS
set_option maxRecDepth 100000
end Go.Ab.S
