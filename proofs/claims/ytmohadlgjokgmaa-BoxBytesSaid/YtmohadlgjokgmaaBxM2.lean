/- Part of a proof; no condition. -/
import Derived.Test.YtmohadlgjokgmaaBxM1
import Derived.Test.YtmohadlgjokgmaaLibWZ
set_option linter.unusedSimpArgs false
set_option linter.unusedVariables false
namespace Go.Ab.S
open Go Go.Ab Go.Proofs
attribute [local irreducible] SemS
set_option maxRecDepth 100000
/-- A message, read. -/
def Msg.rd (keep : Bool) (s0 : St) : Msg × St :=
  let s1 := s0.num keep 4 2147483647
  let s2 := s1.num keep 1 255
  let s3 := s2.num keep 2 65535
  let s4 := s3.num keep 2 65535
  let s5 := s4.num keep 1 15
  let s6 := s5.num keep 2 65535
  (⟨s0.nv 4 2147483647, s1.nv 1 255, (s2.nv 2 65535).toNat, (s3.nv 2 65535).toNat, s4.nv 1 15, (s5.nv 2 65535).toNat, s6.tv 32⟩, s6.txt keep 32)
theorem message_one_ok (s : St) : EvR PR G f_message_one [.c (.ptr (.par 0) 0)] ⟨s.pr, []⟩ (.agg (Msg.rd true s).1.row) ⟨(Msg.rd true s).2.pr, []⟩ := by
  unfold Msg.rd
  dsimp only
  have c0 := pr_num s 4 2147483647 (by omega)
  generalize s.num true 4 2147483647 = s1 at *
  have c1 := pr_num s1 1 255 (by omega)
  generalize s1.num true 1 255 = s2 at *
  have c2 := pr_num s2 2 65535 (by omega)
  have u2 := nv_u16 (s := s2) (size := 2)
  generalize s2.num true 2 65535 = s3 at *
  have c3 := pr_num s3 2 65535 (by omega)
  have u3 := nv_u16 (s := s3) (size := 2)
  generalize s3.num true 2 65535 = s4 at *
  have c4 := pr_num s4 1 15 (by omega)
  generalize s4.num true 1 15 = s5 at *
  have c5 := pr_num s5 2 65535 (by omega)
  have u5 := nv_u16 (s := s5) (size := 2)
  generalize s5.num true 2 65535 = s6 at *
  have c6 := pr_txt s6 32
  generalize s6.txt true 32 = s7 at *
  generalize s.nv 4 2147483647 = v0 at *
  generalize s1.nv 1 255 = v1 at *
  generalize s2.nv 2 65535 = v2 at *
  generalize s3.nv 2 65535 = v3 at *
  generalize s4.nv 1 15 = v4 at *
  generalize s5.nv 2 65535 = v5 at *
  generalize s6.tv 32 = v6 at *
  refine EvR.of_wpfC false false hm c_message_one rfl rfl ?_
  conv => whnf
  repeat' ((first | refine brP_t (by assumption) ?_ | refine brP_f (by assumption) ?_ | refine brP_t (decide_eq_true (by omega)) ?_ | refine brP_f (decide_eq_false (by omega)) ?_ | refine brP_t (nd_t (by omega)) ?_ | refine brP_f (nd_f (by omega)) ?_ | refine callK_r (EvR.fr [_] c0 rfl rfl ⟨rfl, trivial⟩ rfl) ?_ | refine callM_l (LEv.fr [_] c0 rfl rfl ⟨rfl, trivial⟩ rfl rfl) ?_ | refine callK_rt (EvR.fr [_] c0 rfl rfl ⟨rfl, trivial⟩ rfl) ?_ | refine callK_rf rfl (EvR.fr [_] c0 rfl rfl ⟨rfl, trivial⟩ rfl) ?_ | refine callK_rft rfl (EvR.fr [_] c0 rfl rfl ⟨rfl, trivial⟩ rfl) ?_ | refine callK_r (EvR.fr [_] c1 rfl rfl ⟨rfl, trivial⟩ rfl) ?_ | refine callM_l (LEv.fr [_] c1 rfl rfl ⟨rfl, trivial⟩ rfl rfl) ?_ | refine callK_rt (EvR.fr [_] c1 rfl rfl ⟨rfl, trivial⟩ rfl) ?_ | refine callK_rf rfl (EvR.fr [_] c1 rfl rfl ⟨rfl, trivial⟩ rfl) ?_ | refine callK_rft rfl (EvR.fr [_] c1 rfl rfl ⟨rfl, trivial⟩ rfl) ?_ | refine callK_r (EvR.fr [_] c2 rfl rfl ⟨rfl, trivial⟩ rfl) ?_ | refine callM_l (LEv.fr [_] c2 rfl rfl ⟨rfl, trivial⟩ rfl rfl) ?_ | refine callK_rt (EvR.fr [_] c2 rfl rfl ⟨rfl, trivial⟩ rfl) ?_ | refine callK_rf rfl (EvR.fr [_] c2 rfl rfl ⟨rfl, trivial⟩ rfl) ?_ | refine callK_rft rfl (EvR.fr [_] c2 rfl rfl ⟨rfl, trivial⟩ rfl) ?_ | refine callK_r (EvR.fr [_] c3 rfl rfl ⟨rfl, trivial⟩ rfl) ?_ | refine callM_l (LEv.fr [_] c3 rfl rfl ⟨rfl, trivial⟩ rfl rfl) ?_ | refine callK_rt (EvR.fr [_] c3 rfl rfl ⟨rfl, trivial⟩ rfl) ?_ | refine callK_rf rfl (EvR.fr [_] c3 rfl rfl ⟨rfl, trivial⟩ rfl) ?_ | refine callK_rft rfl (EvR.fr [_] c3 rfl rfl ⟨rfl, trivial⟩ rfl) ?_ | refine callK_r (EvR.fr [_] c4 rfl rfl ⟨rfl, trivial⟩ rfl) ?_ | refine callM_l (LEv.fr [_] c4 rfl rfl ⟨rfl, trivial⟩ rfl rfl) ?_ | refine callK_rt (EvR.fr [_] c4 rfl rfl ⟨rfl, trivial⟩ rfl) ?_ | refine callK_rf rfl (EvR.fr [_] c4 rfl rfl ⟨rfl, trivial⟩ rfl) ?_ | refine callK_rft rfl (EvR.fr [_] c4 rfl rfl ⟨rfl, trivial⟩ rfl) ?_ | refine callK_r (EvR.fr [_] c5 rfl rfl ⟨rfl, trivial⟩ rfl) ?_ | refine callM_l (LEv.fr [_] c5 rfl rfl ⟨rfl, trivial⟩ rfl rfl) ?_ | refine callK_rt (EvR.fr [_] c5 rfl rfl ⟨rfl, trivial⟩ rfl) ?_ | refine callK_rf rfl (EvR.fr [_] c5 rfl rfl ⟨rfl, trivial⟩ rfl) ?_ | refine callK_rft rfl (EvR.fr [_] c5 rfl rfl ⟨rfl, trivial⟩ rfl) ?_ | refine callK_r (EvR.fr [_] c6 rfl rfl ⟨rfl, trivial⟩ rfl) ?_ | refine callM_l (LEv.fr [_] c6 rfl rfl ⟨rfl, trivial⟩ rfl rfl) ?_ | refine callK_rt (EvR.fr [_] c6 rfl rfl ⟨rfl, trivial⟩ rfl) ?_ | refine callK_rf rfl (EvR.fr [_] c6 rfl rfl ⟨rfl, trivial⟩ rfl) ?_ | refine callK_rft rfl (EvR.fr [_] c6 rfl rfl ⟨rfl, trivial⟩ rfl) ?_ | refine wpfS_seq1 ?_ | refine wpfS_go ?_ | fail) <;> conv => whnf)
  rw [u2, u3, u5]
  exact ⟨rfl, rfl⟩
def Msg.rds (keep : Bool) : Nat → St → List Msg × St
  | 0, s => ([], s)
  | n + 1, s => if (Msg.rd keep s).2.e ≠ 0 then ([], (Msg.rd keep s).2) else ((Msg.rd keep s).1 :: (Msg.rds keep n (Msg.rd keep s).2).1, (Msg.rds keep n (Msg.rd keep s).2).2)
/-- Messages, read. -/
def Msg.rdL (keep : Bool) (s : St) : List Msg × St :=
  let r := Msg.rds keep (s.nv 1 255).toNat (s.num keep 1 255)
  (if r.2.e ≠ 0 then [] else r.1, r.2)
theorem message_Read_ok (s : St) : EvR PR G f_message_Read [.c (.ptr (.par 0) 0)] ⟨s.pr, []⟩ (slv (msgs (Msg.rdL true s).1)) ⟨(Msg.rdL true s).2.pr, []⟩ := by
  unfold Msg.rdL
  dsimp only
  have c0 := pr_num s 1 255 (by omega)
  have hr := nv_range (s := s) (size := 1) (most := 255) (by omega)
  have herr : (s.num true 1 255).e ≠ 0 → s.nv 1 255 = 0 := by
    intro h
    unfold St.num at h
    unfold St.nv
    have h : numE s.e s.b 1 255 ≠ 0 := h
    unfold numE at h
    unfold numV
    split
    · rfl
    · rename_i h1
      rw [if_neg h1] at h
      split
      · rfl
      · rename_i h2
        rw [if_neg h2] at h
        split
        · rfl
        · rename_i h3
          rw [if_neg h3] at h
          split
          · rfl
          · rename_i h4
            rw [if_neg h4] at h
            exact absurd rfl h
  generalize s.num true 1 255 = s1 at *
  obtain ⟨n, hn⟩ : ∃ n : Nat, s.nv 1 255 = n := ⟨(s.nv 1 255).toNat, by omega⟩
  rw [hn] at c0 hr herr ⊢
  rw [Int.toNat_natCast]
  clear hn
  refine EvR.of_wpfC false true hm c_message_Read rfl rfl ?_
  refine wpf_seq1 ?_
  conv => whnf
  repeat' ((first | refine brP_t (by assumption) ?_ | refine brP_f (by assumption) ?_ | refine brP_t (decide_eq_true (by omega)) ?_ | refine brP_f (decide_eq_false (by omega)) ?_ | refine brP_t (nd_t (by omega)) ?_ | refine brP_f (nd_f (by omega)) ?_ | refine callK_r (EvR.fr [_] c0 rfl rfl ⟨rfl, trivial⟩ rfl) ?_ | refine callM_l (LEv.fr [_] c0 rfl rfl ⟨rfl, trivial⟩ rfl rfl) ?_ | refine callK_rt (EvR.fr [_] c0 rfl rfl ⟨rfl, trivial⟩ rfl) ?_ | refine callK_rf rfl (EvR.fr [_] c0 rfl rfl ⟨rfl, trivial⟩ rfl) ?_ | refine callK_rft rfl (EvR.fr [_] c0 rfl rfl ⟨rfl, trivial⟩ rfl) ?_ | refine wpfS_seq1 ?_ | refine wpfS_go ?_ | fail) <;> conv => whnf)
  by_cases he : s1.e = 0
  case neg =>
    have hn0 : n = 0 := by have := herr he; omega
    subst hn0
    have e1 : Msg.rds true 0 s1 = ([], s1) := rfl
    rw [e1, if_pos he]
    refine SemS.loop1 false hm ?_
    refine wpf_seq1 ?_
    conv => whnf
    repeat' ((first | refine brP_t (by assumption) ?_ | refine brP_f (by assumption) ?_ | refine brP_t (decide_eq_true (by omega)) ?_ | refine brP_f (decide_eq_false (by omega)) ?_ | refine brP_t (nd_t (by omega)) ?_ | refine brP_f (nd_f (by omega)) ?_ | refine wpfS_seq1 ?_ | refine wpfS_go ?_ | fail) <;> conv => whnf)
    exact ⟨rfl, rfl⟩
  clear herr
  refine SemS.nilT 3 7 (by omega) rfl ?_
  refine SemS.loopF false hm (σ := Nat × List Msg × St) (fun q => [(6, iv q.1), (5, iv n), (0, .c (.ptr (.par 0) 0)), (3, .c (.os (.loc 0) q.1))]) (fun q => ⟨q.2.2.pr, [.arr 7 false (msgs q.2.1)]⟩) (fun q => n - q.1)
    (fun q => q.1 ≤ n ∧ q.2.1.length = q.1 ∧ q.2.2.e = 0 ∧ Msg.rds true n s1 = (q.2.1 ++ (Msg.rds true (n - q.1) q.2.2).1, (Msg.rds true (n - q.1) q.2.2).2)) (0, [], s1) ⟨Nat.zero_le _, rfl, he, rfl⟩ ⟨rfl, rfl, rfl, rfl, trivial⟩ rfl ?_
  rintro ⟨i, acc, t⟩ ⟨hi, hacc, ht, hspec⟩
  have hi : i ≤ n := hi
  have hacc : acc.length = i := hacc
  have ht : t.e = 0 := ht
  have hspec : Msg.rds true n s1 = (acc ++ (Msg.rds true (n - i) t).1, (Msg.rds true (n - i) t).2) := hspec
  show wpf PR G false _ _ [(6, iv i), (5, iv n), (0, .c (.ptr (.par 0) 0)), (3, .c (.os (.loc 0) i))] ⟨t.pr, [.arr 7 false (msgs acc)]⟩ _
  by_cases hlt : i < n
  · have c1 := message_one_ok t
    have c2 := pr_err (Msg.rd true t).2
    have hw2 : IntKind.i64.wrap ((i : Int) + 1) = ((i + 1 : Nat) : Int) := by rw [wrap64 (by omega)]; rfl
    have hml := msgs_len (l := acc)
    have hstep : Msg.rds true (n - i) t = if (Msg.rd true t).2.e ≠ 0 then ([], (Msg.rd true t).2) else ((Msg.rd true t).1 :: (Msg.rds true (n - (i + 1)) (Msg.rd true t).2).1, (Msg.rds true (n - (i + 1)) (Msg.rd true t).2).2) := by
      rw [show n - i = (n - (i + 1)) + 1 by omega]; rfl
    rw [hstep] at hspec
    clear hstep
    generalize hrd : Msg.rd true t = q at *
    obtain ⟨m, t'⟩ := q
    dsimp only at *
    by_cases he' : t'.e = 0
    · rw [if_neg (by simp [he'])] at hspec
      refine wpf_seq1 ?_
      conv => whnf
      repeat' ((first | refine brP_t (by assumption) ?_ | refine brP_f (by assumption) ?_ | refine brP_t (decide_eq_true (by omega)) ?_ | refine brP_f (decide_eq_false (by omega)) ?_ | refine brP_t (nd_t (by omega)) ?_ | refine brP_f (nd_f (by omega)) ?_ | refine callK_r (EvR.fr [_] c1 rfl rfl ⟨rfl, trivial⟩ rfl) ?_ | refine callM_l (LEv.fr [_] c1 rfl rfl ⟨rfl, trivial⟩ rfl rfl) ?_ | refine callK_rt (EvR.fr [_] c1 rfl rfl ⟨rfl, trivial⟩ rfl) ?_ | refine callK_rf rfl (EvR.fr [_] c1 rfl rfl ⟨rfl, trivial⟩ rfl) ?_ | refine callK_rft rfl (EvR.fr [_] c1 rfl rfl ⟨rfl, trivial⟩ rfl) ?_ | refine callK_r (EvR.fr [_] c2 rfl rfl ⟨rfl, trivial⟩ rfl) ?_ | refine callM_l (LEv.fr [_] c2 rfl rfl ⟨rfl, trivial⟩ rfl rfl) ?_ | refine callK_rt (EvR.fr [_] c2 rfl rfl ⟨rfl, trivial⟩ rfl) ?_ | refine callK_rf rfl (EvR.fr [_] c2 rfl rfl ⟨rfl, trivial⟩ rfl) ?_ | refine callK_rft rfl (EvR.fr [_] c2 rfl rfl ⟨rfl, trivial⟩ rfl) ?_ | (refine gd_mk ?_ ?_; focus (simp [hml, hacc, Msg.row]; omega; done)) | refine wpfS_seq1 ?_ | refine wpfS_go ?_ | fail) <;> conv => whnf)
      rw [hw2]
      refine ⟨(i + 1, acc ++ [m], t'), ⟨hlt, by simp [hacc], he', ?_⟩, (show n - (i + 1) < n - i by omega), ⟨rfl, rfl, rfl, rfl, trivial⟩, ?_⟩
      · rw [hspec]; simp
      · show _ = (⟨t'.pr, [.arr 7 false (msgs (acc ++ [m]))]⟩ : Hp)
        rw [msgs_app]; rfl
    · rw [if_pos he'] at hspec
      rw [hspec, if_pos he']
      refine wpf_seq1 ?_
      conv => whnf
      repeat' ((first | refine brP_t (by assumption) ?_ | refine brP_f (by assumption) ?_ | refine brP_t (decide_eq_true (by omega)) ?_ | refine brP_f (decide_eq_false (by omega)) ?_ | refine brP_t (nd_t (by omega)) ?_ | refine brP_f (nd_f (by omega)) ?_ | refine callK_r (EvR.fr [_] c1 rfl rfl ⟨rfl, trivial⟩ rfl) ?_ | refine callM_l (LEv.fr [_] c1 rfl rfl ⟨rfl, trivial⟩ rfl rfl) ?_ | refine callK_rt (EvR.fr [_] c1 rfl rfl ⟨rfl, trivial⟩ rfl) ?_ | refine callK_rf rfl (EvR.fr [_] c1 rfl rfl ⟨rfl, trivial⟩ rfl) ?_ | refine callK_rft rfl (EvR.fr [_] c1 rfl rfl ⟨rfl, trivial⟩ rfl) ?_ | refine callK_r (EvR.fr [_] c2 rfl rfl ⟨rfl, trivial⟩ rfl) ?_ | refine callM_l (LEv.fr [_] c2 rfl rfl ⟨rfl, trivial⟩ rfl rfl) ?_ | refine callK_rt (EvR.fr [_] c2 rfl rfl ⟨rfl, trivial⟩ rfl) ?_ | refine callK_rf rfl (EvR.fr [_] c2 rfl rfl ⟨rfl, trivial⟩ rfl) ?_ | refine callK_rft rfl (EvR.fr [_] c2 rfl rfl ⟨rfl, trivial⟩ rfl) ?_ | (refine gd_mk ?_ ?_; focus (simp [hml, hacc, Msg.row]; omega; done)) | refine wpfS_seq1 ?_ | refine wpfS_go ?_ | fail) <;> conv => whnf)
      exact ⟨rfl, rfl⟩
  · have hin : i = n := by omega
    subst hin
    have e1 : Msg.rds true (i - i) t = ([], t) := by rw [Nat.sub_self]; rfl
    rw [e1] at hspec
    rw [hspec, if_neg (by simp [ht])]
    have hml := msgs_len (l := acc)
    refine wpf_seq1 ?_
    conv => whnf
    repeat' ((first | refine brP_t (by assumption) ?_ | refine brP_f (by assumption) ?_ | refine brP_t (decide_eq_true (by omega)) ?_ | refine brP_f (decide_eq_false (by omega)) ?_ | refine brP_t (nd_t (by omega)) ?_ | refine brP_f (nd_f (by omega)) ?_ | (refine gd_mk ?_ ?_; focus (simp [hml, hacc]; done)) | refine wpfS_seq1 ?_ | refine wpfS_go ?_ | fail) <;> conv => whnf)
    rw [List.append_nil]
    exact ⟨rfl, rfl⟩
end Go.Ab.S
