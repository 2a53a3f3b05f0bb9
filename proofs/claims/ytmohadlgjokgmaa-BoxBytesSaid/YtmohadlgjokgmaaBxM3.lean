/- Part of a proof; no condition. -/
import Derived.Test.YtmohadlgjokgmaaBxM2
set_option linter.unusedSimpArgs false
set_option linter.unusedVariables false
namespace Go.Ab.S
open Go Go.Ab Go.Proofs
attribute [local irreducible] SemS
set_option maxRecDepth 100000
theorem Msg.rd_suf {B : List UInt8} {s : St} (h : Suf B s.b) (keep : Bool) : Suf B (Msg.rd keep s).2.b :=
  ((((((h.num keep 4 2147483647).num keep 1 255).num keep 2 65535).num keep 2 65535).num keep 1 15).num keep 2 65535).txt keep 32
set_option maxHeartbeats 1000000 in
theorem R22_Read_ok (B : List UInt8) (hB : B.length < 2 ^ 40) (s : St) (hs : Suf B s.b) : EvR PR G f_R22_Read [.c (.ptr (.par 0) 0)] ⟨s.px B, []⟩ (slv (msgs (Msg.rdL false s).1)) ⟨(Msg.rdL false s).2.px B, []⟩ := by
  unfold Msg.rdL
  dsimp only
  have c0 := px_byte hs (by omega) 255 (by omega)
  have hs1 := hs.num false 1 255
  have hr := nv_range (s := s) (size := 1) (most := 255) (by omega)
  have herr := nv_err (s := s) (keep := false)
  generalize s.num false 1 255 = s1 at *
  obtain ⟨n, hn⟩ : ∃ n : Nat, s.nv 1 255 = n := ⟨(s.nv 1 255).toNat, by omega⟩
  rw [hn] at c0 hr herr ⊢
  rw [Int.toNat_natCast]
  clear hn hs
  refine EvR.of_wpfC false true hm c_R22_Read rfl rfl ?_
  refine wpf_seq1 ?_
  conv => whnf
  repeat' ((first | refine brP_t (by assumption) ?_ | refine brP_f (by assumption) ?_ | refine brP_t (decide_eq_true (by omega)) ?_ | refine brP_f (decide_eq_false (by omega)) ?_ | refine brP_t (nd_t (by omega)) ?_ | refine brP_f (nd_f (by omega)) ?_ | refine callK_r (EvR.fr [_] c0 rfl rfl ⟨rfl, trivial⟩ rfl) ?_ | refine callM_l (LEv.fr [_] c0 rfl rfl ⟨rfl, trivial⟩ rfl rfl) ?_ | refine callK_rt (EvR.fr [_] c0 rfl rfl ⟨rfl, trivial⟩ rfl) ?_ | refine callK_rf rfl (EvR.fr [_] c0 rfl rfl ⟨rfl, trivial⟩ rfl) ?_ | refine callK_rft rfl (EvR.fr [_] c0 rfl rfl ⟨rfl, trivial⟩ rfl) ?_ | refine wpfS_seq1 ?_ | refine wpfS_go ?_ | fail) <;> conv => whnf)
  by_cases he : s1.e = 0
  case neg =>
    have hn0 : n = 0 := by have := herr he; omega
    subst hn0
    have e1 : Msg.rds false 0 s1 = ([], s1) := rfl
    rw [e1, if_pos he]
    refine SemS.loop1 false hm ?_
    refine wpf_seq1 ?_
    conv => whnf
    repeat' ((first | refine brP_t (by assumption) ?_ | refine brP_f (by assumption) ?_ | refine brP_t (decide_eq_true (by omega)) ?_ | refine brP_f (decide_eq_false (by omega)) ?_ | refine brP_t (nd_t (by omega)) ?_ | refine brP_f (nd_f (by omega)) ?_ | refine wpfS_seq1 ?_ | refine wpfS_go ?_ | fail) <;> conv => whnf)
    exact ⟨rfl, rfl⟩
  clear herr
  refine SemS.nilT 4 7 (by omega) rfl ?_
  refine SemS.loopC false hm (σ := Nat × List Msg × St × Bool) (fun q => [(5, iv q.1), (3, iv n), (0, .c (.ptr (.par 0) 0)), (4, .c (.os (.loc 0) q.1))]) (fun q => ⟨q.2.2.1.px B, [.arr 7 false (msgs q.2.1)]⟩) (fun q => match q.2.2.2 with | true => 0 | false => 1 + n - q.1)
    (fun q => q.1 ≤ n ∧ q.2.1.length = q.1 ∧ Suf B q.2.2.1.b ∧ match q.2.2.2 with
      | false => q.2.2.1.e = 0 ∧ Msg.rds false n s1 = (q.2.1 ++ (Msg.rds false (n - q.1) q.2.2.1).1, (Msg.rds false (n - q.1) q.2.2.1).2)
      | true => q.2.2.1.e ≠ 0 ∧ (Msg.rds false n s1).2 = q.2.2.1) (0, [], s1, false) ⟨Nat.zero_le _, rfl, hs1, he, rfl⟩ ⟨rfl, rfl, rfl, rfl, trivial⟩ rfl ?_
  rintro ⟨i, acc, t, b⟩ ⟨hi, hacc, hsuf, hspec⟩
  have hi : i ≤ n := hi
  have hacc : acc.length = i := hacc
  have hsuf : Suf B t.b := hsuf
  have hml := msgs_len (l := acc)
  cases b with
  | true =>
    obtain ⟨hne, hsp⟩ := hspec
    have hne : t.e ≠ 0 := hne
    have hsp : (Msg.rds false n s1).2 = t := hsp
    rw [hsp, if_pos hne]
    show wpf PR G false _ _ [(5, iv i), (3, iv n), (0, .c (.ptr (.par 0) 0)), (4, .c (.os (.loc 0) i))] ⟨t.px B, [.arr 7 false (msgs acc)]⟩ _
    by_cases hlt : (i : Int) < n
    all_goals
      refine wpf_seq1 ?_
      conv => whnf
      repeat' ((first | refine brP_t (by assumption) ?_ | refine brP_f (by assumption) ?_ | refine brP_t (decide_eq_true (by omega)) ?_ | refine brP_f (decide_eq_false (by omega)) ?_ | refine brP_t (nd_t (by omega)) ?_ | refine brP_f (nd_f (by omega)) ?_ | refine wpfS_seq1 ?_ | refine wpfS_go ?_ | fail) <;> conv => whnf)
      exact ⟨rfl, rfl⟩
  | false =>
    obtain ⟨ht, hspec⟩ := hspec
    have ht : t.e = 0 := ht
    have hspec : Msg.rds false n s1 = (acc ++ (Msg.rds false (n - i) t).1, (Msg.rds false (n - i) t).2) := hspec
    show wpf PR G false _ _ [(5, iv i), (3, iv n), (0, .c (.ptr (.par 0) 0)), (4, .c (.os (.loc 0) i))] ⟨t.px B, [.arr 7 false (msgs acc)]⟩ _
    by_cases hlt : i < n
    · have hw2 : IntKind.i64.wrap ((i : Int) + 1) = ((i + 1 : Nat) : Int) := by rw [wrap64 (by omega)]; rfl
      have hstep : Msg.rds false (n - i) t = if (Msg.rd false t).2.e ≠ 0 then ([], (Msg.rd false t).2) else ((Msg.rd false t).1 :: (Msg.rds false (n - (i + 1)) (Msg.rd false t).2).1, (Msg.rds false (n - (i + 1)) (Msg.rd false t).2).2) := by
        rw [show n - i = (n - (i + 1)) + 1 by omega]; rfl
      rw [hstep] at hspec
      clear hstep
      have hsuf' := Msg.rd_suf hsuf false
      generalize hrd : Msg.rd false t = q at *
      obtain ⟨m, t'⟩ := q
      unfold Msg.rd at hrd
      dsimp only at *
      have d0 := px_num hsuf (by omega) 4 2147483647
      have f0 := hsuf.num false 4 2147483647
      generalize t.num false 4 2147483647 = t1 at *
      have d1 := px_byte f0 (by omega) 255 (by omega)
      have f1 := f0.num false 1 255
      generalize t1.num false 1 255 = t2 at *
      have d2 := px_num f1 (by omega) 2 65535
      have f2 := f1.num false 2 65535
      have u2 := nv_u16 (s := t2) (size := 2)
      generalize t2.num false 2 65535 = t3 at *
      have d3 := px_num f2 (by omega) 2 65535
      have f3 := f2.num false 2 65535
      have u3 := nv_u16 (s := t3) (size := 2)
      generalize t3.num false 2 65535 = t4 at *
      have d4 := px_num f3 (by omega) 1 15
      have f4 := f3.num false 1 15
      generalize t4.num false 1 15 = t5 at *
      have d5 := px_num f4 (by omega) 2 65535
      have f5 := f4.num false 2 65535
      have u5 := nv_u16 (s := t5) (size := 2)
      generalize t5.num false 2 65535 = t6 at *
      have d6 := px_txt f5 hB 32
      have f6 := f5.txt false 32
      generalize t6.txt false 32 = t7 at *
      generalize t.nv 4 2147483647 = v0 at *
      generalize t1.nv 1 255 = v1 at *
      generalize t2.nv 2 65535 = v2 at *
      generalize t3.nv 2 65535 = v3 at *
      generalize t4.nv 1 15 = v4 at *
      generalize t5.nv 2 65535 = v5 at *
      generalize t6.tv 32 = v6 at *
      have e7 : t7 = t' := congrArg Prod.snd hrd
      have em := congrArg Prod.fst hrd
      dsimp only at em
      subst e7
      clear hrd
      clear f0 f1 f2 f3 f4 f5
      by_cases he' : t7.e = 0
      · rw [if_neg (by simp [he'])] at hspec
        refine wpf_seq1 ?_
        conv => whnf
        repeat' ((first | refine brP_t (by assumption) ?_ | refine brP_f (by assumption) ?_ | refine brP_t (decide_eq_true (by omega)) ?_ | refine brP_f (decide_eq_false (by omega)) ?_ | refine brP_t (nd_t (by omega)) ?_ | refine brP_f (nd_f (by omega)) ?_ | refine callK_r (EvR.fr [_] d0 rfl rfl ⟨rfl, trivial⟩ rfl) ?_ | refine callM_l (LEv.fr [_] d0 rfl rfl ⟨rfl, trivial⟩ rfl rfl) ?_ | refine callK_rt (EvR.fr [_] d0 rfl rfl ⟨rfl, trivial⟩ rfl) ?_ | refine callK_rf rfl (EvR.fr [_] d0 rfl rfl ⟨rfl, trivial⟩ rfl) ?_ | refine callK_rft rfl (EvR.fr [_] d0 rfl rfl ⟨rfl, trivial⟩ rfl) ?_ | refine callK_r (EvR.fr [_] d1 rfl rfl ⟨rfl, trivial⟩ rfl) ?_ | refine callM_l (LEv.fr [_] d1 rfl rfl ⟨rfl, trivial⟩ rfl rfl) ?_ | refine callK_rt (EvR.fr [_] d1 rfl rfl ⟨rfl, trivial⟩ rfl) ?_ | refine callK_rf rfl (EvR.fr [_] d1 rfl rfl ⟨rfl, trivial⟩ rfl) ?_ | refine callK_rft rfl (EvR.fr [_] d1 rfl rfl ⟨rfl, trivial⟩ rfl) ?_ | refine callK_r (EvR.fr [_] d2 rfl rfl ⟨rfl, trivial⟩ rfl) ?_ | refine callM_l (LEv.fr [_] d2 rfl rfl ⟨rfl, trivial⟩ rfl rfl) ?_ | refine callK_rt (EvR.fr [_] d2 rfl rfl ⟨rfl, trivial⟩ rfl) ?_ | refine callK_rf rfl (EvR.fr [_] d2 rfl rfl ⟨rfl, trivial⟩ rfl) ?_ | refine callK_rft rfl (EvR.fr [_] d2 rfl rfl ⟨rfl, trivial⟩ rfl) ?_ | refine callK_r (EvR.fr [_] d3 rfl rfl ⟨rfl, trivial⟩ rfl) ?_ | refine callM_l (LEv.fr [_] d3 rfl rfl ⟨rfl, trivial⟩ rfl rfl) ?_ | refine callK_rt (EvR.fr [_] d3 rfl rfl ⟨rfl, trivial⟩ rfl) ?_ | refine callK_rf rfl (EvR.fr [_] d3 rfl rfl ⟨rfl, trivial⟩ rfl) ?_ | refine callK_rft rfl (EvR.fr [_] d3 rfl rfl ⟨rfl, trivial⟩ rfl) ?_ | refine callK_r (EvR.fr [_] d4 rfl rfl ⟨rfl, trivial⟩ rfl) ?_ | refine callM_l (LEv.fr [_] d4 rfl rfl ⟨rfl, trivial⟩ rfl rfl) ?_ | refine callK_rt (EvR.fr [_] d4 rfl rfl ⟨rfl, trivial⟩ rfl) ?_ | refine callK_rf rfl (EvR.fr [_] d4 rfl rfl ⟨rfl, trivial⟩ rfl) ?_ | refine callK_rft rfl (EvR.fr [_] d4 rfl rfl ⟨rfl, trivial⟩ rfl) ?_ | refine callK_r (EvR.fr [_] d5 rfl rfl ⟨rfl, trivial⟩ rfl) ?_ | refine callM_l (LEv.fr [_] d5 rfl rfl ⟨rfl, trivial⟩ rfl rfl) ?_ | refine callK_rt (EvR.fr [_] d5 rfl rfl ⟨rfl, trivial⟩ rfl) ?_ | refine callK_rf rfl (EvR.fr [_] d5 rfl rfl ⟨rfl, trivial⟩ rfl) ?_ | refine callK_rft rfl (EvR.fr [_] d5 rfl rfl ⟨rfl, trivial⟩ rfl) ?_ | refine callK_r (EvR.fr [_] d6 rfl rfl ⟨rfl, trivial⟩ rfl) ?_ | refine callM_l (LEv.fr [_] d6 rfl rfl ⟨rfl, trivial⟩ rfl rfl) ?_ | refine callK_rt (EvR.fr [_] d6 rfl rfl ⟨rfl, trivial⟩ rfl) ?_ | refine callK_rf rfl (EvR.fr [_] d6 rfl rfl ⟨rfl, trivial⟩ rfl) ?_ | refine callK_rft rfl (EvR.fr [_] d6 rfl rfl ⟨rfl, trivial⟩ rfl) ?_ | (refine gd_mk ?_ ?_; focus (simp [hml, hacc, putAt]; omega; done)) | refine wpfS_seq1 ?_ | refine wpfS_go ?_ | fail) <;> conv => whnf)
        rw [hw2, u2, u3, u5]
        refine ⟨(i + 1, acc ++ [m], t7, false), 1, ⟨hlt, by simp [hacc], f6, he', ?_⟩, (show 1 + n - (i + 1) < 1 + n - i by omega), ⟨rfl, rfl, rfl, rfl, trivial⟩, Nat.le_refl 1, ?_, rfl, rfl⟩
        · rw [hspec]; simp
        · show _ = (⟨t7.px B, [.arr 7 false (msgs (acc ++ [m]))]⟩ : Hp)
          rw [msgs_app, ← em]; rfl
      · rw [if_pos he'] at hspec
        refine wpf_seq1 ?_
        conv => whnf
        repeat' ((first | refine brP_t (by assumption) ?_ | refine brP_f (by assumption) ?_ | refine brP_t (decide_eq_true (by omega)) ?_ | refine brP_f (decide_eq_false (by omega)) ?_ | refine brP_t (nd_t (by omega)) ?_ | refine brP_f (nd_f (by omega)) ?_ | refine callK_r (EvR.fr [_] d0 rfl rfl ⟨rfl, trivial⟩ rfl) ?_ | refine callM_l (LEv.fr [_] d0 rfl rfl ⟨rfl, trivial⟩ rfl rfl) ?_ | refine callK_rt (EvR.fr [_] d0 rfl rfl ⟨rfl, trivial⟩ rfl) ?_ | refine callK_rf rfl (EvR.fr [_] d0 rfl rfl ⟨rfl, trivial⟩ rfl) ?_ | refine callK_rft rfl (EvR.fr [_] d0 rfl rfl ⟨rfl, trivial⟩ rfl) ?_ | refine callK_r (EvR.fr [_] d1 rfl rfl ⟨rfl, trivial⟩ rfl) ?_ | refine callM_l (LEv.fr [_] d1 rfl rfl ⟨rfl, trivial⟩ rfl rfl) ?_ | refine callK_rt (EvR.fr [_] d1 rfl rfl ⟨rfl, trivial⟩ rfl) ?_ | refine callK_rf rfl (EvR.fr [_] d1 rfl rfl ⟨rfl, trivial⟩ rfl) ?_ | refine callK_rft rfl (EvR.fr [_] d1 rfl rfl ⟨rfl, trivial⟩ rfl) ?_ | refine callK_r (EvR.fr [_] d2 rfl rfl ⟨rfl, trivial⟩ rfl) ?_ | refine callM_l (LEv.fr [_] d2 rfl rfl ⟨rfl, trivial⟩ rfl rfl) ?_ | refine callK_rt (EvR.fr [_] d2 rfl rfl ⟨rfl, trivial⟩ rfl) ?_ | refine callK_rf rfl (EvR.fr [_] d2 rfl rfl ⟨rfl, trivial⟩ rfl) ?_ | refine callK_rft rfl (EvR.fr [_] d2 rfl rfl ⟨rfl, trivial⟩ rfl) ?_ | refine callK_r (EvR.fr [_] d3 rfl rfl ⟨rfl, trivial⟩ rfl) ?_ | refine callM_l (LEv.fr [_] d3 rfl rfl ⟨rfl, trivial⟩ rfl rfl) ?_ | refine callK_rt (EvR.fr [_] d3 rfl rfl ⟨rfl, trivial⟩ rfl) ?_ | refine callK_rf rfl (EvR.fr [_] d3 rfl rfl ⟨rfl, trivial⟩ rfl) ?_ | refine callK_rft rfl (EvR.fr [_] d3 rfl rfl ⟨rfl, trivial⟩ rfl) ?_ | refine callK_r (EvR.fr [_] d4 rfl rfl ⟨rfl, trivial⟩ rfl) ?_ | refine callM_l (LEv.fr [_] d4 rfl rfl ⟨rfl, trivial⟩ rfl rfl) ?_ | refine callK_rt (EvR.fr [_] d4 rfl rfl ⟨rfl, trivial⟩ rfl) ?_ | refine callK_rf rfl (EvR.fr [_] d4 rfl rfl ⟨rfl, trivial⟩ rfl) ?_ | refine callK_rft rfl (EvR.fr [_] d4 rfl rfl ⟨rfl, trivial⟩ rfl) ?_ | refine callK_r (EvR.fr [_] d5 rfl rfl ⟨rfl, trivial⟩ rfl) ?_ | refine callM_l (LEv.fr [_] d5 rfl rfl ⟨rfl, trivial⟩ rfl rfl) ?_ | refine callK_rt (EvR.fr [_] d5 rfl rfl ⟨rfl, trivial⟩ rfl) ?_ | refine callK_rf rfl (EvR.fr [_] d5 rfl rfl ⟨rfl, trivial⟩ rfl) ?_ | refine callK_rft rfl (EvR.fr [_] d5 rfl rfl ⟨rfl, trivial⟩ rfl) ?_ | refine callK_r (EvR.fr [_] d6 rfl rfl ⟨rfl, trivial⟩ rfl) ?_ | refine callM_l (LEv.fr [_] d6 rfl rfl ⟨rfl, trivial⟩ rfl rfl) ?_ | refine callK_rt (EvR.fr [_] d6 rfl rfl ⟨rfl, trivial⟩ rfl) ?_ | refine callK_rf rfl (EvR.fr [_] d6 rfl rfl ⟨rfl, trivial⟩ rfl) ?_ | refine callK_rft rfl (EvR.fr [_] d6 rfl rfl ⟨rfl, trivial⟩ rfl) ?_ | (refine gd_mk ?_ ?_; focus (simp [hml, hacc, putAt]; omega; done)) | refine wpfS_seq1 ?_ | refine wpfS_go ?_ | fail) <;> conv => whnf)
        rw [hw2, u2, u3, u5]
        refine ⟨(i + 1, acc ++ [m], t7, true), 1, ⟨hlt, by simp [hacc], f6, he', by rw [hspec]⟩, (show 0 < 1 + n - i by omega), ⟨rfl, rfl, rfl, rfl, trivial⟩, Nat.le_refl 1, ?_, rfl, rfl⟩
        show _ = (⟨t7.px B, [.arr 7 false (msgs (acc ++ [m]))]⟩ : Hp)
        rw [msgs_app, ← em]; rfl
    · have hin : i = n := by omega
      subst hin
      have e1 : Msg.rds false (i - i) t = ([], t) := by rw [Nat.sub_self]; rfl
      rw [e1] at hspec
      rw [hspec, if_neg (by simp [ht])]
      refine wpf_seq1 ?_
      conv => whnf
      repeat' ((first | refine brP_t (by assumption) ?_ | refine brP_f (by assumption) ?_ | refine brP_t (decide_eq_true (by omega)) ?_ | refine brP_f (decide_eq_false (by omega)) ?_ | refine brP_t (nd_t (by omega)) ?_ | refine brP_f (nd_f (by omega)) ?_ | (refine gd_mk ?_ ?_; focus (simp [hml, hacc]; done)) | refine wpfS_seq1 ?_ | refine wpfS_go ?_ | fail) <;> conv => whnf)
      rw [List.append_nil]
      exact ⟨rfl, rfl⟩
end Go.Ab.S
