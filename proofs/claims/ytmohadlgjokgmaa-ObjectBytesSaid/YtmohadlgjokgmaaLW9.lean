/- Part of a proof; no condition. -/
import Derived.Test.YtmohadlgjokgmaaLW8
set_option linter.unusedSimpArgs false
set_option linter.unusedVariables false
namespace Go.Ab.S
open Go Go.Ab Go.Proofs
attribute [local irreducible] SemS
set_option maxRecDepth 100000
theorem rr_Text_ok (e : Int) (pre bs : List UInt8) (hl : (pre ++ bs).length < 2 ^ 40) (most : Int) : EvR PR G f_R05_R_Text [.c (.ptr (.par 0) 0), iv most] ⟨rrB e pre bs, []⟩ (.c (.p (.str (txtV e bs most)))) ⟨rrB (txtE e bs most) (pre ++ bs.take (bs.length - (txtL false e bs most).length)) (txtL false e bs most), []⟩ := by
  refine EvR.of_wpfC false false hm c_R05_R_Text rfl rfl ?_
  by_cases he : e = 0
  case neg =>
    have e1 : txtV e bs most = [] := by unfold txtV; rw [if_pos he]
    have e2 : txtE e bs most = e := by unfold txtE; rw [if_pos he]
    have e3 : txtL false e bs most = bs := by unfold txtL; rw [if_pos he]
    rw [e1, e2, e3, show bs.length - bs.length = 0 by omega, List.take_zero, List.append_nil]
    have hb := rr_Byte_bad e pre bs he
    refine wpf_seq1 ?_
    conv => whnf
    repeat' ((first | refine brP_t (by assumption) ?_ | refine brP_f (by assumption) ?_ | refine brP_t (decide_eq_true (by omega)) ?_ | refine brP_f (decide_eq_false (by omega)) ?_ | refine brP_t (nd_t (by omega)) ?_ | refine brP_f (nd_f (by omega)) ?_ | refine callK_r (EvR.fr [_] hb rfl rfl ⟨rfl, trivial⟩ rfl) ?_ | refine callM_l (LEv.fr [_] hb rfl rfl ⟨rfl, trivial⟩ rfl rfl) ?_ | refine callK_rt (EvR.fr [_] hb rfl rfl ⟨rfl, trivial⟩ rfl) ?_ | refine callK_rf rfl (EvR.fr [_] hb rfl rfl ⟨rfl, trivial⟩ rfl) ?_ | refine callK_rft rfl (EvR.fr [_] hb rfl rfl ⟨rfl, trivial⟩ rfl) ?_ | refine wpfS_seq1 ?_ | refine wpfS_go ?_ | fail) <;> conv => whnf)
    refine SemS.loop1 false hm ?_
    refine wpf_seq1 ?_
    conv => whnf
    repeat' ((first | refine brP_t (by assumption) ?_ | refine brP_f (by assumption) ?_ | refine brP_t (decide_eq_true (by omega)) ?_ | refine brP_f (decide_eq_false (by omega)) ?_ | refine brP_t (nd_t (by omega)) ?_ | refine brP_f (nd_f (by omega)) ?_ | refine wpfS_seq1 ?_ | refine wpfS_go ?_ | fail) <;> conv => whnf)
    exact ⟨rfl, rfl⟩
  subst he
  cases bs with
  | nil =>
    have hb := rr_Byte_end pre
    show wpf PR G false _ _ _ _ (endF false false _ fun r h => r = .c (.p (.str [])) ∧ cutH 0 h = ⟨rrB 4 (pre ++ []) [], []⟩)
    refine wpf_seq1 ?_
    conv => whnf
    repeat' ((first | refine brP_t (by assumption) ?_ | refine brP_f (by assumption) ?_ | refine brP_t (decide_eq_true (by omega)) ?_ | refine brP_f (decide_eq_false (by omega)) ?_ | refine brP_t (nd_t (by omega)) ?_ | refine brP_f (nd_f (by omega)) ?_ | refine callK_r (EvR.fr [_] hb rfl rfl ⟨rfl, trivial⟩ rfl) ?_ | refine callM_l (LEv.fr [_] hb rfl rfl ⟨rfl, trivial⟩ rfl rfl) ?_ | refine callK_rt (EvR.fr [_] hb rfl rfl ⟨rfl, trivial⟩ rfl) ?_ | refine callK_rf rfl (EvR.fr [_] hb rfl rfl ⟨rfl, trivial⟩ rfl) ?_ | refine callK_rft rfl (EvR.fr [_] hb rfl rfl ⟨rfl, trivial⟩ rfl) ?_ | refine wpfS_seq1 ?_ | refine wpfS_go ?_ | fail) <;> conv => whnf)
    refine SemS.loop1 false hm ?_
    refine wpf_seq1 ?_
    conv => whnf
    repeat' ((first | refine brP_t (by assumption) ?_ | refine brP_f (by assumption) ?_ | refine brP_t (decide_eq_true (by omega)) ?_ | refine brP_f (decide_eq_false (by omega)) ?_ | refine brP_t (nd_t (by omega)) ?_ | refine brP_f (nd_f (by omega)) ?_ | refine wpfS_seq1 ?_ | refine wpfS_go ?_ | fail) <;> conv => whnf)
    refine ⟨rfl, ?_⟩
    unfold rrB
    rw [List.append_nil, List.append_nil]; rfl
  | cons c r =>
    have hc := c.toNat_lt
    have hb := rr_Byte_ok pre c r (by omega)
    have e1 : txtV 0 (c :: r) most = if most < c.toNat then [] else if r.length < c.toNat then [] else r.take c.toNat := rfl
    have e2 : txtE 0 (c :: r) most = if most < c.toNat then 5 else if r.length < c.toNat then 4 else 0 := rfl
    have e3 : txtL false 0 (c :: r) most = if most < c.toNat then r else if r.length < c.toNat then [] else r.drop c.toNat := rfl
    rw [e1, e2, e3]
    by_cases h1 : most < c.toNat
    · rw [if_pos h1, if_pos h1, if_pos h1]
      rw [List.length_cons, show r.length + 1 - r.length = 1 by omega, show List.take 1 (c :: r) = [c] from rfl]
      clear e1 e2 e3
      have hz : (0 : Int) ≤ (c.toNat : Int) := by omega
      generalize (c.toNat : Int) = n at *
      by_cases hz : 0 < n
      all_goals
        refine wpf_seq1 ?_
        conv => whnf
        repeat' ((first | refine brP_t (by assumption) ?_ | refine brP_f (by assumption) ?_ | refine brP_t (decide_eq_true (by omega)) ?_ | refine brP_f (decide_eq_false (by omega)) ?_ | refine brP_t (nd_t (by omega)) ?_ | refine brP_f (nd_f (by omega)) ?_ | refine callK_r (EvR.fr [_] hb rfl rfl ⟨rfl, trivial⟩ rfl) ?_ | refine callM_l (LEv.fr [_] hb rfl rfl ⟨rfl, trivial⟩ rfl rfl) ?_ | refine callK_rt (EvR.fr [_] hb rfl rfl ⟨rfl, trivial⟩ rfl) ?_ | refine callK_rf rfl (EvR.fr [_] hb rfl rfl ⟨rfl, trivial⟩ rfl) ?_ | refine callK_rft rfl (EvR.fr [_] hb rfl rfl ⟨rfl, trivial⟩ rfl) ?_ | refine wpfS_seq1 ?_ | refine wpfS_go ?_ | fail) <;> conv => whnf)
        refine SemS.loop1 false hm ?_
        refine wpf_seq1 ?_
        conv => whnf
        repeat' ((first | refine brP_t (by assumption) ?_ | refine brP_f (by assumption) ?_ | refine brP_t (decide_eq_true (by omega)) ?_ | refine brP_f (decide_eq_false (by omega)) ?_ | refine brP_t (nd_t (by omega)) ?_ | refine brP_f (nd_f (by omega)) ?_ | refine wpfS_seq1 ?_ | refine wpfS_go ?_ | fail) <;> conv => whnf)
        exact ⟨rfl, rfl⟩
    rw [if_neg h1, if_neg h1, if_neg h1]
    have hl' : pre.length + r.length + 1 < 2 ^ 40 := by rw [List.length_append, List.length_cons] at hl; omega
    clear e1 e2 e3 hl
    refine wpf_seq1 ?_
    conv => whnf
    repeat' ((first | refine brP_t (by assumption) ?_ | refine brP_f (by assumption) ?_ | refine brP_t (decide_eq_true (by omega)) ?_ | refine brP_f (decide_eq_false (by omega)) ?_ | refine brP_t (nd_t (by omega)) ?_ | refine brP_f (nd_f (by omega)) ?_ | refine callK_r (EvR.fr [_] hb rfl rfl ⟨rfl, trivial⟩ rfl) ?_ | refine callM_l (LEv.fr [_] hb rfl rfl ⟨rfl, trivial⟩ rfl rfl) ?_ | refine callK_rt (EvR.fr [_] hb rfl rfl ⟨rfl, trivial⟩ rfl) ?_ | refine callK_rf rfl (EvR.fr [_] hb rfl rfl ⟨rfl, trivial⟩ rfl) ?_ | refine callK_rft rfl (EvR.fr [_] hb rfl rfl ⟨rfl, trivial⟩ rfl) ?_ | refine wpfS_seq1 ?_ | refine wpfS_go ?_ | fail) <;> conv => whnf)
    refine SemS.nilT 6 1 (by omega) rfl ?_
    refine SemS.loopF false hm (σ := Nat × Bool) (fun s => match s.2 with
        | false => [(6, .c (.os (.loc 0) s.1)), (7, iv s.1), (0, .c (.ptr (.par 0) 0)), (5, iv c.toNat)]
        | true => [(7, iv s.1), (0, .c (.ptr (.par 0) 0)), (5, iv c.toNat)])
      (fun s => match s.2 with
        | false => ⟨rrB 0 (pre ++ [c] ++ r.take s.1) (r.drop s.1), [.arr 1 false (bytesOf (r.take s.1))]⟩
        | true => ⟨rrB 4 (pre ++ [c] ++ r) [], [.arr 1 false (bytesOf r ++ [[.int .u8 0]])]⟩)
      (fun s => match s.2 with | false => 1 + c.toNat - s.1 | true => 0)
      (fun s => match s.2 with | false => s.1 ≤ c.toNat ∧ s.1 ≤ r.length | true => r.length < c.toNat ∧ s.1 ≤ c.toNat) (0, false) ⟨Nat.zero_le _, Nat.zero_le _⟩ ⟨rfl, rfl, rfl, rfl, trivial⟩ (by simp [rr_shift]; rfl) ?_
    rintro ⟨i, b⟩ hi
    cases b with
    | true =>
      obtain ⟨hb, hi⟩ := hi
      rw [if_pos hb, if_pos hb, if_pos hb, show (c :: r).length - ([] : List UInt8).length = (c :: r).length from rfl, List.take_length]
      have happ : pre ++ [c] ++ r = pre ++ (c :: r) := by simp
      show wpf PR G false _ _ [(7, iv i), (0, .c (.ptr (.par 0) 0)), (5, iv c.toNat)] ⟨rrB 4 (pre ++ [c] ++ r) [], [.arr 1 false (bytesOf r ++ [[.int .u8 0]])]⟩ _
      rw [happ]
      by_cases hz : (i : Int) < c.toNat
      all_goals
        refine wpf_seq1 ?_
        conv => whnf
        repeat' ((first | refine brP_t (by assumption) ?_ | refine brP_f (by assumption) ?_ | refine brP_t (decide_eq_true (by omega)) ?_ | refine brP_f (decide_eq_false (by omega)) ?_ | refine brP_t (nd_t (by omega)) ?_ | refine brP_f (nd_f (by omega)) ?_ | refine wpfS_seq1 ?_ | refine wpfS_go ?_ | fail) <;> conv => whnf)
        exact ⟨rfl, rfl⟩
    | false =>
      obtain ⟨hi, hb⟩ := hi
      by_cases hz : (i : Int) < c.toNat
      · by_cases hs : i = r.length
        · subst hs
          have hby := rr_Byte_end (pre ++ [c] ++ r)
          have hw2 : IntKind.i64.wrap ((r.length : Int) + 1) = ((r.length + 1 : Nat) : Int) := by rw [wrap64 (by omega)]; rfl
          show wpf PR G false _ _ [(6, .c (.os (.loc 0) r.length)), (7, iv r.length), (0, .c (.ptr (.par 0) 0)), (5, iv c.toNat)] ⟨rrB 0 (pre ++ [c] ++ r.take r.length) (r.drop r.length), [.arr 1 false (bytesOf (r.take r.length))]⟩ _
          have hbl := bytesOf_len r
          rw [List.take_length, List.drop_length]
          refine wpf_seq1 ?_
          conv => whnf
          repeat' ((first | refine brP_t (by assumption) ?_ | refine brP_f (by assumption) ?_ | refine brP_t (decide_eq_true (by omega)) ?_ | refine brP_f (decide_eq_false (by omega)) ?_ | refine brP_t (nd_t (by omega)) ?_ | refine brP_f (nd_f (by omega)) ?_ | refine callK_r (EvR.fr [_] hby rfl rfl ⟨rfl, trivial⟩ rfl) ?_ | refine callM_l (LEv.fr [_] hby rfl rfl ⟨rfl, trivial⟩ rfl rfl) ?_ | refine callK_rt (EvR.fr [_] hby rfl rfl ⟨rfl, trivial⟩ rfl) ?_ | refine callK_rf rfl (EvR.fr [_] hby rfl rfl ⟨rfl, trivial⟩ rfl) ?_ | refine callK_rft rfl (EvR.fr [_] hby rfl rfl ⟨rfl, trivial⟩ rfl) ?_ | (refine gd_mk ?_ ?_; focus (simp [hbl]; omega; done)) | refine wpfS_seq1 ?_ | refine wpfS_go ?_ | fail) <;> conv => whnf)
          rw [hw2]
          exact ⟨(r.length + 1, true), ⟨by omega, by omega⟩, (show 0 < 1 + c.toNat - r.length by omega), ⟨rfl, rfl, rfl, trivial⟩, rfl⟩
        · have hlt : i < r.length := by omega
          have hw2 : IntKind.i64.wrap ((i : Int) + 1) = ((i + 1 : Nat) : Int) := by rw [wrap64 (by omega)]; rfl
          have hd : r.drop i = r[i] :: r.drop (i + 1) := List.drop_eq_getElem_cons hlt
          have htk : r.take (i + 1) = r.take i ++ [r[i]] := List.take_succ_eq_append_getElem hlt
          have hpl : (pre ++ [c] ++ r.take i ++ r[i] :: r.drop (i + 1)).length = pre.length + r.length + 1 := by
            rw [← hd, List.append_assoc, List.take_append_drop, List.length_append, List.length_append]; simp; omega
          have hby := rr_Byte_ok (pre ++ [c] ++ r.take i) r[i] (r.drop (i + 1)) (by rw [hpl]; omega)
          have hct := r[i].toNat_lt
          have hw8 : IntKind.u8.wrap (r[i].toNat : Int) = r[i].toNat := wrap8 (by omega)
          have hbl := bytesOf_len (r.take i)
          have htl : (r.take i).length = i := by rw [List.length_take]; omega
          show wpf PR G false _ _ [(6, .c (.os (.loc 0) i)), (7, iv i), (0, .c (.ptr (.par 0) 0)), (5, iv c.toNat)] ⟨rrB 0 (pre ++ [c] ++ r.take i) (r.drop i), [.arr 1 false (bytesOf (r.take i))]⟩ _
          rw [hd]
          refine wpf_seq1 ?_
          conv => whnf
          repeat' ((first | refine brP_t (by assumption) ?_ | refine brP_f (by assumption) ?_ | refine brP_t (decide_eq_true (by omega)) ?_ | refine brP_f (decide_eq_false (by omega)) ?_ | refine brP_t (nd_t (by omega)) ?_ | refine brP_f (nd_f (by omega)) ?_ | refine callK_r (EvR.fr [_] hby rfl rfl ⟨rfl, trivial⟩ rfl) ?_ | refine callM_l (LEv.fr [_] hby rfl rfl ⟨rfl, trivial⟩ rfl rfl) ?_ | refine callK_rt (EvR.fr [_] hby rfl rfl ⟨rfl, trivial⟩ rfl) ?_ | refine callK_rf rfl (EvR.fr [_] hby rfl rfl ⟨rfl, trivial⟩ rfl) ?_ | refine callK_rft rfl (EvR.fr [_] hby rfl rfl ⟨rfl, trivial⟩ rfl) ?_ | (refine gd_mk ?_ ?_; focus (simp [hbl, htl]; omega; done)) | refine wpfS_seq1 ?_ | refine wpfS_go ?_ | fail) <;> conv => whnf)
          rw [hw2, hw8]
          refine ⟨(i + 1, false), ⟨by omega, by omega⟩, (show 1 + c.toNat - (i + 1) < 1 + c.toNat - i by omega), ⟨rfl, rfl, rfl, rfl, trivial⟩, ?_⟩
          show _ = (⟨rrB 0 (pre ++ [c] ++ r.take (i + 1)) (r.drop (i + 1)), [.arr 1 false (bytesOf (r.take (i + 1)))]⟩ : Hp)
          rw [htk, ← List.append_assoc, bytesOf_app (r.take i)]; rfl
      · have hik : i = c.toNat := by omega
        have hb' : ¬ r.length < c.toNat := by omega
        rw [if_neg hb', if_neg hb', if_neg hb']
        have htl : (r.take i).length = i := by rw [List.length_take]; omega
        have hbl := bytesOf_len (r.take i)
        have h5 : (c :: r).length - (r.drop i).length = i + 1 := by rw [List.length_drop, List.length_cons]; omega
        rw [← hik] at *
        rw [h5, List.take_succ_cons]
        show wpf PR G false _ _ [(6, .c (.os (.loc 0) i)), (7, iv i), (0, .c (.ptr (.par 0) 0)), (5, iv i)] ⟨rrB 0 (pre ++ [c] ++ r.take i) (r.drop i), [.arr 1 false (bytesOf (r.take i))]⟩ _
        have happ : pre ++ [c] ++ r.take i = pre ++ (c :: r.take i) := by simp
        rw [happ]
        refine wpf_seq1 ?_
        conv => whnf
        repeat' ((first | refine brP_t (by assumption) ?_ | refine brP_f (by assumption) ?_ | refine brP_t (decide_eq_true (by omega)) ?_ | refine brP_f (decide_eq_false (by omega)) ?_ | refine brP_t (nd_t (by omega)) ?_ | refine brP_f (nd_f (by omega)) ?_ | ((conv in (opS _ _ _ _) => whnf); rw [bytesS_os (s := r.take i) rfl]) | (refine gd_mk ?_ ?_; focus (simp [hbl, htl]; done)) | refine wpfS_seq1 ?_ | refine wpfS_go ?_ | fail) <;> conv => whnf)
        exact ⟨rfl, rfl⟩
end Go.Ab.S
