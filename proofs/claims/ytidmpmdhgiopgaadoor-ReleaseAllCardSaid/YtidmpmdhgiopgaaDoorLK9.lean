/- The document's rows of messages: putting in, and two rows as one; what is given back is a new slice. No condition. The calls at the end of each statement of layer 23. No condition. -/
import Derived.Test.YtidmpmdhgiopgaaDoorLK7
set_option linter.unusedSimpArgs false
set_option linter.unusedVariables false
namespace Go.Ab.S
open Go Go.Ab Go.Proofs
attribute [local irreducible] SemS
set_option maxRecDepth 100000
theorem insF_len (m : Msg) (l : List Msg) : (insF m l).length = l.length + 1 := (insF_perm m l).length_eq
theorem app_ok {n : Nat} {es new : List (List PV)} (h1 : n = es.length) (h2 : es.length + new.length ≤ 100000) (h3 : (new.all fun r => r.length == 7) = true) : (true && decide (n = es.length ∧ 7 = 7 ∧ (n + new.length) * 56 ≤ 2 ^ 47 ∧ n + new.length < 2 ^ 62) && new.all fun r => r.length == 7) = true := by
  rw [h3, Bool.and_true, Bool.true_and]
  exact decide_eq_true ⟨h1, rfl, by omega, by omega⟩
set_option maxHeartbeats 1000000 in
theorem R23_in_own (l : List Msg) (m : Msg) (hl : l.length ≤ 1000) : EvR PR G f_R23_in [slv (msgs l), .agg m.row] ⟨[], []⟩ (.c (.os (.loc 0) (insF m l).length)) ⟨[], [.arr 7 false (msgs (insF m l))]⟩ := by
  have hml := msgs_len (l := l)
  refine EvG.own (Q := fun r h => r = .c (.os (.loc 1) (insF m l).length) ∧ h = ⟨[], [.row m.row, .arr 7 false (msgs (insF m l))]⟩) ?_ (fun r h ⟨h1, h2⟩ => .inr ⟨1, 7, msgs (insF m l), by subst h1 h2; exact Nat.zero_le _, by subst h2; rfl, by subst h1; rfl, by subst h2; rfl, by subst h1 h2; exact ⟨rfl, rfl⟩⟩)
  refine EvG.of_wpf false false hm c_R23_in rfl ?_
  refine wpf_seq1 ?_
  conv => whnf
  repeat' ((first | refine brP_t (by assumption) ?_ | refine brP_f (by assumption) ?_ | refine brP_t (decide_eq_true (by omega)) ?_ | refine brP_f (decide_eq_false (by omega)) ?_ | refine brP_t (nd_t (by omega)) ?_ | refine brP_f (nd_f (by omega)) ?_ | refine wpfS_seq1 ?_ | refine wpfS_go ?_ | fail) <;> conv => whnf)
  refine SemS.nilT 5 7 (by decide) rfl ?_
  refine SemS.loopF false hm (σ := Nat) (fun k => [(6, iv k), (5, .c (.os (.loc 1) k)), (0, slv (msgs l)), (3, .c (.ptr (.loc 0) 0))]) (fun k => ⟨[], [.row m.row, .arr 7 false (msgs (l.take k))]⟩) (fun k => l.length - k) (fun k => k ≤ l.length ∧ insF m l = l.take k ++ insF m (l.drop k)) 0 ⟨Nat.zero_le _, rfl⟩ ⟨rfl, rfl, rfl, rfl, trivial⟩ rfl ?_
  rintro k ⟨hk, hi⟩
  have htl : (l.take k).length = k := by rw [List.length_take]; omega
  have hml2 := msgs_len (l := l.take k)
  have hma : msgs (l.take k ++ m :: l.drop k) = msgs (l.take k) ++ [m.row] ++ msgs (l.drop k) := by rw [msgs_app, List.append_assoc]; rfl
  have hdl : (msgs (l.drop k)).length = l.length - k := by rw [msgs_len, List.length_drop]
  have hmd : List.drop (k : Int).toNat (List.take l.length (msgs l)) = msgs (l.drop k) := by rw [Int.toNat_natCast, ← hml, List.take_length, msgs_drop]
  have ha := msgs_all l
  have hb := msgs_all (l.drop k)
  have hlen : ∀ X : List Msg, X = l.take k ++ m :: l.drop k → k + 1 + (msgs (l.drop k)).length = X.length := by
    intro X h
    rw [h, hdl, List.length_append, htl, List.length_cons, List.length_drop]; omega
  by_cases hk' : k < l.length
  · have hget := msgs_get hk'
    have hdr := List.drop_eq_getElem_cons hk'
    have htk : l.take (k + 1) = l.take k ++ [l[k]] := List.take_succ_eq_append_getElem hk'
    have hw2 : IntKind.i64.wrap ((k : Int) + 1) = ((k + 1 : Nat) : Int) := by rw [wrap64 (by omega)]; rfl
    generalize hx : l[k] = x at *
    by_cases hxm : x.no < m.no
    · conv => whnf
      repeat' ((first | refine brP_t (by assumption) ?_ | refine brP_f (by assumption) ?_ | refine brP_t (decide_eq_true (by omega)) ?_ | refine brP_f (decide_eq_false (by omega)) ?_ | refine brP_t (nd_t (by omega)) ?_ | refine brP_f (nd_f (by omega)) ?_ | ((rw [hml])) | ((conv in (opS _ _ _ _) => whnf); rw [Int.toNat_natCast, hget]) | ((conv in (opM _ _ _ _ _) => whnf); (conv in (opS _ _ _ _) => whnf); rw [Int.toNat_natCast, hget]) | ((rw [hw2])) | (refine gd_mk ?_ ?_; focus (exact app_ok (by rw [hml2, htl]) (by rw [hml2]; show _ + 1 ≤ _; omega) rfl; done)) | refine wpfS_seq1 ?_ | refine wpfS_go ?_ | fail) <;> conv => whnf)
      refine ⟨k + 1, ⟨hk', ?_⟩, (show l.length - (k + 1) < l.length - k by omega), ⟨rfl, rfl, rfl, rfl, trivial⟩, ?_⟩
      · rw [hi, hdr, htk, List.append_assoc]
        congr 1
        show insF m (x :: _) = _
        rw [insF, if_pos hxm]; rfl
      · show (⟨[], [_, .arr 7 false (msgs (l.take k) ++ [x.row])]⟩ : Hp) = ⟨[], [_, .arr 7 false (msgs (l.take (k + 1)))]⟩
        rw [htk, msgs_app]; rfl
    · have hins : insF m l = l.take k ++ m :: l.drop k := by
        rw [hi, hdr, insF, if_neg hxm]
      conv => whnf
      repeat' ((first | refine brP_t (by assumption) ?_ | refine brP_f (by assumption) ?_ | refine brP_t (decide_eq_true (by omega)) ?_ | refine brP_f (decide_eq_false (by omega)) ?_ | refine brP_t (nd_t (by omega)) ?_ | refine brP_f (nd_f (by omega)) ?_ | ((conv in (opS _ _ _ _) => whnf); rw [Int.toNat_natCast, hget]) | ((conv in (opM _ _ _ _ _) => whnf); (conv in (opS _ _ _ _) => whnf); rw [Int.toNat_natCast, hget]) | ((rw [hml])) | (refine gd_mk ?_ ?_; focus (exact app_ok (by rw [hml2, htl]) (by rw [hml2]; show _ + 1 ≤ _; omega) rfl; done)) | (refine gd_mk ?_ ?_; focus (rw [ha]; simp [hk]; done)) | ((rw [hmd])) | (refine gd_mk ?_ ?_; focus (exact app_ok (by rw [List.length_append, hml2, htl]) (by rw [List.length_append, hml2, hdl]; show _ + 1 + _ ≤ _; omega) hb; done)) | refine wpfS_seq1 ?_ | refine wpfS_go ?_ | fail) <;> conv => whnf)
      refine ⟨?_, ?_⟩
      · show AV.c (.os (.loc 1) (k + 1 + (msgs (l.drop k)).length)) = _
        rw [hlen _ rfl, ← hins]
      · show (⟨[], [_, .arr 7 false (msgs (l.take k) ++ [m.row] ++ msgs (l.drop k))]⟩ : Hp) = _
        rw [← hma, ← hins]
  · have hk2 : k = l.length := by omega
    have hins : insF m l = l.take k ++ m :: l.drop k := by
      rw [hi, hk2, List.drop_length]; rfl
    conv => whnf
    repeat' ((first | refine brP_t (by assumption) ?_ | refine brP_f (by assumption) ?_ | refine brP_t (decide_eq_true (by omega)) ?_ | refine brP_f (decide_eq_false (by omega)) ?_ | refine brP_t (nd_t (by omega)) ?_ | refine brP_f (nd_f (by omega)) ?_ | ((rw [hml])) | (refine gd_mk ?_ ?_; focus (exact app_ok (by rw [hml2, htl]) (by rw [hml2]; show _ + 1 ≤ _; omega) rfl; done)) | (refine gd_mk ?_ ?_; focus (rw [ha]; simp [hk]; done)) | ((rw [hmd])) | (refine gd_mk ?_ ?_; focus (exact app_ok (by rw [List.length_append, hml2, htl]) (by rw [List.length_append, hml2, hdl]; show _ + 1 + _ ≤ _; omega) hb; done)) | refine wpfS_seq1 ?_ | refine wpfS_go ?_ | fail) <;> conv => whnf)
    refine ⟨?_, ?_⟩
    · show AV.c (.os (.loc 1) (k + 1 + (msgs (l.drop k)).length)) = _
      rw [hlen _ rfl, ← hins]
    · show (⟨[], [_, .arr 7 false (msgs (l.take k) ++ [m.row] ++ msgs (l.drop k))]⟩ : Hp) = _
      rw [← hma, ← hins]
theorem both_take {a b : List Msg} {i : Nat} (h : i < b.length) : both a (b.take (i + 1)) = insF b[i] (both a (b.take i)) := by
  rw [List.take_succ_eq_append_getElem h, both, List.foldl_append]; rfl
theorem both_len (a b : List Msg) : (both a b).length = a.length + b.length := by rw [(both_perm b a).length_eq, List.length_append]
set_option maxHeartbeats 1000000 in
theorem R23_Both_own (a b : List Msg) (hl : a.length + b.length ≤ 1000) : EvR PR G f_R23_Both [slv (msgs a), slv (msgs b)] ⟨[], []⟩ (.c (.os (.loc 0) (both a b).length)) ⟨[], [.arr 7 false (msgs (both a b))]⟩ := by
  have hma := msgs_len (l := a)
  have hmb := msgs_len (l := b)
  have haa := msgs_all a
  refine EvR.of_wpf false false hm c_R23_Both rfl ?_
  refine wpf_seq1 ?_
  conv => whnf
  repeat' ((first | refine brP_t (by assumption) ?_ | refine brP_f (by assumption) ?_ | refine brP_t (decide_eq_true (by omega)) ?_ | refine brP_f (decide_eq_false (by omega)) ?_ | refine brP_t (nd_t (by omega)) ?_ | refine brP_f (nd_f (by omega)) ?_ | (refine gd_mk ?_ ?_; focus (rw [haa, hma]; simp; omega; done)) | refine wpfS_seq1 ?_ | refine wpfS_go ?_ | fail) <;> conv => whnf)
  refine SemS.loopO false hm (σ := Nat) (fun i => [(6, iv i), (5, .c (.os (.loc 0) (both a (b.take i)).length)), (1, slv (msgs b))]) (fun i => ⟨[], [.arr 7 false (msgs (both a (b.take i)))]⟩) (fun i => b.length - i) (fun i => i ≤ b.length) 0 0 (Nat.zero_le _) ⟨rfl, by show AV.c (.os _ _) = AV.c (.os _ _); rw [hma]; rfl, rfl, trivial⟩ rfl ?_
  intro i hi
  refine wpf_seq1 ?_
  conv => whnf
  try (refine wpfS_seq1 ?_; conv => whnf)
  refine brP_mk (fun h => ?_) (fun h => ?_)
  · have hi' : i < b.length := by
      have h := of_decide_eq_true h
      rw [hmb] at h; omega
    clear h
    have hget := msgs_get hi'
    have hw2 : IntKind.i64.wrap ((i : Int) + 1) = ((i + 1 : Nat) : Int) := by rw [wrap64 (by omega)]; rfl
    have hbt := both_take (a := a) hi'
    have hbl := both_len a (b.take i)
    rw [List.length_take, Nat.min_eq_left (by omega)] at hbl
    have hml := msgs_len (l := both a (b.take i))
    have hc := R23_in_own (both a (b.take i)) b[i] (by omega)
    rw [← hbt] at hc
    have hlen : (both a (b.take (i + 1))).length = (both a (b.take i)).length + 1 := by rw [hbt, insF_len]
    generalize hY : both a (b.take (i + 1)) = Y at *
    generalize hX : both a (b.take i) = X at *
    generalize b[i] = m at *
    have hfz : freezeAs ⟨[], [.arr 7 false (msgs X)]⟩ [.c (.os (.loc 0) X.length), .agg m.row] = some (true, [slv (msgs X), .agg m.row], ⟨[], [.arr 7 true (msgs X)]⟩) := by
      show some (decide (X.length = (msgs X).length) && true, _, _) = _
      rw [decide_eq_true hml.symm]; rfl
    repeat' ((first | refine brP_t (by assumption) ?_ | refine brP_f (by assumption) ?_ | refine brP_t (decide_eq_true (by omega)) ?_ | refine brP_f (decide_eq_false (by omega)) ?_ | refine brP_t (nd_t (by omega)) ?_ | refine brP_f (nd_f (by omega)) ?_ | ((conv in (opS _ _ _ _) => whnf); rw [Int.toNat_natCast, hget]) | ((conv in (opM _ _ _ _ _) => whnf); (conv in (opS _ _ _ _) => whnf); rw [Int.toNat_natCast, hget]) | refine callK_rf hfz (EvR.fr [] hc rfl rfl trivial rfl) ?_ | ((rw [hw2])) | refine wpfS_seq1 ?_ | refine wpfS_go ?_ | fail) <;> conv => whnf)
    refine ⟨i + 1, 1, 7, msgs Y, [(6, iv ((i + 1 : Nat) : Int)), (5, .c (.os (.loc 1) Y.length)), (1, slv (msgs b))], hi', (show b.length - (i + 1) < b.length - i by omega), ⟨rfl, rfl, rfl, trivial⟩, ?_, Nat.le_refl _, Nat.zero_le _, rfl, .inr ⟨Nat.le_refl _, msgs (both a (b.take i)), rfl, ?_⟩, ?_, rfl, rfl⟩
    · show [(6, _), (5, AV.c (.os (.loc 0) (both a (b.take (i + 1))).length)), (1, _)] = _
      rw [hY]; rfl
    · rw [msgs_len, msgs_len, hX, hlen]; omega
    · show (⟨[], [.arr 7 false (msgs Y)]⟩ : Hp) = ⟨[], [.arr 7 false (msgs (both a (b.take (i + 1))))]⟩
      rw [hY]
  · have hi' : i = b.length := by
      have h := of_decide_eq_false h
      rw [hmb] at h; omega
    subst hi'
    clear h
    rw [List.take_length]
    repeat' ((first | refine brP_t (by assumption) ?_ | refine brP_f (by assumption) ?_ | refine brP_t (decide_eq_true (by omega)) ?_ | refine brP_f (decide_eq_false (by omega)) ?_ | refine brP_t (nd_t (by omega)) ?_ | refine brP_f (nd_f (by omega)) ?_ | refine wpfS_seq1 ?_ | refine wpfS_go ?_ | fail) <;> conv => whnf)
    exact ⟨rfl, rfl⟩
/-- The same, its result read alone. -/
theorem EvR.read {g : FuncId} {args : List AV} {l : List Msg} (h : EvR PR G g args ⟨[], []⟩ (.c (.os (.loc 0) l.length)) ⟨[], [.arr 7 false (msgs l)]⟩) (ha : args.all pureV1 = true) : EvP PR G g args (slv (msgs l)) := by
  refine ⟨ha, rfl, ?_⟩
  have hf : freezeA ⟨[], [.arr 7 false (msgs l)]⟩ (.c (.os (.loc 0) l.length)) = some (true, slv (msgs l), ⟨[], [.arr 7 true (msgs l)]⟩) := by
    simp only [freezeA, freezeC, Hp.get, List.getElem?_cons_zero, msgs_len, decide_true]
    rfl
  exact (h.frz hf).mono fun r h q => q.1
theorem R23_Both_ok (a b : List Msg) (hl : a.length + b.length ≤ 1000) : EvP PR G f_R23_Both [slv (msgs a), slv (msgs b)] (slv (msgs (both a b))) := EvR.read (R23_Both_own a b hl) rfl
end Go.Ab.S

namespace Go.Ab.S
open Go Go.Ab Go.Proofs
attribute [local irreducible] SemS
set_option maxRecDepth 100000
def am1 : Msg := ⟨0, 0, 0, 0, 1, 0, [120]⟩
def am2 : Msg := ⟨0, 0, 0, 0, 2, 0, [121]⟩
def ay : Bx := ⟨2, [am1, { am2 with no := 1 }], [], []⟩
def aa : Bx := ⟨2, [], [am1, { am2 with no := 1 }], []⟩
def al : Bx := ⟨2, [{ am2 with no := 1 }], [], [am1]⟩
def ab : Bx := ⟨2, [], [], [am1]⟩
def ac : Bx := ⟨2, [am1], [], []⟩
end Go.Ab.S
