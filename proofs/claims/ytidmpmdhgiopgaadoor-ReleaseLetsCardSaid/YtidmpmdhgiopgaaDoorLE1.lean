/- What was set aside, let go: the document's way. No condition. -/
import Derived.Test.YtidmpmdhgiopgaaDoorLK13
import Derived.Test.YtidmpmdhgiopgaaDoorLP9
set_option linter.unusedSimpArgs false
set_option linter.unusedVariables false
namespace Go.Ab.S
open Go Go.Ab Go.Proofs
attribute [local irreducible] SemS
set_option maxRecDepth 100000
/-- A message as it is in an epoch. -/
def asIt (M : Nat → Nat) (e : Int) (m : Msg) : Msg := if m.ep = e then m else m.map M
theorem asIt_ok {M : Nat → Nat} {e : Int} {m : Msg} (h : m.Ok) : (asIt M e m).Ok := by
  unfold asIt
  split
  · exact h
  · exact Msg.map_ok h
def keepB (p : Pol) (M : Nat → Nat) (e : Int) (m : Msg) : Bool := subB (asIt M e m).used (capsN p (asIt M e m).role (asIt M e m).s (asIt M e m).i)
/-- What tells that a message was let go. -/
def evR (o : Ob) (e : Int) (x : Msg) : List PV := [.int .i64 4, .int .u16 x.s, .int .u16 x.i, .int .u16 o.ls, .int .u16 o.li, .int .i64 e, .int .i64 x.role, .int .u16 x.s, .int .u16 x.i, .int .u16 x.used]
def evsL (p : Pol) (M : Nat → Nat) (e : Int) (o : Ob) (l : List Msg) : List (List PV) := (l.filter (keepB p M e)).map fun m => evR o e (asIt M e m)
def Ob.let_ (o : Ob) (k : Msg → Bool) : Ob := { o with bx := o.bx.letK k }
theorem evs_all (p : Pol) (M : Nat → Nat) (e : Int) (o : Ob) (l : List Msg) : ((evsL p M e o l).all fun r => r.length == 10) = true := by simp [evsL, evR]
theorem evs_len (p : Pol) (M : Nat → Nat) (e : Int) (o : Ob) (l : List Msg) : (evsL p M e o l).length ≤ l.length := by
  rw [evsL, List.length_map]; exact List.length_filter_le _ _
theorem evs_step (p : Pol) (M : Nat → Nat) (e : Int) (o : Ob) {l : List Msg} {i : Nat} (h : i < l.length) : evsL p M e o (l.take (i + 1)) = evsL p M e o (l.take i) ++ if keepB p M e l[i] then [evR o e (asIt M e l[i])] else [] := by
  rw [List.take_succ_eq_append_getElem h, evsL, List.filter_append, List.map_append]
  congr 1
  rw [List.filter_cons]
  split
  · rfl
  · rfl
theorem R32_AsItIs_ok (M : Nat → Nat) (hM : ∀ i, i < 16 → M i ≤ 255) (e : Int) (m : Msg) (hm' : m.Ok) : EvP PR G f_R32_AsItIs [mv M, iv e, .agg m.row] (.agg (asIt M e m).row) := by
  have h1 := R04_Label_ok M hM m.s m.i hm'.s hm'.i
  have h2 := R04_Set_ok M hM m.used hm'.used
  have hr : asIt M e m = if m.ep = e then m else m.map M := rfl
  rw [hr]
  by_cases he : m.ep = e
  · rw [if_pos he]
    obtain ⟨no, ep, s, i', role, used, data⟩ := m
    dsimp only at he
    refine EvP.of_wpf false hm c_R32_AsItIs rfl ?_
    refine wpf_seq1 ?_
    conv => whnf
    repeat' ((first | refine brP_t (by assumption) ?_ | refine brP_f (by assumption) ?_ | refine brP_t (decide_eq_true (by omega)) ?_ | refine brP_f (decide_eq_false (by omega)) ?_ | refine brP_t (nd_t (by omega)) ?_ | refine brP_f (nd_f (by omega)) ?_ | refine callK_p h1 ?_ | refine callM_p h1 rfl ?_ | refine callK_pf rfl h1 ?_ | refine callK_pk rfl h1 ?_ | refine callK_p h2 ?_ | refine callM_p h2 rfl ?_ | refine callK_pf rfl h2 ?_ | refine callK_pk rfl h2 ?_ | refine wpfS_seq1 ?_ | refine wpfS_go ?_ | fail) <;> conv => whnf)
    rfl
  · rw [if_neg he]
    obtain ⟨no, ep, s, i', role, used, data⟩ := m
    dsimp only at he
    refine EvP.of_wpf false hm c_R32_AsItIs rfl ?_
    refine wpf_seq1 ?_
    conv => whnf
    repeat' ((first | refine brP_t (by assumption) ?_ | refine brP_f (by assumption) ?_ | refine brP_t (decide_eq_true (by omega)) ?_ | refine brP_f (decide_eq_false (by omega)) ?_ | refine brP_t (nd_t (by omega)) ?_ | refine brP_f (nd_f (by omega)) ?_ | refine callK_p h1 ?_ | refine callM_p h1 rfl ?_ | refine callK_pf rfl h1 ?_ | refine callK_pk rfl h1 ?_ | refine callK_p h2 ?_ | refine callM_p h2 rfl ?_ | refine callK_pf rfl h2 ?_ | refine callK_pk rfl h2 ?_ | refine wpfS_seq1 ?_ | refine wpfS_go ?_ | fail) <;> conv => whnf)
    rfl
theorem R32_Keep_ok (p : Pol) (hp : p.Ok) (M : Nat → Nat) (hM : ∀ i, i < 16 → M i ≤ 255) (e : Int) (m : Msg) (hm' : m.Ok) : EvP PR G f_R32_Keep [p.v, mv M, iv e, .agg m.row] (bv (keepB p M e m)) := by
  have c1 := R32_AsItIs_ok M hM e m hm'
  have hx := asIt_ok (M := M) (e := e) hm'
  unfold keepB
  generalize asIt M e m = x at *
  have c2 := R12_Caps_ok p hp x.role x.s x.i hx.s hx.i
  have c3 := R01_Sub_ok x.used (capsN p x.role x.s x.i) hx.used caps_lt
  generalize capsN p x.role x.s x.i = cN at *
  obtain ⟨no, ep, s, i', role, used, data⟩ := x
  refine EvP.of_wpf false hm c_R32_Keep rfl ?_
  refine wpf_seq1 ?_
  conv => whnf
  repeat' ((first | refine brP_t (by assumption) ?_ | refine brP_f (by assumption) ?_ | refine brP_t (decide_eq_true (by omega)) ?_ | refine brP_f (decide_eq_false (by omega)) ?_ | refine brP_t (nd_t (by omega)) ?_ | refine brP_f (nd_f (by omega)) ?_ | refine callK_p c1 ?_ | refine callM_p c1 rfl ?_ | refine callK_pf rfl c1 ?_ | refine callK_pk rfl c1 ?_ | refine callK_p c2 ?_ | refine callM_p c2 rfl ?_ | refine callK_pf rfl c2 ?_ | refine callK_pk rfl c2 ?_ | refine callK_p c3 ?_ | refine callM_p c3 rfl ?_ | refine callK_pf rfl c3 ?_ | refine callK_pk rfl c3 ?_ | refine wpfS_seq1 ?_ | refine wpfS_go ?_ | fail) <;> conv => whnf)
  rfl
theorem frz_row {H : Hp} {id : Id} {sz n : Nat} {fz : Bool} {es : List (List PV)} {cs : List PV} (hg : H.get id = some (.arr sz fz es)) (hn : n = es.length) : freezeAs H [.agg cs, .c (.os id n)] = some (true, [.agg cs, slv es], H.set id (.arr sz true es)) := by
  simp only [freezeAs, freezeA, freezeC, hg, hn, decide_true]
  rfl
theorem app_ev {n : Nat} {es : List (List PV)} {r : List PV} (h1 : n = es.length) (h2 : es.length ≤ 100000) (h3 : r.length = 10) : (true && decide (n = es.length ∧ 10 = 10 ∧ (n + [r].length) * 40 ≤ 2 ^ 47 ∧ n + [r].length < 2 ^ 62) && [r].all fun r => r.length == 10) = true := by
  rw [Bool.and_eq_true, Bool.and_eq_true]
  exact ⟨⟨rfl, decide_eq_true ⟨h1, rfl, by show (n + 1) * 40 ≤ _; omega, by show n + 1 < _; omega⟩⟩, by simp [h3]⟩
theorem app_bool {n : Nat} {es : List (List PV)} {x : Bool} (h1 : n = es.length) (h2 : es.length ≤ 100000) : (true && decide (n = es.length ∧ 1 = 1 ∧ (n + [[PV.bool x]].length) * 1 ≤ 2 ^ 47 ∧ n + [[PV.bool x]].length < 2 ^ 62) && [[PV.bool x]].all fun r => r.length == 1) = true := by
  rw [Bool.and_eq_true, Bool.and_eq_true]
  exact ⟨⟨rfl, decide_eq_true ⟨h1, rfl, by show (n + 1) * 1 ≤ _; omega, by show n + 1 < _; omega⟩⟩, by simp⟩
theorem getLast_app {α : Type} {A : List α} {x : α} {i : Nat} (h : A.length = i) : (A ++ [x])[i]? = some x := by
  subst h; simp
def zeroO : List C := [.p (.int .u16 0), .p (.int .u16 0), .p (.int .i64 0), .p (.int .i64 0), .p (.int .u16 0), .p (.int .u16 0), .p (.int .i64 0), .p (.bool false), .p (.int .u16 0), .p (.int .u16 0), .p (.int .i64 0), .p (.str []), .p (.bool false), .p (.int .i64 0), .nils, .nils, .nils]
set_option maxHeartbeats 4000000 in
theorem R32_Let_ok (p : Pol) (hp : p.Ok) (M : Nat → Nat) (hM : ∀ i, i < 16 → M i ≤ 255) (e : Int) (o : Ob) (hg : o.bx.Good) (hok : o.bx.Ok) : EvP PR G f_R32_Let [p.v, mv M, iv e, .agg o.row] (.tup [.agg (o.let_ (keepB p M e)).row, slv (evsL p M e o o.bx.a)]) := by
  have hl8 := hg.len
  have hlen : o.bx.len = o.bx.q.length + o.bx.a.length + o.bx.h.length := rfl
  have cL := R23_Let_ok o.bx (keepB p M e) hg
  have ha := hok.a
  have hbl : ∀ i, i ≤ o.bx.a.length → (boolsR ((o.bx.a.take i).map (keepB p M e))).length = i := fun i hi => by
    rw [boolsR_len, List.length_map, List.length_take]; omega
  have hel := evs_len p M e o
  have hes := @evs_step p M e o o.bx.a
  have hrow : (o.let_ (keepB p M e)).row = Ob.row { o with bx := o.bx.letK (keepB p M e) } := rfl
  rw [hrow]
  generalize o.bx.letK (keepB p M e) = b2 at *
  have hal := msgs_len (l := o.bx.a)
  generalize hev : evsL p M e o = EV at *
  have heR : ∀ x, evR o e x = [.int .i64 4, .int .u16 x.s, .int .u16 x.i, .int .u16 o.ls, .int .u16 o.li, .int .i64 e, .int .i64 x.role, .int .u16 x.s, .int .u16 x.i, .int .u16 x.used] := fun _ => rfl
  have hea := evs_all p M e o
  rw [hev] at hea
  obtain ⟨ids, idi, k, n, ls, li, st, sw, ws, wi, role, buf, dead, bx⟩ := o
  obtain ⟨bn, q, a, h⟩ := bx
  obtain ⟨bn2, q2, a2, h2⟩ := b2
  dsimp only at *
  show EvP PR G f_R32_Let [_, _, _, .agg [.int .u16 ids, .int .u16 idi, .int .i64 k, .int .i64 n, .int .u16 ls, .int .u16 li, .int .i64 st, .bool sw, .int .u16 ws, .int .u16 wi, .int .i64 role, .str buf, .bool dead, .int .i64 bn, .sl (msgs q), .sl (msgs a), .sl (msgs h)]] _
  refine EvP.of_wpf false hm c_R32_Let rfl ?_
  refine wpf_seq1 ?_
  conv => whnf
  repeat' ((first | refine brP_t (by assumption) ?_ | refine brP_f (by assumption) ?_ | refine brP_t (decide_eq_true (by omega)) ?_ | refine brP_f (decide_eq_false (by omega)) ?_ | refine brP_t (nd_t (by omega)) ?_ | refine brP_f (nd_f (by omega)) ?_ | refine wpfS_seq1 ?_ | refine wpfS_go ?_ | fail) <;> conv => whnf)
  refine SemS.nilT 10 10 (by decide) rfl ?_
  refine SemS.nilT 11 1 (by decide) rfl ?_
  refine SemS.loopC false hm (σ := Nat) (fun i => [(12, iv i), (11, .c (.os (.loc 5) i)), (10, .c (.os (.loc 4) (EV (a.take i)).length)), (8, .c (.ptr (.loc 3) 0)), (7, .c (.ptr (.loc 2) 0)), (5, .c (.ptr (.loc 1) 0)), (4, .c (.ptr (.loc 0) 0)), (2, iv e)])
    (fun i => ⟨[], [.row p.row, .row (mrow M), .row [.int .u16 ids, .int .u16 idi, .int .i64 k, .int .i64 n, .int .u16 ls, .int .u16 li, .int .i64 st, .bool sw, .int .u16 ws, .int .u16 wi, .int .i64 role, .str buf, .bool dead, .int .i64 bn, .sl (msgs q), .sl (msgs a), .sl (msgs h)], .mrow zeroO, .arr 10 false (EV (a.take i)), .arr 1 false (boolsR ((a.take i).map (keepB p M e)))]⟩) (fun i => a.length - i) (fun i => i ≤ a.length) 0 (Nat.zero_le _) ⟨rfl, rfl, by subst hev; rfl, rfl, rfl, rfl, rfl, rfl, trivial⟩ (by subst hev; rfl) ?_
  intro i hi
  refine wpf_seq1 ?_
  conv => whnf
  rw [hal]
  refine brP_mk (fun h => ?_) (fun h => ?_)
  · have hi' : i < a.length := by have := of_decide_eq_true h; omega
    clear h
    have hget := msgs_get hi'
    have hw2 : IntKind.i64.wrap ((i : Int) + 1) = ((i + 1 : Nat) : Int) := by rw [wrap64 (by omega)]; rfl
    have hmo := ha a[i] (List.getElem_mem hi')
    have c1 := R32_Keep_ok p hp M hM e a[i] hmo
    have c2 := R32_AsItIs_ok M hM e a[i] hmo
    have hst := hes hi'
    have hb1 := hbl i hi
    have hb2 := hbl (i + 1) hi'
    have hbs : boolsR ((a.take (i + 1)).map (keepB p M e)) = boolsR ((a.take i).map (keepB p M e)) ++ [[.bool (keepB p M e a[i])]] := by
      rw [List.take_succ_eq_append_getElem hi', List.map_append, boolsR, List.map_append]; rfl
    have he1 : (EV (a.take i)).length ≤ 8 := by
      have := hel (a.take i)
      rw [List.length_take] at this; omega
    have hgl := getLast_app (x := [PV.bool (keepB p M e a[i])]) hb1
    rw [heR] at hst
    generalize EV (a.take i) = E1 at *
    generalize hE2 : EV (a.take (i + 1)) = E2 at *
    generalize boolsR ((a.take i).map (keepB p M e)) = B1 at *
    generalize hB2 : boolsR ((a.take (i + 1)).map (keepB p M e)) = B2 at *
    generalize asIt M e a[i] = x at *
    cases hk : keepB p M e a[i] with
    | true =>
      rw [hk] at c1 hbs hgl
      rw [hk, if_pos rfl] at hst
      generalize a[i] = m at *
      obtain ⟨xno, xep, xs, xi, xrole, xused, xdata⟩ := x
      dsimp only at hst
      repeat' ((first | refine brP_t (by assumption) ?_ | refine brP_f (by assumption) ?_ | refine brP_t (decide_eq_true (by omega)) ?_ | refine brP_f (decide_eq_false (by omega)) ?_ | refine brP_t (nd_t (by omega)) ?_ | refine brP_f (nd_f (by omega)) ?_ | ((rw [hal])) | ((conv in (opS _ _ _ _) => whnf); rw [Int.toNat_natCast, hget]) | ((conv in (opM _ _ _ _ _) => whnf); (conv in (opS _ _ _ _) => whnf); rw [Int.toNat_natCast, hget]) | ((conv in (opS _ _ _ _) => whnf); rw [Int.toNat_natCast, hgl]) | ((conv in (opM _ _ _ _ _) => whnf); (conv in (opS _ _ _ _) => whnf); rw [Int.toNat_natCast, hgl]) | refine callK_p c1 ?_ | refine callM_p c1 rfl ?_ | refine callK_pf rfl c1 ?_ | refine callK_pk rfl c1 ?_ | refine callK_p c2 ?_ | refine callM_p c2 rfl ?_ | refine callK_pf rfl c2 ?_ | refine callK_pk rfl c2 ?_ | (refine gd_mk ?_ ?_; focus (exact app_bool hb1.symm (by omega); done)) | (refine gd_mk ?_ ?_; focus (exact app_ev rfl (by omega) rfl; done)) | ((rw [hw2])) | (refine gd_mk ?_ ?_; focus (exact decide_eq_true (by rw [List.length_append, hb1]; refine ⟨by omega, by simp; omega, rfl, by simp⟩); done)) | (refine gd_mk ?_ ?_; focus (rw [Bool.true_and]; exact decide_eq_true (by rw [List.length_append, hb1]); done)) | refine wpfS_seq1 ?_ | refine wpfS_go ?_ | fail) <;> conv => whnf)
      refine ⟨i + 1, 6, hi', (show a.length - (i + 1) < a.length - i by omega), ⟨rfl, rfl, ?_, rfl, rfl, rfl, rfl, rfl, trivial⟩, Nat.le_refl _, ?_, rfl, rfl⟩
      · show AV.c (.os (.loc 4) (E1.length + 1)) = AV.c (.os (.loc 4) (EV (a.take (i + 1))).length)
        rw [hE2, hst, List.length_append]; rfl
      · show _ = (⟨[], [_, _, _, _, .arr 10 false (EV (a.take (i + 1))), .arr 1 false (boolsR ((a.take (i + 1)).map (keepB p M e)))]⟩ : Hp)
        rw [hE2, hB2, hst, hbs]
        rfl
    | false =>
      rw [hk] at c1 hbs hgl
      rw [hk, if_neg (by decide), List.append_nil] at hst
      generalize a[i] = m at *
      repeat' ((first | refine brP_t (by assumption) ?_ | refine brP_f (by assumption) ?_ | refine brP_t (decide_eq_true (by omega)) ?_ | refine brP_f (decide_eq_false (by omega)) ?_ | refine brP_t (nd_t (by omega)) ?_ | refine brP_f (nd_f (by omega)) ?_ | ((rw [hal])) | ((conv in (opS _ _ _ _) => whnf); rw [Int.toNat_natCast, hget]) | ((conv in (opM _ _ _ _ _) => whnf); (conv in (opS _ _ _ _) => whnf); rw [Int.toNat_natCast, hget]) | ((conv in (opS _ _ _ _) => whnf); rw [Int.toNat_natCast, hgl]) | ((conv in (opM _ _ _ _ _) => whnf); (conv in (opS _ _ _ _) => whnf); rw [Int.toNat_natCast, hgl]) | refine callK_p c1 ?_ | refine callM_p c1 rfl ?_ | refine callK_pf rfl c1 ?_ | refine callK_pk rfl c1 ?_ | (refine gd_mk ?_ ?_; focus (exact app_bool hb1.symm (by omega); done)) | ((rw [hw2])) | (refine gd_mk ?_ ?_; focus (exact decide_eq_true (by rw [List.length_append, hb1]; refine ⟨by omega, by simp; omega, rfl, by simp⟩); done)) | (refine gd_mk ?_ ?_; focus (rw [Bool.true_and]; exact decide_eq_true (by rw [List.length_append, hb1]); done)) | refine wpfS_seq1 ?_ | refine wpfS_go ?_ | fail) <;> conv => whnf)
      refine ⟨i + 1, 6, hi', (show a.length - (i + 1) < a.length - i by omega), ⟨rfl, rfl, ?_, rfl, rfl, rfl, rfl, rfl, trivial⟩, Nat.le_refl _, ?_, rfl, rfl⟩
      · show AV.c (.os (.loc 4) E1.length) = AV.c (.os (.loc 4) (EV (a.take (i + 1))).length)
        rw [hE2, hst]
      · show _ = (⟨[], [_, _, _, _, .arr 10 false (EV (a.take (i + 1))), .arr 1 false (boolsR ((a.take (i + 1)).map (keepB p M e)))]⟩ : Hp)
        rw [hE2, hB2, hst, hbs]
        rfl
  · have hi' : i = a.length := by have := of_decide_eq_false h; omega
    subst hi'
    clear h
    have hb1 := hbl a.length (Nat.le_refl _)
    rw [List.take_length] at hb1 ⊢
    generalize boolsR (a.map (keepB p M e)) = B1 at *
    generalize EV a = E1 at *
    repeat' ((first | refine brP_t (by assumption) ?_ | refine brP_f (by assumption) ?_ | refine brP_t (decide_eq_true (by omega)) ?_ | refine brP_f (decide_eq_false (by omega)) ?_ | refine brP_t (nd_t (by omega)) ?_ | refine brP_f (nd_f (by omega)) ?_ | refine callK_pf (frz_row rfl hb1.symm) cL ?_ | (refine gd_mk ?_ ?_; focus (exact decide_eq_true rfl; done)) | (refine gd_mk ?_ ?_; focus (simp; done)) | refine wpfS_seq1 ?_ | refine wpfS_go ?_ | fail) <;> conv => whnf)
    rfl
end Go.Ab.S
