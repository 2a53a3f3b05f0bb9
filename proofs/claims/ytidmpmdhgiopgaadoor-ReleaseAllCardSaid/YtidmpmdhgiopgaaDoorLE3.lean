/- What was set aside, let go: the program's way. No condition. What was set aside, let go, and what tells of it: the program's way. No condition. -/
import Derived.Test.YtidmpmdhgiopgaaDoorLE1
import Derived.Test.YtidmpmdhgiopgaaDoorLK12
import Derived.Test.YtidmpmdhgiopgaaDoorFwH
set_option linter.unusedSimpArgs false
set_option linter.unusedVariables false
namespace Go.Ab.S
open Go Go.Ab Go.Proofs
attribute [local irreducible] SemS
set_option maxRecDepth 100000
theorem release_AsItIs_ok (M : Nat → Nat) (hM : ∀ i, i < 16 → M i ≤ 255) (e : Int) (m : Msg) (hm' : m.Ok) : EvP PR G f_release_AsItIs [mv M, iv e, .agg m.row] (.agg (asIt M e m).row) := by
  have h1 := message_Mapped_ok M hM m hm'
  have hr : asIt M e m = if m.ep = e then m else m.map M := rfl
  rw [hr]
  generalize m.map M = m2 at *
  obtain ⟨no, ep, s, i', role, used, data⟩ := m
  dsimp only
  by_cases he : ep = e
  · rw [if_pos he]
    refine EvP.of_wpf false hm c_release_AsItIs rfl ?_
    refine wpf_seq1 ?_
    conv => whnf
    repeat' ((first | refine brP_t (by assumption) ?_ | refine brP_f (by assumption) ?_ | refine brP_t (decide_eq_true (by omega)) ?_ | refine brP_f (decide_eq_false (by omega)) ?_ | refine brP_t (nd_t (by omega)) ?_ | refine brP_f (nd_f (by omega)) ?_ | refine callK_p h1 ?_ | refine callM_p h1 rfl ?_ | refine callK_pf rfl h1 ?_ | refine callK_pk rfl h1 ?_ | refine wpfS_seq1 ?_ | refine wpfS_go ?_ | fail) <;> conv => whnf)
    rfl
  · rw [if_neg he]
    obtain ⟨no2, ep2, s2, i2, role2, used2, data2⟩ := m2
    refine EvP.of_wpf false hm c_release_AsItIs rfl ?_
    refine wpf_seq1 ?_
    conv => whnf
    repeat' ((first | refine brP_t (by assumption) ?_ | refine brP_f (by assumption) ?_ | refine brP_t (decide_eq_true (by omega)) ?_ | refine brP_f (decide_eq_false (by omega)) ?_ | refine brP_t (nd_t (by omega)) ?_ | refine brP_f (nd_f (by omega)) ?_ | refine callK_p h1 ?_ | refine callM_p h1 rfl ?_ | refine callK_pf rfl h1 ?_ | refine callK_pk rfl h1 ?_ | refine wpfS_seq1 ?_ | refine wpfS_go ?_ | fail) <;> conv => whnf)
    rfl
theorem andnot_zero {a b : Nat} : decide (IntKind.u16.wrap (diffN a b : Int) = 0) = subB a b := by
  rw [wrapN16 diffN_lt, int_zero]; rfl
theorem release_Keep_ok (p : Pol) (hp : p.Ok) (M : Nat → Nat) (hM : ∀ i, i < 16 → M i ≤ 255) (e : Int) (m : Msg) (hm' : m.Ok) : EvP PR G f_release_Keep [p.v, mv M, iv e, .agg m.row] (bv (keepB p M e m)) := by
  have c1 := release_AsItIs_ok M hM e m hm'
  have hx := asIt_ok (M := M) (e := e) hm'
  unfold keepB
  generalize asIt M e m = x at *
  have c2 := policy_Caps_ok p hp x.role x.s x.i hx.s hx.i
  rw [← andnot_zero]
  generalize capsN p x.role x.s x.i = cN at *
  obtain ⟨no, ep, s, i', role, used, data⟩ := x
  refine EvP.of_wpf false hm c_release_Keep rfl ?_
  refine wpf_seq1 ?_
  conv => whnf
  repeat' ((first | refine brP_t (by assumption) ?_ | refine brP_f (by assumption) ?_ | refine brP_t (decide_eq_true (by omega)) ?_ | refine brP_f (decide_eq_false (by omega)) ?_ | refine brP_t (nd_t (by omega)) ?_ | refine brP_f (nd_f (by omega)) ?_ | refine callK_p c1 ?_ | refine callM_p c1 rfl ?_ | refine callK_pf rfl c1 ?_ | refine callK_pk rfl c1 ?_ | refine callK_p c2 ?_ | refine callM_p c2 rfl ?_ | refine callK_pf rfl c2 ?_ | refine callK_pk rfl c2 ?_ | refine wpfS_seq1 ?_ | refine wpfS_go ?_ | fail) <;> conv => whnf)
  rfl
set_option maxHeartbeats 4000000 in
theorem release_Let_1_ok (p : Pol) (hp : p.Ok) (M : Nat → Nat) (hM : ∀ i, i < 16 → M i ≤ 255) (e : Int) (o : Ob) (m : Msg) (hm' : m.Ok) (E : List (List PV)) (hE : E.length ≤ 1000) :
    EvR PR G f_release_Let_1 [.agg m.row, .c (.ptr (.par 0) 0), .c (.ptr (.par 1) 0), .c (.ptr (.par 2) 0), .c (.ptr (.par 3) 0), .c (.ptr (.par 4) 0)]
      ⟨[.row p.row, .row (mrow M), .row [.int .i64 e], .mrow [.os (.par 5) E.length], .row o.row, .arr 10 false E], []⟩ (bv (keepB p M e m))
      ⟨[.row p.row, .row (mrow M), .row [.int .i64 e], .mrow [.os (.par 5) (E ++ if keepB p M e m then [evR o e (asIt M e m)] else []).length], .row o.row, .arr 10 false (E ++ if keepB p M e m then [evR o e (asIt M e m)] else [])], []⟩ := by
  have c1 := release_Keep_ok p hp M hM e m hm'
  have c2 := release_AsItIs_ok M hM e m hm'
  have heR : evR o e (asIt M e m) = [.int .i64 4, .int .u16 (asIt M e m).s, .int .u16 (asIt M e m).i, .int .u16 o.ls, .int .u16 o.li, .int .i64 e, .int .i64 (asIt M e m).role, .int .u16 (asIt M e m).s, .int .u16 (asIt M e m).i, .int .u16 (asIt M e m).used] := rfl
  rw [heR]
  generalize asIt M e m = x at *
  obtain ⟨xno, xep, xs, xi, xrole, xused, xdata⟩ := x
  obtain ⟨ids, idi, k, n, ls, li, st, sw, ws, wi, role, buf, dead, bx⟩ := o
  cases hk : keepB p M e m with
  | false =>
    rw [hk] at c1
    rw [if_neg (by decide), List.append_nil]
    refine EvR.of_wpfC false true hm c_release_Let_1 rfl rfl ?_
    refine wpf_seq1 ?_
    conv => whnf
    repeat' ((first | refine brP_t (by assumption) ?_ | refine brP_f (by assumption) ?_ | refine brP_t (decide_eq_true (by omega)) ?_ | refine brP_f (decide_eq_false (by omega)) ?_ | refine brP_t (nd_t (by omega)) ?_ | refine brP_f (nd_f (by omega)) ?_ | refine callK_p c1 ?_ | refine callM_p c1 rfl ?_ | refine callK_pf rfl c1 ?_ | refine callK_pk rfl c1 ?_ | refine wpfS_seq1 ?_ | refine wpfS_go ?_ | fail) <;> conv => whnf)
    exact ⟨rfl, rfl⟩
  | true =>
    rw [hk] at c1
    rw [if_pos rfl]
    refine EvR.of_wpfC false true hm c_release_Let_1 rfl rfl ?_
    refine wpf_seq1 ?_
    conv => whnf
    repeat' ((first | refine brP_t (by assumption) ?_ | refine brP_f (by assumption) ?_ | refine brP_t (decide_eq_true (by omega)) ?_ | refine brP_f (decide_eq_false (by omega)) ?_ | refine brP_t (nd_t (by omega)) ?_ | refine brP_f (nd_f (by omega)) ?_ | refine callK_p c1 ?_ | refine callM_p c1 rfl ?_ | refine callK_pf rfl c1 ?_ | refine callK_pk rfl c1 ?_ | refine callK_p c2 ?_ | refine callM_p c2 rfl ?_ | refine callK_pf rfl c2 ?_ | refine callK_pk rfl c2 ?_ | (refine gd_mk ?_ ?_; focus (exact app_ev rfl (by omega) rfl; done)) | refine wpfS_seq1 ?_ | refine wpfS_go ?_ | fail) <;> conv => whnf)
    rw [List.length_append]
    exact ⟨rfl, rfl⟩
end Go.Ab.S

namespace Go.Ab.S
open Go Go.Ab Go.Proofs
attribute [local irreducible] SemS
set_option maxRecDepth 100000
/-- The blocks of the function that looks at each message. -/
def relB (p : Pol) (M : Nat → Nat) (e : Int) (o : Ob) (l : List Msg) (i : Nat) : List Blk := [.row p.row, .row (mrow M), .row [.int .i64 e], .mrow [.os (.par 5) (evsL p M e o (l.take i)).length], .row o.row, .arr 10 false (evsL p M e o (l.take i))]
theorem fnK6 (p : Pol) (hp : p.Ok) (M : Nat → Nat) (hM : ∀ i, i < 16 → M i ≤ 255) (e : Int) (o : Ob) (a : List Msg) (ha : ∀ m ∈ a, m.Ok) (hl : a.length ≤ 1000) : FnK f_release_Let_1 [.par 0, .par 1, .par 2, .par 3, .par 4] (relB p M e o a) a (keepB p M e) := fun i hi ls => by
  have h0 := release_Let_1_ok p hp M hM e o a[i] (ha _ (List.getElem_mem hi)) (evsL p M e o (a.take i)) (by have := evs_len p M e o (a.take i); rw [List.length_take] at this; omega)
  rw [← evs_step p M e o hi] at h0
  have := EvR.fr (H := ⟨relB p M e o a i, ls⟩) [.par 0, .par 1, .par 2, .par 3, .par 4, .par 5] h0 rfl rfl ⟨rfl, rfl, rfl, rfl, rfl, rfl, trivial⟩ rfl
  have hb : backH [.par 0, .par 1, .par 2, .par 3, .par 4, .par 5] ⟨relB p M e o a i, ls⟩ ⟨relB p M e o a (i + 1), []⟩ = ⟨relB p M e o a (i + 1), ls⟩ := by
    show (⟨relB p M e o a (i + 1), ls ++ []⟩ : Hp) = _; rw [List.append_nil]
  have h2 : backH [.par 0, .par 1, .par 2, .par 3, .par 4, .par 5] ⟨relB p M e o a i, ls⟩ ⟨[.row p.row, .row (mrow M), .row [.int .i64 e], .mrow [.os (.par 5) (evsL p M e o (a.take (i + 1))).length], .row o.row, .arr 10 false (evsL p M e o (a.take (i + 1)))], []⟩ = ⟨relB p M e o a (i + 1), ls⟩ := hb
  rw [h2] at this
  exact this
set_option maxHeartbeats 4000000 in
theorem release_Let_ok (p : Pol) (hp : p.Ok) (M : Nat → Nat) (hM : ∀ i, i < 16 → M i ≤ 255) (e : Int) (o : Ob) (hl : o.bx.len ≤ 19) (ha : ∀ m ∈ o.bx.a, m.Ok) : EvP PR G f_release_Let [p.v, mv M, iv e, .agg o.row] (.tup [.agg (o.let_ (keepB p M e)).row, slv (evsL p M e o o.bx.a)]) := by
  have hlen : o.bx.len = o.bx.q.length + o.bx.a.length + o.bx.h.length := rfl
  have cK := fnK6 p hp M hM e o o.bx.a ha (by omega)
  have cL := box_Let_ok f_release_Let_1 [.par 0, .par 1, .par 2, .par 3, .par 4] (relB p M e o o.bx.a) (fun _ => rfl) (fun _ _ => rfl) (keepB p M e) o.bx hl cK
  have hb0 : relB p M e o o.bx.a 0 = [.row p.row, .row (mrow M), .row [.int .i64 e], .mrow [.os (.par 5) 0], .row o.row, .arr 10 false []] := rfl
  have hbn : relB p M e o o.bx.a o.bx.a.length = [.row p.row, .row (mrow M), .row [.int .i64 e], .mrow [.os (.par 5) (evsL p M e o o.bx.a).length], .row o.row, .arr 10 false (evsL p M e o o.bx.a)] := by
    unfold relB; rw [List.take_length]
  rw [hb0, hbn] at cL
  clear cK hb0 hbn
  generalize evsL p M e o o.bx.a = EV at *
  have hrow : (o.let_ (keepB p M e)).row = Ob.row { o with bx := o.bx.letK (keepB p M e) } := rfl
  rw [hrow]
  generalize o.bx.letK (keepB p M e) = b2 at *
  obtain ⟨ids, idi, k, n, ls, li, st, sw, ws, wi, role, buf, dead, bx⟩ := o
  obtain ⟨bn, q, a, h⟩ := bx
  obtain ⟨bn2, q2, a2, h2⟩ := b2
  dsimp only at *
  show EvP PR G f_release_Let [_, _, _, .agg [.int .u16 ids, .int .u16 idi, .int .i64 k, .int .i64 n, .int .u16 ls, .int .u16 li, .int .i64 st, .bool sw, .int .u16 ws, .int .u16 wi, .int .i64 role, .str buf, .bool dead, .int .i64 bn, .sl (msgs q), .sl (msgs a), .sl (msgs h)]] _
  refine ⟨rfl, rfl, EvG.of_sem false true c_release_Let rfl ?_⟩
  refine SemS.seqS ?_
  refine SemS.of_wpf false hm ?_
  conv => whnf
  refine SemS.seqS ?_
  refine SemS.of_wpf false hm ?_
  conv => whnf
  refine SemS.weak (Weak.nils (id := .loc 5) (j := 0) 10 (by decide) rfl rfl) ?_
  refine SemS.of_wpf false hm ?_
  refine wpf_seq1 ?_
  conv => whnf
  repeat' ((first | refine brP_t (by assumption) ?_ | refine brP_f (by assumption) ?_ | refine brP_t (decide_eq_true (by omega)) ?_ | refine brP_f (decide_eq_false (by omega)) ?_ | refine brP_t (nd_t (by omega)) ?_ | refine brP_f (nd_f (by omega)) ?_ | refine wpfS_seq1 ?_ | refine wpfS_go ?_ | fail) <;> conv => whnf)
  (first | refine callK_r (EvR.fr [_, _, _, _, _, _] cL rfl rfl ⟨rfl, rfl, rfl, rfl, rfl, rfl, trivial⟩ rfl) ?_ | refine callM_l (LEv.fr [_, _, _, _, _, _] cL rfl rfl ⟨rfl, rfl, rfl, rfl, rfl, rfl, trivial⟩ rfl rfl) ?_ | refine callK_rt (EvR.fr [_, _, _, _, _, _] cL rfl rfl ⟨rfl, rfl, rfl, rfl, rfl, rfl, trivial⟩ rfl) ?_ | refine callK_rf rfl (EvR.fr [_, _, _, _, _, _] cL rfl rfl ⟨rfl, rfl, rfl, rfl, rfl, rfl, trivial⟩ rfl) ?_ | refine callK_rft rfl (EvR.fr [_, _, _, _, _, _] cL rfl rfl ⟨rfl, rfl, rfl, rfl, rfl, rfl, trivial⟩ rfl) ?_)
  conv => whnf
  repeat' ((first | refine brP_t (by assumption) ?_ | refine brP_f (by assumption) ?_ | refine brP_t (decide_eq_true (by omega)) ?_ | refine brP_f (decide_eq_false (by omega)) ?_ | refine brP_t (nd_t (by omega)) ?_ | refine brP_f (nd_f (by omega)) ?_ | refine wpfS_seq1 ?_ | refine wpfS_go ?_ | fail) <;> conv => whnf)
  refine gd_mk (by simp) ?_
  conv => whnf
  rfl
end Go.Ab.S
