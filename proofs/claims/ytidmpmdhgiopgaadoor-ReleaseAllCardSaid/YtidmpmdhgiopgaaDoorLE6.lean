/- ReleaseAll. No condition. -/
import Derived.Test.YtidmpmdhgiopgaaDoorLE5
import Derived.Test.YtidmpmdhgiopgaaDoorLS4
set_option linter.unusedSimpArgs false
set_option linter.unusedVariables false
namespace Go.Ab.S
open Go Go.Ab Go.Proofs
attribute [local irreducible] SemS
set_option maxRecDepth 100000
theorem setN_zero (M : Nat → Nat) : setN M 0 = 0 := by
  refine set_ext setN_lt (by decide) fun j hj => ?_
  rw [Nat.zero_testBit, Bool.eq_false_iff]
  intro h
  obtain ⟨-, t, -, h2, -⟩ := setN_bit.1 h
  rw [Nat.zero_testBit] at h2; cases h2
theorem keep_none {p : Pol} {M : Nat → Nat} {e : Int} {m : Msg} (h : m.used = 0) : keepB p M e m = true := by
  have hu : (asIt M e m).used = 0 := by
    unfold asIt
    split
    · exact h
    · show setN M m.used = 0
      rw [h, setN_zero]
  unfold keepB
  rw [hu]
  refine (subB_iff (by decide) caps_lt).2 fun j hj hb => ?_
  rw [Nat.zero_testBit] at hb; cases hb
theorem keepB_def {p : Pol} {M : Nat → Nat} {e : Int} {m : Msg} (h : keepB p M e m = true) : subB (asIt M e m).used (capsN p (asIt M e m).role (asIt M e m).s (asIt M e m).i) = true := h
theorem ne_zero {a b : Nat} (h : subB a b = true) : (!decide (IntKind.u16.wrap ((BitVec.ofInt IntKind.u16.bits (a : Int) &&& ~~~BitVec.ofInt IntKind.u16.bits (b : Int)).toNat : Int) = 0)) = false := by
  have := andnot_zero (a := a) (b := b)
  rw [h] at this
  have h2 : decide (IntKind.u16.wrap ((BitVec.ofInt IntKind.u16.bits (a : Int) &&& ~~~BitVec.ofInt IntKind.u16.bits (b : Int)).toNat : Int) = 0) = true := this
  rw [h2]; rfl
theorem lab_ne (a b : Nat) : (!(decide ((a : Int) = a) && (decide ((b : Int) = b) && true))) = false := by simp
def noneB (l : List Msg) : Bool := l.all fun m => decide (m.used = 0)
theorem none_step {l : List Msg} {i : Nat} (h : i < l.length) : noneB (l.take (i + 1)) = (noneB (l.take i) && decide (l[i].used = 0)) := by
  rw [List.take_succ_eq_append_getElem h, noneB, List.all_append]; simp [noneB]
set_option maxHeartbeats 16000000 in
theorem releaseAll_ok (p : Pol) (hp : p.Ok) (l : List (Int × Int)) (hl63 : l.length < 2 ^ 63) (ep : Nat) (hep : ep < 256) (o : Ob) (ho : o.Ok) (hlim : o.Lim) : EvP PR G f_L32_ReleaseAll [p.v, slv (prows l), .c (.p (.int .u8 ep)), .agg o.row] (bv true) := by
  have hlen : (prows l).length = l.length := by simp [prows]
  have cF := R25_Fine_ok o hlim
  have hrow : o.row = [.int .u16 o.ids, .int .u16 o.idi, .int .i64 o.k, .int .i64 o.n, .int .u16 o.ls, .int .u16 o.li, .int .i64 o.stamp, .bool o.swept, .int .u16 o.ws, .int .u16 o.wi, .int .i64 o.role, .str o.buf, .bool o.dead, .int .i64 o.bx.next, .sl (msgs o.bx.q), .sl (msgs o.bx.a), .sl (msgs o.bx.h)] := rfl
  refine EvP.of_wpf false hm c_L32_ReleaseAll rfl ?_
  rw [hrow]
  refine wpf_seq1 ?_
  conv => whnf
  by_cases h20 : 20 < l.length
  · repeat' ((first | refine brP_t (by assumption) ?_ | refine brP_f (by assumption) ?_ | refine brP_t (decide_eq_true (by omega)) ?_ | refine brP_f (decide_eq_false (by omega)) ?_ | refine brP_t (nd_t (by omega)) ?_ | refine brP_f (nd_f (by omega)) ?_ | ((rw [hlen])) | refine callK_p L32_alive_ok ?_ | refine callM_p L32_alive_ok rfl ?_ | refine callK_pf rfl L32_alive_ok ?_ | refine callK_pk rfl L32_alive_ok ?_ | refine wpfS_seq1 ?_ | refine wpfS_go ?_ | fail) <;> conv => whnf)
    rfl
  by_cases hk : o.k = 2
  case neg =>
    repeat' ((first | refine brP_t (by assumption) ?_ | refine brP_f (by assumption) ?_ | refine brP_t (decide_eq_true (by omega)) ?_ | refine brP_f (decide_eq_false (by omega)) ?_ | refine brP_t (nd_t (by omega)) ?_ | refine brP_f (nd_f (by omega)) ?_ | ((rw [hlen])) | refine callK_p L32_alive_ok ?_ | refine callM_p L32_alive_ok rfl ?_ | refine callK_pf rfl L32_alive_ok ?_ | refine callK_pk rfl L32_alive_ok ?_ | refine wpfS_seq1 ?_ | refine wpfS_go ?_ | fail) <;> conv => whnf)
    rfl
  cases hf : o.fine with
  | false =>
    rw [hf] at cF
    repeat' ((first | refine brP_t (by assumption) ?_ | refine brP_f (by assumption) ?_ | refine brP_t (decide_eq_true (by omega)) ?_ | refine brP_f (decide_eq_false (by omega)) ?_ | refine brP_t (nd_t (by omega)) ?_ | refine brP_f (nd_f (by omega)) ?_ | ((rw [hlen])) | refine callK_p cF ?_ | refine callM_p cF rfl ?_ | refine callK_pf rfl cF ?_ | refine callK_pk rfl cF ?_ | refine callK_p L32_alive_ok ?_ | refine callM_p L32_alive_ok rfl ?_ | refine callK_pf rfl L32_alive_ok ?_ | refine callK_pk rfl L32_alive_ok ?_ | refine wpfS_seq1 ?_ | refine wpfS_go ?_ | fail) <;> conv => whnf)
    rfl
  | true =>
  rw [hf] at cF
  have hM : mapOk (madeN l) := fun i hi => by have := made_lt l i hi; omega
  have c0 := R04_Made_ok l (by omega)
  generalize madeN l = M at *
  have hwe : IntKind.i64.wrap (ep : Int) = (ep : Int) := wrap64 (by omega)
  have hg := fine_good hf hk
  have h8 := hg.len
  have hbl : o.bx.len = o.bx.q.length + o.bx.a.length + o.bx.h.length := rfl
  have c1 := R12_Mend_ok p hp
  have hq := mend_ok hp
  generalize mendP p = pq at *
  have c2 := release_Let_ok pq hq M hM ep o (by omega) ho.bx.a
  have hx : (o.let_ (keepB pq M ep)).row = Ob.row { o with bx := o.bx.letK (keepB pq M ep) } := rfl
  rw [hx] at c2
  have hgl := hg.letK (keepB pq M ep)
  have hll : (o.bx.letK (keepB pq M ep)).len = o.bx.len := by rw [← Bx.all_len, (let_perm o.bx _).length_eq, Bx.all_len]
  have c3 := object_Fine_ok { o with bx := o.bx.letK (keepB pq M ep) } ⟨by show (o.bx.letK (keepB pq M ep)).len < _; rw [hll]; exact hlim.bx, hlim.buf⟩
  rw [fine_bx hf (fun _ => Bx.fine_iff.2 hgl) (fun h => absurd hk h)] at c3
  have c4 := box_Restore_ok (o.bx.letK (keepB pq M ep)) (by omega)
  rw [restore_perm (c := o.bx.letK (keepB pq M ep)) hg rfl (let_perm o.bx (keepB pq M ep))] at c4
  have c5 := box_Restore_ok o.bx (by omega)
  have hrl : o.bx.restore.q.length < 2 ^ 63 := by
    show (isort o.bx.all).length < 2 ^ 63
    rw [(isort_perm _).length_eq, Bx.all_len]; omega
  have c6 := R23_Same_ok o.bx.restore o.bx.restore hrl (by show (0 : Nat) < 2 ^ 63; decide) (by show (0 : Nat) < 2 ^ 63; decide)
  rw [decide_eq_true rfl] at c6
  have hLq : (o.bx.letK (keepB pq M ep)).q.length = o.bx.q.length + (o.bx.a.filter (keepB pq M ep)).length := by
    show (isort (o.bx.q ++ o.bx.a.filter (keepB pq M ep))).length = _
    rw [(isort_perm _).length_eq, List.length_append]
  have hLa : (o.bx.letK (keepB pq M ep)).a = [] := rfl
  have hLh : noneB o.bx.a = true → (o.bx.letK (keepB pq M ep)).h.length = o.bx.h.length := fun hn => by
    show (isort (o.bx.h ++ o.bx.a.filter fun m => !keepB pq M ep m)).length = _
    rw [(isort_perm _).length_eq, List.length_append, List.filter_eq_nil_iff.2 fun m hm => ?_]
    · rfl
    · rw [keep_none (by have := List.all_eq_true.1 hn m hm; exact of_decide_eq_true this)]; decide
  have hEl : (evsL pq M ep o o.bx.a).length = (o.bx.a.filter (keepB pq M ep)).length := by rw [evsL, List.length_map]
  have hEV : ∀ i (h : i < (evsL pq M ep o o.bx.a).length), ∃ x : Msg, (evsL pq M ep o o.bx.a)[i]? = some (evR o ep x) ∧ x.Ok ∧ subB x.used (capsN pq x.role x.s x.i) = true := fun i h => by
    rw [hEl] at h
    refine ⟨asIt M ep (o.bx.a.filter (keepB pq M ep))[i], ?_, ?_, ?_⟩
    · rw [evsL, List.getElem?_map, List.getElem?_eq_getElem h]; rfl
    · exact asIt_ok (ho.bx.a _ ((List.mem_filter.1 (List.getElem_mem h)).1))
    · exact keepB_def (List.mem_filter.1 (List.getElem_mem h)).2
  have hfl : (o.bx.a.filter (keepB pq M ep)).length ≤ o.bx.a.length := List.length_filter_le _ _
  rw [← hEl] at hLq hfl
  clear hEl hgl
  generalize evsL pq M ep o o.bx.a = EV at *
  generalize o.bx.letK (keepB pq M ep) = b2 at *
  obtain ⟨b2n, b2q, b2a, b2h⟩ := b2
  dsimp only at hLa hLq hLh
  subst hLa
  have l1 := msgs_len (l := o.bx.a)
  have l2 := msgs_len (l := b2q)
  have l3 := msgs_len (l := o.bx.q)
  have l4 := msgs_len (l := b2h)
  have l5 := msgs_len (l := o.bx.h)
  have hws : IntKind.i64.wrap ((o.bx.q.length : Int) + (EV.length : Int)) = (o.bx.q.length : Int) + (EV.length : Int) := wrap64 (by omega)
  have e1 := lab_ne o.ls o.li
  generalize o.bx.restore = Rst at *
  obtain ⟨Rn, Rq, Ra, Rh⟩ := Rst
  repeat' ((first | refine brP_t (by assumption) ?_ | refine brP_f (by assumption) ?_ | refine brP_t (decide_eq_true (by omega)) ?_ | refine brP_f (decide_eq_false (by omega)) ?_ | refine brP_t (nd_t (by omega)) ?_ | refine brP_f (nd_f (by omega)) ?_ | ((rw [hlen])) | ((rw [hwe])) | refine wpfS_seq1 ?_ | refine wpfS_go ?_ | fail) <;> conv => whnf)
  (first | refine callK_p cF ?_ | refine callM_p cF rfl ?_ | refine callK_pf rfl cF ?_ | refine callK_pk rfl cF ?_)
  conv => whnf
  repeat' ((first | refine brP_t (by assumption) ?_ | refine brP_f (by assumption) ?_ | refine brP_t (decide_eq_true (by omega)) ?_ | refine brP_f (decide_eq_false (by omega)) ?_ | refine brP_t (nd_t (by omega)) ?_ | refine brP_f (nd_f (by omega)) ?_ | ((rw [hlen])) | ((rw [hwe])) | refine wpfS_seq1 ?_ | refine wpfS_go ?_ | fail) <;> conv => whnf)
  (first | refine callK_p c1 ?_ | refine callM_p c1 rfl ?_ | refine callK_pf rfl c1 ?_ | refine callK_pk rfl c1 ?_)
  conv => whnf
  repeat' ((first | refine brP_t (by assumption) ?_ | refine brP_f (by assumption) ?_ | refine brP_t (decide_eq_true (by omega)) ?_ | refine brP_f (decide_eq_false (by omega)) ?_ | refine brP_t (nd_t (by omega)) ?_ | refine brP_f (nd_f (by omega)) ?_ | ((rw [hlen])) | ((rw [hwe])) | refine wpfS_seq1 ?_ | refine wpfS_go ?_ | fail) <;> conv => whnf)
  (first | refine callK_p c0 ?_ | refine callM_p c0 rfl ?_ | refine callK_pf rfl c0 ?_ | refine callK_pk rfl c0 ?_)
  conv => whnf
  repeat' ((first | refine brP_t (by assumption) ?_ | refine brP_f (by assumption) ?_ | refine brP_t (decide_eq_true (by omega)) ?_ | refine brP_f (decide_eq_false (by omega)) ?_ | refine brP_t (nd_t (by omega)) ?_ | refine brP_f (nd_f (by omega)) ?_ | ((rw [hlen])) | ((rw [hwe])) | refine wpfS_seq1 ?_ | refine wpfS_go ?_ | fail) <;> conv => whnf)
  (first | refine callK_p c2 ?_ | refine callM_p c2 rfl ?_ | refine callK_pf rfl c2 ?_ | refine callK_pk rfl c2 ?_)
  conv => whnf
  repeat' ((first | refine brP_t (by assumption) ?_ | refine brP_f (by assumption) ?_ | refine brP_t (decide_eq_true (by omega)) ?_ | refine brP_f (decide_eq_false (by omega)) ?_ | refine brP_t (nd_t (by omega)) ?_ | refine brP_f (nd_f (by omega)) ?_ | ((rw [hlen])) | ((rw [hwe])) | refine wpfS_seq1 ?_ | refine wpfS_go ?_ | fail) <;> conv => whnf)
  refine SemS.loopF false hm (σ := Nat) (fun i => [(13, iv i), (12, bv (noneB (o.bx.a.take i))), (11, slv EV), (10, .c (.ptr (.loc 3) 0)), (7, .c (.ptr (.loc 1) 0)), (4, .c (.ptr (.loc 0) 0)), (2, .c (.p (.int .u8 ep)))])
    (fun _ => ⟨[], [.row pq.row, .row [.int .u16 o.ids, .int .u16 o.idi, .int .i64 o.k, .int .i64 o.n, .int .u16 o.ls, .int .u16 o.li, .int .i64 o.stamp, .bool o.swept, .int .u16 o.ws, .int .u16 o.wi, .int .i64 o.role, .str o.buf, .bool o.dead, .int .i64 o.bx.next, .sl (msgs o.bx.q), .sl (msgs o.bx.a), .sl (msgs o.bx.h)], .row (mrow M), .mrow ((Ob.row { o with bx := ⟨b2n, b2q, [], b2h⟩ }).map .p)]⟩) (fun i => o.bx.a.length - i) (fun i => i ≤ o.bx.a.length) 0 (Nat.zero_le _) ⟨rfl, rfl, rfl, rfl, rfl, rfl, rfl, trivial⟩ ?_ ?_
  · rfl
  intro i hi
  refine wpf_seq1 ?_
  conv => whnf
  rw [l1]
  refine brP_mk (fun h => ?_) (fun h => ?_)
  · have hi' : i < o.bx.a.length := by have := of_decide_eq_true h; omega
    clear h
    have hget := msgs_get hi'
    have hst := none_step hi'
    have hw2 : IntKind.i64.wrap ((i : Int) + 1) = ((i + 1 : Nat) : Int) := by rw [wrap64 (by omega)]; rfl
    generalize noneB (o.bx.a.take i) = nb at *
    generalize o.bx.a[i] = m at *
    obtain ⟨no, mep, s, i', role, used, data⟩ := m
    dsimp only at hst
    cases nb with
    | false =>
      rw [Bool.false_and] at hst
      repeat' ((first | refine brP_t (by assumption) ?_ | refine brP_f (by assumption) ?_ | refine brP_t (decide_eq_true (by omega)) ?_ | refine brP_f (decide_eq_false (by omega)) ?_ | refine brP_t (nd_t (by omega)) ?_ | refine brP_f (nd_f (by omega)) ?_ | ((conv in (opS _ _ _ _) => whnf); rw [Int.toNat_natCast, hget]) | ((conv in (opM _ _ _ _ _) => whnf); (conv in (opS _ _ _ _) => whnf); rw [Int.toNat_natCast, hget]) | ((rw [hw2])) | refine wpfS_seq1 ?_ | refine wpfS_go ?_ | fail) <;> conv => whnf)
      refine ⟨i + 1, hi', (show o.bx.a.length - (i + 1) < o.bx.a.length - i by omega), ⟨rfl, ?_, rfl, rfl, rfl, rfl, rfl, trivial⟩, rfl⟩
      show bv false = bv (noneB (o.bx.a.take (i + 1)))
      rw [hst]
    | true =>
      rw [Bool.true_and, ← int_zero] at hst
      repeat' ((first | refine brP_t (by assumption) ?_ | refine brP_f (by assumption) ?_ | refine brP_t (decide_eq_true (by omega)) ?_ | refine brP_f (decide_eq_false (by omega)) ?_ | refine brP_t (nd_t (by omega)) ?_ | refine brP_f (nd_f (by omega)) ?_ | ((conv in (opS _ _ _ _) => whnf); rw [Int.toNat_natCast, hget]) | ((conv in (opM _ _ _ _ _) => whnf); (conv in (opS _ _ _ _) => whnf); rw [Int.toNat_natCast, hget]) | ((rw [hw2])) | refine wpfS_seq1 ?_ | refine wpfS_go ?_ | fail) <;> conv => whnf)
      refine ⟨i + 1, hi', (show o.bx.a.length - (i + 1) < o.bx.a.length - i by omega), ⟨rfl, ?_, rfl, rfl, rfl, rfl, rfl, trivial⟩, rfl⟩
      show bv (decide ((used : Int) = 0)) = bv (noneB (o.bx.a.take (i + 1)))
      rw [hst]
  have hi' : i = o.bx.a.length := by have := of_decide_eq_false h; omega
  subst hi'
  clear h
  rw [List.take_length]
  generalize noneB o.bx.a = nb at *
  have hLh' : nb = true → (b2h.length : Int) = (o.bx.h.length : Int) := fun h => by rw [hLh h]
  have hLq' : (b2q.length : Int) = (o.bx.q.length : Int) + (EV.length : Int) := by omega
  cases nb
  all_goals
    try have hh := hLh' rfl
    repeat' ((first | refine brP_t (by assumption) ?_ | refine brP_f (by assumption) ?_ | refine brP_t (decide_eq_true (by omega)) ?_ | refine brP_f (decide_eq_false (by omega)) ?_ | refine brP_t (nd_t (by omega)) ?_ | refine brP_f (nd_f (by omega)) ?_ | ((rw [l2])) | ((rw [l3])) | ((rw [l4])) | ((rw [l5])) | ((rw [hws])) | refine wpfS_seq1 ?_ | refine wpfS_go ?_ | fail) <;> conv => whnf)
    (first | refine callK_p c3 ?_ | refine callM_p c3 rfl ?_ | refine callK_pf rfl c3 ?_ | refine callK_pk rfl c3 ?_)
    conv => whnf
    repeat' ((first | refine brP_t (by assumption) ?_ | refine brP_f (by assumption) ?_ | refine brP_t (decide_eq_true (by omega)) ?_ | refine brP_f (decide_eq_false (by omega)) ?_ | refine brP_t (nd_t (by omega)) ?_ | refine brP_f (nd_f (by omega)) ?_ | ((rw [l2])) | ((rw [l3])) | ((rw [l4])) | ((rw [l5])) | ((rw [hws])) | refine wpfS_seq1 ?_ | refine wpfS_go ?_ | fail) <;> conv => whnf)
    (first | refine callK_p c4 ?_ | refine callM_p c4 rfl ?_ | refine callK_pf rfl c4 ?_ | refine callK_pk rfl c4 ?_)
    conv => whnf
    repeat' ((first | refine brP_t (by assumption) ?_ | refine brP_f (by assumption) ?_ | refine brP_t (decide_eq_true (by omega)) ?_ | refine brP_f (decide_eq_false (by omega)) ?_ | refine brP_t (nd_t (by omega)) ?_ | refine brP_f (nd_f (by omega)) ?_ | ((rw [l2])) | ((rw [l3])) | ((rw [l4])) | ((rw [l5])) | ((rw [hws])) | refine wpfS_seq1 ?_ | refine wpfS_go ?_ | fail) <;> conv => whnf)
    (first | refine callK_p c5 ?_ | refine callM_p c5 rfl ?_ | refine callK_pf rfl c5 ?_ | refine callK_pk rfl c5 ?_)
    conv => whnf
    repeat' ((first | refine brP_t (by assumption) ?_ | refine brP_f (by assumption) ?_ | refine brP_t (decide_eq_true (by omega)) ?_ | refine brP_f (decide_eq_false (by omega)) ?_ | refine brP_t (nd_t (by omega)) ?_ | refine brP_f (nd_f (by omega)) ?_ | ((rw [l2])) | ((rw [l3])) | ((rw [l4])) | ((rw [l5])) | ((rw [hws])) | refine wpfS_seq1 ?_ | refine wpfS_go ?_ | fail) <;> conv => whnf)
    (first | refine callK_p c6 ?_ | refine callM_p c6 rfl ?_ | refine callK_pf rfl c6 ?_ | refine callK_pk rfl c6 ?_)
    conv => whnf
    repeat' ((first | refine brP_t (by assumption) ?_ | refine brP_f (by assumption) ?_ | refine brP_t (decide_eq_true (by omega)) ?_ | refine brP_f (decide_eq_false (by omega)) ?_ | refine brP_t (nd_t (by omega)) ?_ | refine brP_f (nd_f (by omega)) ?_ | ((rw [l2])) | ((rw [l3])) | ((rw [l4])) | ((rw [l5])) | ((rw [hws])) | refine wpfS_seq1 ?_ | refine wpfS_go ?_ | fail) <;> conv => whnf)
    refine SemS.loopF false hm (σ := Nat) (fun i => [(14, iv i), (11, slv EV), (7, .c (.ptr (.loc 1) 0)), (4, .c (.ptr (.loc 0) 0)), (2, .c (.p (.int .u8 ep)))])
      (fun _ => ⟨[], [.row pq.row, .row [.int .u16 o.ids, .int .u16 o.idi, .int .i64 o.k, .int .i64 o.n, .int .u16 o.ls, .int .u16 o.li, .int .i64 o.stamp, .bool o.swept, .int .u16 o.ws, .int .u16 o.wi, .int .i64 o.role, .str o.buf, .bool o.dead, .int .i64 o.bx.next, .sl (msgs o.bx.q), .sl (msgs o.bx.a), .sl (msgs o.bx.h)], .row (mrow M), .mrow ((Ob.row { o with bx := ⟨b2n, b2q, [], b2h⟩ }).map .p)]⟩) (fun i => EV.length - i) (fun i => i ≤ EV.length) 0 (Nat.zero_le _) ⟨rfl, rfl, rfl, rfl, rfl, trivial⟩ rfl ?_
    intro i hi
    refine wpf_seq1 ?_
    conv => whnf
    try (refine wpfS_seq1 ?_; conv => whnf)
    refine brP_mk (fun h => ?_) (fun h => ?_)
    · have hi' : i < EV.length := by have := of_decide_eq_true h; omega
      clear h
      obtain ⟨x, hget, hxo, hxs⟩ := hEV i hi'
      have hw2 : IntKind.i64.wrap ((i : Int) + 1) = ((i + 1 : Nat) : Int) := by rw [wrap64 (by omega)]; rfl
      have d1 := policy_Caps_ok pq hq x.role x.s x.i hxo.s hxo.i
      have e2 := lab_ne x.s x.i
      have e3 := ne_zero hxs
      repeat' ((first | refine brP_t (by assumption) ?_ | refine brP_f (by assumption) ?_ | refine brP_t (decide_eq_true (by omega)) ?_ | refine brP_f (decide_eq_false (by omega)) ?_ | refine brP_t (nd_t (by omega)) ?_ | refine brP_f (nd_f (by omega)) ?_ | ((conv in (opS _ _ _ _) => whnf); rw [Int.toNat_natCast, hget]) | ((conv in (opM _ _ _ _ _) => whnf); (conv in (opS _ _ _ _) => whnf); rw [Int.toNat_natCast, hget]) | refine brP_f e1 ?_ | ((rw [hwe])) | refine callK_p d1 ?_ | refine callM_p d1 rfl ?_ | refine callK_pf rfl d1 ?_ | refine callK_pk rfl d1 ?_ | refine brP_f e3 ?_ | refine brP_f e2 ?_ | ((rw [hw2])) | refine wpfS_seq1 ?_ | refine wpfS_go ?_ | fail) <;> conv => whnf)
      exact ⟨i + 1, hi', (show EV.length - (i + 1) < EV.length - i by omega), ⟨rfl, rfl, rfl, rfl, rfl, trivial⟩, rfl⟩
    · repeat' ((first | refine brP_t (by assumption) ?_ | refine brP_f (by assumption) ?_ | refine brP_t (decide_eq_true (by omega)) ?_ | refine brP_f (decide_eq_false (by omega)) ?_ | refine brP_t (nd_t (by omega)) ?_ | refine brP_f (nd_f (by omega)) ?_ | refine callK_p L32_alive_ok ?_ | refine callM_p L32_alive_ok rfl ?_ | refine callK_pf rfl L32_alive_ok ?_ | refine callK_pk rfl L32_alive_ok ?_ | refine wpfS_seq1 ?_ | refine wpfS_go ?_ | fail) <;> conv => whnf)
      rfl
theorem law_releaseAll (pvss : List (List PV)) (hw : wts [shPol, shMoves, .int .u8, shOb] pvss) : EvP PR G f_L32_ReleaseAll (argAVs [shPol, shMoves, .int .u8, shOb] pvss) (.c (.p (.bool true))) := by
  obtain ⟨a, _, rfl, ha, hw⟩ := wts_cons hw
  obtain ⟨b, _, rfl, hb, hw⟩ := wts_cons hw
  obtain ⟨c, _, rfl, hc, hw⟩ := wts_cons hw
  obtain ⟨d, _, rfl, hd, hw⟩ := wts_cons hw
  cases wts_nil hw
  obtain ⟨p, rfl, hp⟩ := pol_of ha
  obtain ⟨t, rfl, -, hl, ht⟩ := hb
  obtain ⟨t, rfl⟩ := prows_of ht
  obtain ⟨e, rfl, he⟩ := hc
  obtain ⟨e', rfl, he'⟩ := u8_of he
  obtain ⟨o, rfl, ho, hol⟩ := ob_lim hd
  have : t.length < 2 ^ 63 := by
    have := len63 hl
    simpa [prows] using this
  exact releaseAll_ok p hp t this e' he' o ho hol
end Go.Ab.S
