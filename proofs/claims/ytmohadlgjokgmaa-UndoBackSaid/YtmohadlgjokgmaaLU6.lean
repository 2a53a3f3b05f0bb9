/- UndoBack. No condition. -/
import Derived.Test.YtmohadlgjokgmaaLU5
set_option linter.unusedSimpArgs false
set_option linter.unusedVariables false
namespace Go.Ab.S
open Go Go.Ab Go.Proofs
attribute [local irreducible] SemS
set_option maxRecDepth 100000
theorem firstP_ok : firstP.Ok := ⟨by decide, fun r _ => by show (0 : Nat) < 65536; decide, fun r _ => by show (if r = 0 then 65535 else 0) < 65536; split <;> decide, fun r _ => by show (0 : Nat) < 65536; decide, fun r _ => by show (0 : Nat) ≤ 255; decide, by decide⟩
def newM (e : Int) (data : List UInt8) : Msg := ⟨0, e, 0, 0, 0, 0, data⟩
theorem isort_okM {l : List Msg} (h : ∀ m ∈ l, m.Ok) : ∀ m ∈ isort l, m.Ok := fun m hm => h m ((isort_perm l).mem_iff.1 hm)
theorem aside_Ok {b : Bx} (h : b.Ok) (hl : b.len ≤ 8) : b.aside.Ok := by
  have hlen : b.len = b.q.length + b.a.length + b.h.length := rfl
  refine ⟨h.next, fun m hm => (by cases hm), isort_okM fun m hm => ?_, h.h, by show (0 : Nat) < 2 ^ 63; decide, ?_, h.hl⟩
  · rcases List.mem_append.1 hm with hm | hm
    · exact h.a m hm
    · exact h.q m hm
  · show (isort (b.a ++ b.q)).length < 2 ^ 63
    rw [(isort_perm _).length_eq, List.length_append]; omega
theorem putR_bad {b : Bx} {m : Msg} (h : 8 ≤ b.len ∨ 2147483647 ≤ b.next) : putR b m = (Bx.emp, 12) := if_pos h
theorem putR_ok {b : Bx} {m : Msg} (h : ¬ (8 ≤ b.len ∨ 2147483647 ≤ b.next)) : putR b m = (b.put m, 0) := if_neg h
set_option maxHeartbeats 16000000 in
theorem undoBack_ok (l : List (Int × Int)) (hl63 : l.length < 2 ^ 63) (o : Ob) (ho : o.Ok) (hlim : o.Lim) (lt : Bool) (more : List UInt8) (hmore : more.length < 2 ^ 62) : EvP PR G f_L33_UndoBack [slv (prows l), .agg o.row, .c (.p (.bool lt)), .c (.p (.str more))] (bv true) := by
  have hlen : (prows l).length = l.length := by simp [prows]
  have cF := R25_Fine_ok o hlim
  have hrow : o.row = [.int .u16 o.ids, .int .u16 o.idi, .int .i64 o.k, .int .i64 o.n, .int .u16 o.ls, .int .u16 o.li, .int .i64 o.stamp, .bool o.swept, .int .u16 o.ws, .int .u16 o.wi, .int .i64 o.role, .str o.buf, .bool o.dead, .int .i64 o.bx.next, .sl (msgs o.bx.q), .sl (msgs o.bx.a), .sl (msgs o.bx.h)] := rfl
  have haq := msgs_len (l := o.bx.q)
  have haa := msgs_len (l := o.bx.a)
  have hah := msgs_len (l := o.bx.h)
  refine EvP.of_wpf false hm c_L33_UndoBack rfl ?_
  rw [hrow]
  rw [hrow] at cF
  refine wpf_seq1 ?_
  conv => whnf
  by_cases h20 : 20 < l.length
  · repeat' ((first | refine brP_t (by assumption) ?_ | refine brP_f (by assumption) ?_ | refine brP_t (decide_eq_true (by omega)) ?_ | refine brP_f (decide_eq_false (by omega)) ?_ | refine brP_t (nd_t (by omega)) ?_ | refine brP_f (nd_f (by omega)) ?_ | ((rw [hlen])) | refine callK_p L33_alive_ok ?_ | refine callM_p L33_alive_ok rfl ?_ | refine callK_pf rfl L33_alive_ok ?_ | refine callK_pk rfl L33_alive_ok ?_ | refine wpfS_seq1 ?_ | refine wpfS_go ?_ | fail) <;> conv => whnf)
    rfl
  cases hf : o.fine with
  | false =>
    rw [hf] at cF
    repeat' ((first | refine brP_t (by assumption) ?_ | refine brP_f (by assumption) ?_ | refine brP_t (decide_eq_true (by omega)) ?_ | refine brP_f (decide_eq_false (by omega)) ?_ | refine brP_t (nd_t (by omega)) ?_ | refine brP_f (nd_f (by omega)) ?_ | ((rw [hlen])) | refine callK_p cF ?_ | refine callM_p cF rfl ?_ | refine callK_pf rfl cF ?_ | refine callK_pk rfl cF ?_ | refine callK_p L33_alive_ok ?_ | refine callM_p L33_alive_ok rfl ?_ | refine callK_pf rfl L33_alive_ok ?_ | refine callK_pk rfl L33_alive_ok ?_ | refine wpfS_seq1 ?_ | refine wpfS_go ?_ | fail) <;> conv => whnf)
    rfl
  | true =>
  rw [hf] at cF
  cases hsw : o.swept with
  | true =>
    rw [hsw] at cF
    repeat' ((first | refine brP_t (by assumption) ?_ | refine brP_f (by assumption) ?_ | refine brP_t (decide_eq_true (by omega)) ?_ | refine brP_f (decide_eq_false (by omega)) ?_ | refine brP_t (nd_t (by omega)) ?_ | refine brP_f (nd_f (by omega)) ?_ | ((rw [hlen])) | refine callK_p cF ?_ | refine callM_p cF rfl ?_ | refine callK_pf rfl cF ?_ | refine callK_pk rfl cF ?_ | refine callK_p L33_alive_ok ?_ | refine callM_p L33_alive_ok rfl ?_ | refine callK_pf rfl L33_alive_ok ?_ | refine callK_pk rfl L33_alive_ok ?_ | refine wpfS_seq1 ?_ | refine wpfS_go ?_ | fail) <;> conv => whnf)
    rfl
  | false =>
  rw [hsw] at cF
  by_cases h255 : o.stamp = 255
  · repeat' ((first | refine brP_t (by assumption) ?_ | refine brP_f (by assumption) ?_ | refine brP_t (decide_eq_true (by omega)) ?_ | refine brP_f (decide_eq_false (by omega)) ?_ | refine brP_t (nd_t (by omega)) ?_ | refine brP_f (nd_f (by omega)) ?_ | ((rw [hlen])) | refine callK_p cF ?_ | refine callM_p cF rfl ?_ | refine callK_pf rfl cF ?_ | refine callK_pk rfl cF ?_ | refine callK_p L33_alive_ok ?_ | refine callM_p L33_alive_ok rfl ?_ | refine callK_pf rfl L33_alive_ok ?_ | refine callK_pk rfl L33_alive_ok ?_ | refine wpfS_seq1 ?_ | refine wpfS_go ?_ | fail) <;> conv => whnf)
    rfl
  by_cases h32 : 32 < more.length
  · repeat' ((first | refine brP_t (by assumption) ?_ | refine brP_f (by assumption) ?_ | refine brP_t (decide_eq_true (by omega)) ?_ | refine brP_f (decide_eq_false (by omega)) ?_ | refine brP_t (nd_t (by omega)) ?_ | refine brP_f (nd_f (by omega)) ?_ | ((rw [hlen])) | refine callK_p cF ?_ | refine callM_p cF rfl ?_ | refine callK_pf rfl cF ?_ | refine callK_pk rfl cF ?_ | refine callK_p L33_alive_ok ?_ | refine callM_p L33_alive_ok rfl ?_ | refine callK_pf rfl L33_alive_ok ?_ | refine callK_pk rfl L33_alive_ok ?_ | refine wpfS_seq1 ?_ | refine wpfS_go ?_ | fail) <;> conv => whnf)
    rfl
  have h8 := fine_len hf
  have hblen : o.bx.len = o.bx.q.length + o.bx.a.length + o.bx.h.length := rfl
  have hwl : IntKind.i64.wrap ((o.bx.a.length : Int) + (o.bx.h.length : Int)) = (o.bx.a.length : Int) + (o.bx.h.length : Int) := wrap64 (by omega)
  by_cases hz : 0 < o.bx.a.length + o.bx.h.length
  · repeat' ((first | refine brP_t (by assumption) ?_ | refine brP_f (by assumption) ?_ | refine brP_t (decide_eq_true (by omega)) ?_ | refine brP_f (decide_eq_false (by omega)) ?_ | refine brP_t (nd_t (by omega)) ?_ | refine brP_f (nd_f (by omega)) ?_ | ((rw [hlen])) | refine callK_p cF ?_ | refine callM_p cF rfl ?_ | refine callK_pf rfl cF ?_ | refine callK_pk rfl cF ?_ | ((rw [haa])) | ((rw [hah])) | ((rw [hwl])) | refine callK_p L33_alive_ok ?_ | refine callM_p L33_alive_ok rfl ?_ | refine callK_pf rfl L33_alive_ok ?_ | refine callK_pk rfl L33_alive_ok ?_ | refine wpfS_seq1 ?_ | refine wpfS_go ?_ | fail) <;> conv => whnf)
    rfl
  have ea : o.bx.a = [] := List.length_eq_zero_iff.1 (by omega)
  have eh : o.bx.h = [] := List.length_eq_zero_iff.1 (by omega)
  repeat' ((first | refine brP_t (by assumption) ?_ | refine brP_f (by assumption) ?_ | refine brP_t (decide_eq_true (by omega)) ?_ | refine brP_f (decide_eq_false (by omega)) ?_ | refine brP_t (nd_t (by omega)) ?_ | refine brP_f (nd_f (by omega)) ?_ | ((rw [hlen])) | refine callK_p cF ?_ | refine callM_p cF rfl ?_ | refine callK_pf rfl cF ?_ | refine callK_pk rfl cF ?_ | ((rw [haa])) | ((rw [hah])) | ((rw [hwl])) | refine wpfS_seq1 ?_ | refine wpfS_go ?_ | fail) <;> conv => whnf)
  refine SemS.loopF false hm (σ := Nat) (fun i => [(9, iv i), (5, .c (.ptr (.loc 0) 0)), (0, slv (prows l)), (2, .c (.p (.bool lt))), (3, .c (.p (.str more)))])
    (fun _ => ⟨[], [.row [.int .u16 o.ids, .int .u16 o.idi, .int .i64 o.k, .int .i64 o.n, .int .u16 o.ls, .int .u16 o.li, .int .i64 o.stamp, .bool false, .int .u16 o.ws, .int .u16 o.wi, .int .i64 o.role, .str o.buf, .bool o.dead, .int .i64 o.bx.next, .sl (msgs o.bx.q), .sl (msgs o.bx.a), .sl (msgs o.bx.h)]]⟩) (fun i => o.bx.q.length - i) (fun i => i ≤ o.bx.q.length ∧ ∀ m ∈ o.bx.q.take i, m.ep ≤ o.stamp) 0 ⟨Nat.zero_le _, fun m hm => by cases hm⟩ ⟨rfl, rfl, rfl, rfl, rfl, trivial⟩ rfl ?_
  rintro i ⟨hi, hall⟩
  refine wpf_seq1 ?_
  conv => whnf
  rw [haq]
  refine brP_mk (fun h => ?_) (fun h => ?_)
  · have hi' : i < o.bx.q.length := by have := of_decide_eq_true h; omega
    clear h
    have hget := msgs_get hi'
    have hw2 : IntKind.i64.wrap ((i : Int) + 1) = ((i + 1 : Nat) : Int) := by rw [wrap64 (by omega)]; rfl
    have htk := List.take_succ_eq_append_getElem hi'
    generalize o.bx.q[i] = m at *
    by_cases hep : o.stamp < m.ep
    · repeat' ((first | refine brP_t (by assumption) ?_ | refine brP_f (by assumption) ?_ | refine brP_t (decide_eq_true (by omega)) ?_ | refine brP_f (decide_eq_false (by omega)) ?_ | refine brP_t (nd_t (by omega)) ?_ | refine brP_f (nd_f (by omega)) ?_ | ((conv in (opS _ _ _ _) => whnf); rw [Int.toNat_natCast, hget]) | ((conv in (opM _ _ _ _ _) => whnf); (conv in (opS _ _ _ _) => whnf); rw [Int.toNat_natCast, hget]) | refine callK_p L33_alive_ok ?_ | refine callM_p L33_alive_ok rfl ?_ | refine callK_pf rfl L33_alive_ok ?_ | refine callK_pk rfl L33_alive_ok ?_ | refine wpfS_seq1 ?_ | refine wpfS_go ?_ | fail) <;> conv => whnf)
      rfl
    · repeat' ((first | refine brP_t (by assumption) ?_ | refine brP_f (by assumption) ?_ | refine brP_t (decide_eq_true (by omega)) ?_ | refine brP_f (decide_eq_false (by omega)) ?_ | refine brP_t (nd_t (by omega)) ?_ | refine brP_f (nd_f (by omega)) ?_ | ((conv in (opS _ _ _ _) => whnf); rw [Int.toNat_natCast, hget]) | ((conv in (opM _ _ _ _ _) => whnf); (conv in (opS _ _ _ _) => whnf); rw [Int.toNat_natCast, hget]) | ((rw [hw2])) | refine wpfS_seq1 ?_ | refine wpfS_go ?_ | fail) <;> conv => whnf)
      refine ⟨i + 1, ⟨hi', fun x hx => ?_⟩, (show o.bx.q.length - (i + 1) < o.bx.q.length - i by omega), ⟨rfl, rfl, rfl, rfl, rfl, trivial⟩, rfl⟩
      rw [htk] at hx
      rcases List.mem_append.1 hx with hx | hx
      · exact hall x hx
      · rw [List.mem_singleton.1 hx]; omega
  have hi' : i = o.bx.q.length := by have := of_decide_eq_false h; omega
  subst hi'
  clear h
  rw [List.take_length] at hall
  have hM : mapOk (madeN l) := fun i hi => by have := made_lt l i hi; omega
  have c0 := R04_Made_ok l (by omega)
  generalize madeN l = M at *
  have hst : 0 ≤ o.stamp ∧ o.stamp ≤ 255 := by
    have h := hf
    unfold Ob.fine at h
    simp only [Bool.and_eq_true, decide_eq_true_eq] at h
    exact ⟨h.2.1, h.2.2.1⟩
  have hw1 : IntKind.i64.wrap (o.stamp + 1) = o.stamp + 1 := wrap64 (by omega)
  have c1 := R31_One_ok M hM (o.stamp + 1) o ho.ls ho.li (fine_good hf)
  have hx : o.stampO M (o.stamp + 1) = { o with ws := o.ls, wi := o.li, ls := setN M o.ls, li := setN M o.li, swept := true, stamp := o.stamp + 1, bx := if o.k = 2 then o.bx.aside else o.bx } := by
    unfold Ob.stampO; rw [hsw]; rfl
  have hund := undo_stamped (M := M) hf ho hsw
  rw [hx] at c1 hund
  have cU : ∀ b : Bx, (o.k = 2 → b.len ≤ 19) → EvP PR G f_undo_One [mv M, iv o.stamp, .agg (Ob.row { o with ws := o.ls, wi := o.li, ls := setN M o.ls, li := setN M o.li, swept := true, stamp := o.stamp + 1, bx := b })] (.agg (Ob.row { o with bx := if o.k = 2 then b.restore.each (minE o.stamp) else b })) := fun b hb => by
    have := undo_One_ok M hM o.stamp { o with ws := o.ls, wi := o.li, ls := setN M o.ls, li := setN M o.li, swept := true, stamp := o.stamp + 1, bx := b } ho.ls ho.li hb
    rw [hund b] at this
    exact this
  have cS : ∀ b : Bx, b.len < 2 ^ 61 → EvP PR G f_R25_Same [.agg (Ob.row { o with bx := b }), .agg (Ob.row { o with bx := b })] (bv true) := fun b hb => by
    have := R25_Same_ok { o with bx := b } { o with bx := b } ⟨hb, hlim.buf⟩
    rwa [decide_eq_true rfl] at this
  clear hund hx
  rw [hrow, hsw] at c1
  have hsw' : ∀ b : Bx, Ob.row { o with bx := b } = Ob.row { o with swept := false, bx := b } := fun b => by rw [← hsw]
  simp only [hsw'] at cU cS
  generalize setN M o.ls = s1 at *
  generalize setN M o.li = s2 at *
  by_cases hk : o.k = 2
  case neg =>
    rw [if_neg hk] at c1
    have cU := cU o.bx (fun h => absurd h hk)
    have cS := cS o.bx hlim.bx
    rw [if_neg hk] at cU
    repeat' ((first | refine brP_t (by assumption) ?_ | refine brP_f (by assumption) ?_ | refine brP_t (decide_eq_true (by omega)) ?_ | refine brP_f (decide_eq_false (by omega)) ?_ | refine brP_t (nd_t (by omega)) ?_ | refine brP_f (nd_f (by omega)) ?_ | ((rw [hw1])) | refine wpfS_seq1 ?_ | refine wpfS_go ?_ | fail) <;> conv => whnf)
    (first | refine callK_p c0 ?_ | refine callM_p c0 rfl ?_ | refine callK_pf rfl c0 ?_ | refine callK_pk rfl c0 ?_)
    conv => whnf
    repeat' ((first | refine brP_t (by assumption) ?_ | refine brP_f (by assumption) ?_ | refine brP_t (decide_eq_true (by omega)) ?_ | refine brP_f (decide_eq_false (by omega)) ?_ | refine brP_t (nd_t (by omega)) ?_ | refine brP_f (nd_f (by omega)) ?_ | ((rw [hw1])) | refine wpfS_seq1 ?_ | refine wpfS_go ?_ | fail) <;> conv => whnf)
    (first | refine callK_p c1 ?_ | refine callM_p c1 rfl ?_ | refine callK_pf rfl c1 ?_ | refine callK_pk rfl c1 ?_)
    conv => whnf
    repeat' ((first | refine brP_t (by assumption) ?_ | refine brP_f (by assumption) ?_ | refine brP_t (decide_eq_true (by omega)) ?_ | refine brP_f (decide_eq_false (by omega)) ?_ | refine brP_t (nd_t (by omega)) ?_ | refine brP_f (nd_f (by omega)) ?_ | ((rw [hw1])) | refine wpfS_seq1 ?_ | refine wpfS_go ?_ | fail) <;> conv => whnf)
    (first | refine callK_p cU ?_ | refine callM_p cU rfl ?_ | refine callK_pf rfl cU ?_ | refine callK_pk rfl cU ?_)
    conv => whnf
    repeat' ((first | refine brP_t (by assumption) ?_ | refine brP_f (by assumption) ?_ | refine brP_t (decide_eq_true (by omega)) ?_ | refine brP_f (decide_eq_false (by omega)) ?_ | refine brP_t (nd_t (by omega)) ?_ | refine brP_f (nd_f (by omega)) ?_ | ((rw [hw1])) | refine wpfS_seq1 ?_ | refine wpfS_go ?_ | fail) <;> conv => whnf)
    (first | refine callK_p cS ?_ | refine callM_p cS rfl ?_ | refine callK_pf rfl cS ?_ | refine callK_pk rfl cS ?_)
    conv => whnf
    repeat' ((first | refine brP_t (by assumption) ?_ | refine brP_f (by assumption) ?_ | refine brP_t (decide_eq_true (by omega)) ?_ | refine brP_f (decide_eq_false (by omega)) ?_ | refine brP_t (nd_t (by omega)) ?_ | refine brP_f (nd_f (by omega)) ?_ | ((rw [hw1])) | refine wpfS_seq1 ?_ | refine wpfS_go ?_ | fail) <;> conv => whnf)
    (first | refine callK_p L33_alive_ok ?_ | refine callM_p L33_alive_ok rfl ?_ | refine callK_pf rfl L33_alive_ok ?_ | refine callK_pk rfl L33_alive_ok ?_)
    conv => whnf
    repeat' ((first | refine brP_t (by assumption) ?_ | refine brP_f (by assumption) ?_ | refine brP_t (decide_eq_true (by omega)) ?_ | refine brP_f (decide_eq_false (by omega)) ?_ | refine brP_t (nd_t (by omega)) ?_ | refine brP_f (nd_f (by omega)) ?_ | ((rw [hw1])) | refine wpfS_seq1 ?_ | refine wpfS_go ?_ | fail) <;> conv => whnf)
    rfl
  rw [if_pos hk] at c1
  simp only [if_pos hk] at cU
  have hg := fine_good hf hk
  have hga := hg.aside
  have hoa := aside_Ok ho.bx h8
  have pa := aside_perm0 ea eh
  cases lt with
  | false =>
    have c3 := R23_Put_ok o.bx.aside (newM (o.stamp + 1) more) hga
    have c4 := R23_Put_ok o.bx (newM o.stamp more) hg
    have hlb : o.bx.aside.len = o.bx.len := by rw [← Bx.all_len, (aside_perm o.bx).length_eq, Bx.all_len]
    by_cases hp : 8 ≤ o.bx.len ∨ 2147483647 ≤ o.bx.next
    · rw [putR_bad (b := o.bx.aside) (by rw [hlb]; exact hp)] at c3
      rw [putR_bad hp] at c4
      have cU := cU o.bx.aside (fun _ => by rw [hlb]; omega)
      rw [bx_back (b := o.bx) (c := o.bx.aside) rfl pa hg ea eh hall] at cU
      have cS := cS o.bx hlim.bx
      repeat' ((first | refine brP_t (by assumption) ?_ | refine brP_f (by assumption) ?_ | refine brP_t (decide_eq_true (by omega)) ?_ | refine brP_f (decide_eq_false (by omega)) ?_ | refine brP_t (nd_t (by omega)) ?_ | refine brP_f (nd_f (by omega)) ?_ | ((rw [hw1])) | refine wpfS_seq1 ?_ | refine wpfS_go ?_ | fail) <;> conv => whnf)
      (first | refine callK_p c0 ?_ | refine callM_p c0 rfl ?_ | refine callK_pf rfl c0 ?_ | refine callK_pk rfl c0 ?_)
      conv => whnf
      repeat' ((first | refine brP_t (by assumption) ?_ | refine brP_f (by assumption) ?_ | refine brP_t (decide_eq_true (by omega)) ?_ | refine brP_f (decide_eq_false (by omega)) ?_ | refine brP_t (nd_t (by omega)) ?_ | refine brP_f (nd_f (by omega)) ?_ | ((rw [hw1])) | refine wpfS_seq1 ?_ | refine wpfS_go ?_ | fail) <;> conv => whnf)
      (first | refine callK_p c1 ?_ | refine callM_p c1 rfl ?_ | refine callK_pf rfl c1 ?_ | refine callK_pk rfl c1 ?_)
      conv => whnf
      repeat' ((first | refine brP_t (by assumption) ?_ | refine brP_f (by assumption) ?_ | refine brP_t (decide_eq_true (by omega)) ?_ | refine brP_f (decide_eq_false (by omega)) ?_ | refine brP_t (nd_t (by omega)) ?_ | refine brP_f (nd_f (by omega)) ?_ | ((rw [hw1])) | refine wpfS_seq1 ?_ | refine wpfS_go ?_ | fail) <;> conv => whnf)
      (first | refine callK_p c3 ?_ | refine callM_p c3 rfl ?_ | refine callK_pf rfl c3 ?_ | refine callK_pk rfl c3 ?_)
      conv => whnf
      repeat' ((first | refine brP_t (by assumption) ?_ | refine brP_f (by assumption) ?_ | refine brP_t (decide_eq_true (by omega)) ?_ | refine brP_f (decide_eq_false (by omega)) ?_ | refine brP_t (nd_t (by omega)) ?_ | refine brP_f (nd_f (by omega)) ?_ | ((rw [hw1])) | refine wpfS_seq1 ?_ | refine wpfS_go ?_ | fail) <;> conv => whnf)
      (first | refine callK_p c4 ?_ | refine callM_p c4 rfl ?_ | refine callK_pf rfl c4 ?_ | refine callK_pk rfl c4 ?_)
      conv => whnf
      repeat' ((first | refine brP_t (by assumption) ?_ | refine brP_f (by assumption) ?_ | refine brP_t (decide_eq_true (by omega)) ?_ | refine brP_f (decide_eq_false (by omega)) ?_ | refine brP_t (nd_t (by omega)) ?_ | refine brP_f (nd_f (by omega)) ?_ | ((rw [hw1])) | refine wpfS_seq1 ?_ | refine wpfS_go ?_ | fail) <;> conv => whnf)
      (first | refine callK_p cU ?_ | refine callM_p cU rfl ?_ | refine callK_pf rfl cU ?_ | refine callK_pk rfl cU ?_)
      conv => whnf
      repeat' ((first | refine brP_t (by assumption) ?_ | refine brP_f (by assumption) ?_ | refine brP_t (decide_eq_true (by omega)) ?_ | refine brP_f (decide_eq_false (by omega)) ?_ | refine brP_t (nd_t (by omega)) ?_ | refine brP_f (nd_f (by omega)) ?_ | ((rw [hw1])) | refine wpfS_seq1 ?_ | refine wpfS_go ?_ | fail) <;> conv => whnf)
      (first | refine callK_p cS ?_ | refine callM_p cS rfl ?_ | refine callK_pf rfl cS ?_ | refine callK_pk rfl cS ?_)
      conv => whnf
      repeat' ((first | refine brP_t (by assumption) ?_ | refine brP_f (by assumption) ?_ | refine brP_t (decide_eq_true (by omega)) ?_ | refine brP_f (decide_eq_false (by omega)) ?_ | refine brP_t (nd_t (by omega)) ?_ | refine brP_f (nd_f (by omega)) ?_ | ((rw [hw1])) | refine wpfS_seq1 ?_ | refine wpfS_go ?_ | fail) <;> conv => whnf)
      (first | refine callK_p L33_alive_ok ?_ | refine callM_p L33_alive_ok rfl ?_ | refine callK_pf rfl L33_alive_ok ?_ | refine callK_pk rfl L33_alive_ok ?_)
      conv => whnf
      repeat' ((first | refine brP_t (by assumption) ?_ | refine brP_f (by assumption) ?_ | refine brP_t (decide_eq_true (by omega)) ?_ | refine brP_f (decide_eq_false (by omega)) ?_ | refine brP_t (nd_t (by omega)) ?_ | refine brP_f (nd_f (by omega)) ?_ | ((rw [hw1])) | refine wpfS_seq1 ?_ | refine wpfS_go ?_ | fail) <;> conv => whnf)
      rfl
    · rw [putR_ok (b := o.bx.aside) (by rw [hlb]; exact hp)] at c3
      rw [putR_ok hp] at c4
      have hpl : ∀ (b : Bx) (m : Msg), (b.put m).len = b.len + 1 := fun b m => by
        show (b.q ++ [_]).length + b.a.length + b.h.length = b.q.length + b.a.length + b.h.length + 1
        rw [List.length_append]; simp only [List.length_cons, List.length_nil]; omega
      have cU := cU (o.bx.aside.put (newM (o.stamp + 1) more)) (fun _ => by rw [hpl, hlb]; omega)
      have hbk : (o.bx.aside.put (newM (o.stamp + 1) more)).restore.each (minE o.stamp) = o.bx.put (newM o.stamp more) := bx_back_put (b := o.bx) (c := o.bx.aside) rfl pa hg ea eh hall more
      rw [hbk] at cU
      have cS := cS (o.bx.put (newM o.stamp more)) (by rw [hpl]; omega)
      generalize o.bx.aside.put (newM (o.stamp + 1) more) = b2 at *
      generalize o.bx.put (newM o.stamp more) = b3 at *
      obtain ⟨b2n, b2q, b2a, b2h⟩ := b2
      obtain ⟨b3n, b3q, b3a, b3h⟩ := b3
      repeat' ((first | refine brP_t (by assumption) ?_ | refine brP_f (by assumption) ?_ | refine brP_t (decide_eq_true (by omega)) ?_ | refine brP_f (decide_eq_false (by omega)) ?_ | refine brP_t (nd_t (by omega)) ?_ | refine brP_f (nd_f (by omega)) ?_ | ((rw [hw1])) | refine wpfS_seq1 ?_ | refine wpfS_go ?_ | fail) <;> conv => whnf)
      (first | refine callK_p c0 ?_ | refine callM_p c0 rfl ?_ | refine callK_pf rfl c0 ?_ | refine callK_pk rfl c0 ?_)
      conv => whnf
      repeat' ((first | refine brP_t (by assumption) ?_ | refine brP_f (by assumption) ?_ | refine brP_t (decide_eq_true (by omega)) ?_ | refine brP_f (decide_eq_false (by omega)) ?_ | refine brP_t (nd_t (by omega)) ?_ | refine brP_f (nd_f (by omega)) ?_ | ((rw [hw1])) | refine wpfS_seq1 ?_ | refine wpfS_go ?_ | fail) <;> conv => whnf)
      (first | refine callK_p c1 ?_ | refine callM_p c1 rfl ?_ | refine callK_pf rfl c1 ?_ | refine callK_pk rfl c1 ?_)
      conv => whnf
      repeat' ((first | refine brP_t (by assumption) ?_ | refine brP_f (by assumption) ?_ | refine brP_t (decide_eq_true (by omega)) ?_ | refine brP_f (decide_eq_false (by omega)) ?_ | refine brP_t (nd_t (by omega)) ?_ | refine brP_f (nd_f (by omega)) ?_ | ((rw [hw1])) | refine wpfS_seq1 ?_ | refine wpfS_go ?_ | fail) <;> conv => whnf)
      (first | refine callK_p c3 ?_ | refine callM_p c3 rfl ?_ | refine callK_pf rfl c3 ?_ | refine callK_pk rfl c3 ?_)
      conv => whnf
      repeat' ((first | refine brP_t (by assumption) ?_ | refine brP_f (by assumption) ?_ | refine brP_t (decide_eq_true (by omega)) ?_ | refine brP_f (decide_eq_false (by omega)) ?_ | refine brP_t (nd_t (by omega)) ?_ | refine brP_f (nd_f (by omega)) ?_ | ((rw [hw1])) | refine wpfS_seq1 ?_ | refine wpfS_go ?_ | fail) <;> conv => whnf)
      (first | refine callK_p c4 ?_ | refine callM_p c4 rfl ?_ | refine callK_pf rfl c4 ?_ | refine callK_pk rfl c4 ?_)
      conv => whnf
      repeat' ((first | refine brP_t (by assumption) ?_ | refine brP_f (by assumption) ?_ | refine brP_t (decide_eq_true (by omega)) ?_ | refine brP_f (decide_eq_false (by omega)) ?_ | refine brP_t (nd_t (by omega)) ?_ | refine brP_f (nd_f (by omega)) ?_ | ((rw [hw1])) | refine wpfS_seq1 ?_ | refine wpfS_go ?_ | fail) <;> conv => whnf)
      (first | refine callK_p cU ?_ | refine callM_p cU rfl ?_ | refine callK_pf rfl cU ?_ | refine callK_pk rfl cU ?_)
      conv => whnf
      repeat' ((first | refine brP_t (by assumption) ?_ | refine brP_f (by assumption) ?_ | refine brP_t (decide_eq_true (by omega)) ?_ | refine brP_f (decide_eq_false (by omega)) ?_ | refine brP_t (nd_t (by omega)) ?_ | refine brP_f (nd_f (by omega)) ?_ | ((rw [hw1])) | refine wpfS_seq1 ?_ | refine wpfS_go ?_ | fail) <;> conv => whnf)
      (first | refine callK_p cS ?_ | refine callM_p cS rfl ?_ | refine callK_pf rfl cS ?_ | refine callK_pk rfl cS ?_)
      conv => whnf
      repeat' ((first | refine brP_t (by assumption) ?_ | refine brP_f (by assumption) ?_ | refine brP_t (decide_eq_true (by omega)) ?_ | refine brP_f (decide_eq_false (by omega)) ?_ | refine brP_t (nd_t (by omega)) ?_ | refine brP_f (nd_f (by omega)) ?_ | ((rw [hw1])) | refine wpfS_seq1 ?_ | refine wpfS_go ?_ | fail) <;> conv => whnf)
      (first | refine callK_p L33_alive_ok ?_ | refine callM_p L33_alive_ok rfl ?_ | refine callK_pf rfl L33_alive_ok ?_ | refine callK_pk rfl L33_alive_ok ?_)
      conv => whnf
      repeat' ((first | refine brP_t (by assumption) ?_ | refine brP_f (by assumption) ?_ | refine brP_t (decide_eq_true (by omega)) ?_ | refine brP_f (decide_eq_false (by omega)) ?_ | refine brP_t (nd_t (by omega)) ?_ | refine brP_f (nd_f (by omega)) ?_ | ((rw [hw1])) | refine wpfS_seq1 ?_ | refine wpfS_go ?_ | fail) <;> conv => whnf)
      rfl
  | true =>
    have cL : EvP PR G f_R32_Let [firstP.v, mv M, iv (o.stamp + 1), .agg (Ob.row { o with ws := o.ls, wi := o.li, ls := s1, li := s2, swept := true, stamp := o.stamp + 1, bx := o.bx.aside })] (.tup [.agg (Ob.row { o with ws := o.ls, wi := o.li, ls := s1, li := s2, swept := true, stamp := o.stamp + 1, bx := o.bx.aside.letK (keepB firstP M (o.stamp + 1)) }), _]) :=
      R32_Let_ok firstP firstP_ok M hM (o.stamp + 1) { o with ws := o.ls, wi := o.li, ls := s1, li := s2, swept := true, stamp := o.stamp + 1, bx := o.bx.aside } hga hoa
    have pl := (let_perm o.bx.aside (keepB firstP M (o.stamp + 1))).trans pa
    have hgl := hga.letK (keepB firstP M (o.stamp + 1))
    have hll : (o.bx.aside.letK (keepB firstP M (o.stamp + 1))).len = o.bx.len := by rw [← Bx.all_len, (let_perm _ _).length_eq, Bx.all_len, ← Bx.all_len, (aside_perm o.bx).length_eq, Bx.all_len]
    have hln : (o.bx.aside.letK (keepB firstP M (o.stamp + 1))).next = o.bx.next := rfl
    generalize hB1 : o.bx.aside.letK (keepB firstP M (o.stamp + 1)) = b1 at *
    have c3 := R23_Put_ok b1 (newM (o.stamp + 1) more) hgl
    have c4 := R23_Put_ok o.bx (newM o.stamp more) hg
    have hlb : b1.len = o.bx.len := hll
    by_cases hp : 8 ≤ o.bx.len ∨ 2147483647 ≤ o.bx.next
    · rw [putR_bad (b := b1) (by rw [hlb, hln]; exact hp)] at c3
      rw [putR_bad hp] at c4
      have cU := cU b1 (fun _ => by rw [hlb]; omega)
      rw [bx_back (c := b1) hln pl hg ea eh hall] at cU
      have cS := cS o.bx hlim.bx
      repeat' ((first | refine brP_t (by assumption) ?_ | refine brP_f (by assumption) ?_ | refine brP_t (decide_eq_true (by omega)) ?_ | refine brP_f (decide_eq_false (by omega)) ?_ | refine brP_t (nd_t (by omega)) ?_ | refine brP_f (nd_f (by omega)) ?_ | ((rw [hw1])) | refine wpfS_seq1 ?_ | refine wpfS_go ?_ | fail) <;> conv => whnf)
      (first | refine callK_p c0 ?_ | refine callM_p c0 rfl ?_ | refine callK_pf rfl c0 ?_ | refine callK_pk rfl c0 ?_)
      conv => whnf
      repeat' ((first | refine brP_t (by assumption) ?_ | refine brP_f (by assumption) ?_ | refine brP_t (decide_eq_true (by omega)) ?_ | refine brP_f (decide_eq_false (by omega)) ?_ | refine brP_t (nd_t (by omega)) ?_ | refine brP_f (nd_f (by omega)) ?_ | ((rw [hw1])) | refine wpfS_seq1 ?_ | refine wpfS_go ?_ | fail) <;> conv => whnf)
      (first | refine callK_p c1 ?_ | refine callM_p c1 rfl ?_ | refine callK_pf rfl c1 ?_ | refine callK_pk rfl c1 ?_)
      conv => whnf
      repeat' ((first | refine brP_t (by assumption) ?_ | refine brP_f (by assumption) ?_ | refine brP_t (decide_eq_true (by omega)) ?_ | refine brP_f (decide_eq_false (by omega)) ?_ | refine brP_t (nd_t (by omega)) ?_ | refine brP_f (nd_f (by omega)) ?_ | ((rw [hw1])) | refine wpfS_seq1 ?_ | refine wpfS_go ?_ | fail) <;> conv => whnf)
      (first | refine callK_p R12_First_ok ?_ | refine callM_p R12_First_ok rfl ?_ | refine callK_pf rfl R12_First_ok ?_ | refine callK_pk rfl R12_First_ok ?_)
      conv => whnf
      repeat' ((first | refine brP_t (by assumption) ?_ | refine brP_f (by assumption) ?_ | refine brP_t (decide_eq_true (by omega)) ?_ | refine brP_f (decide_eq_false (by omega)) ?_ | refine brP_t (nd_t (by omega)) ?_ | refine brP_f (nd_f (by omega)) ?_ | ((rw [hw1])) | refine wpfS_seq1 ?_ | refine wpfS_go ?_ | fail) <;> conv => whnf)
      (first | refine callK_p cL ?_ | refine callM_p cL rfl ?_ | refine callK_pf rfl cL ?_ | refine callK_pk rfl cL ?_)
      conv => whnf
      repeat' ((first | refine brP_t (by assumption) ?_ | refine brP_f (by assumption) ?_ | refine brP_t (decide_eq_true (by omega)) ?_ | refine brP_f (decide_eq_false (by omega)) ?_ | refine brP_t (nd_t (by omega)) ?_ | refine brP_f (nd_f (by omega)) ?_ | ((rw [hw1])) | refine wpfS_seq1 ?_ | refine wpfS_go ?_ | fail) <;> conv => whnf)
      (first | refine callK_p c3 ?_ | refine callM_p c3 rfl ?_ | refine callK_pf rfl c3 ?_ | refine callK_pk rfl c3 ?_)
      conv => whnf
      repeat' ((first | refine brP_t (by assumption) ?_ | refine brP_f (by assumption) ?_ | refine brP_t (decide_eq_true (by omega)) ?_ | refine brP_f (decide_eq_false (by omega)) ?_ | refine brP_t (nd_t (by omega)) ?_ | refine brP_f (nd_f (by omega)) ?_ | ((rw [hw1])) | refine wpfS_seq1 ?_ | refine wpfS_go ?_ | fail) <;> conv => whnf)
      (first | refine callK_p c4 ?_ | refine callM_p c4 rfl ?_ | refine callK_pf rfl c4 ?_ | refine callK_pk rfl c4 ?_)
      conv => whnf
      repeat' ((first | refine brP_t (by assumption) ?_ | refine brP_f (by assumption) ?_ | refine brP_t (decide_eq_true (by omega)) ?_ | refine brP_f (decide_eq_false (by omega)) ?_ | refine brP_t (nd_t (by omega)) ?_ | refine brP_f (nd_f (by omega)) ?_ | ((rw [hw1])) | refine wpfS_seq1 ?_ | refine wpfS_go ?_ | fail) <;> conv => whnf)
      (first | refine callK_p cU ?_ | refine callM_p cU rfl ?_ | refine callK_pf rfl cU ?_ | refine callK_pk rfl cU ?_)
      conv => whnf
      repeat' ((first | refine brP_t (by assumption) ?_ | refine brP_f (by assumption) ?_ | refine brP_t (decide_eq_true (by omega)) ?_ | refine brP_f (decide_eq_false (by omega)) ?_ | refine brP_t (nd_t (by omega)) ?_ | refine brP_f (nd_f (by omega)) ?_ | ((rw [hw1])) | refine wpfS_seq1 ?_ | refine wpfS_go ?_ | fail) <;> conv => whnf)
      (first | refine callK_p cS ?_ | refine callM_p cS rfl ?_ | refine callK_pf rfl cS ?_ | refine callK_pk rfl cS ?_)
      conv => whnf
      repeat' ((first | refine brP_t (by assumption) ?_ | refine brP_f (by assumption) ?_ | refine brP_t (decide_eq_true (by omega)) ?_ | refine brP_f (decide_eq_false (by omega)) ?_ | refine brP_t (nd_t (by omega)) ?_ | refine brP_f (nd_f (by omega)) ?_ | ((rw [hw1])) | refine wpfS_seq1 ?_ | refine wpfS_go ?_ | fail) <;> conv => whnf)
      (first | refine callK_p L33_alive_ok ?_ | refine callM_p L33_alive_ok rfl ?_ | refine callK_pf rfl L33_alive_ok ?_ | refine callK_pk rfl L33_alive_ok ?_)
      conv => whnf
      repeat' ((first | refine brP_t (by assumption) ?_ | refine brP_f (by assumption) ?_ | refine brP_t (decide_eq_true (by omega)) ?_ | refine brP_f (decide_eq_false (by omega)) ?_ | refine brP_t (nd_t (by omega)) ?_ | refine brP_f (nd_f (by omega)) ?_ | ((rw [hw1])) | refine wpfS_seq1 ?_ | refine wpfS_go ?_ | fail) <;> conv => whnf)
      rfl
    · rw [putR_ok (b := b1) (by rw [hlb, hln]; exact hp)] at c3
      rw [putR_ok hp] at c4
      have hpl : ∀ (b : Bx) (m : Msg), (b.put m).len = b.len + 1 := fun b m => by
        show (b.q ++ [_]).length + b.a.length + b.h.length = b.q.length + b.a.length + b.h.length + 1
        rw [List.length_append]; simp only [List.length_cons, List.length_nil]; omega
      have cU := cU (b1.put (newM (o.stamp + 1) more)) (fun _ => by rw [hpl, hlb]; omega)
      have hbk : (b1.put (newM (o.stamp + 1) more)).restore.each (minE o.stamp) = o.bx.put (newM o.stamp more) := bx_back_put (c := b1) hln pl hg ea eh hall more
      rw [hbk] at cU
      have cS := cS (o.bx.put (newM o.stamp more)) (by rw [hpl]; omega)
      generalize b1.put (newM (o.stamp + 1) more) = b2 at *
      generalize o.bx.put (newM o.stamp more) = b3 at *
      obtain ⟨b2n, b2q, b2a, b2h⟩ := b2
      obtain ⟨b3n, b3q, b3a, b3h⟩ := b3
      repeat' ((first | refine brP_t (by assumption) ?_ | refine brP_f (by assumption) ?_ | refine brP_t (decide_eq_true (by omega)) ?_ | refine brP_f (decide_eq_false (by omega)) ?_ | refine brP_t (nd_t (by omega)) ?_ | refine brP_f (nd_f (by omega)) ?_ | ((rw [hw1])) | refine wpfS_seq1 ?_ | refine wpfS_go ?_ | fail) <;> conv => whnf)
      (first | refine callK_p c0 ?_ | refine callM_p c0 rfl ?_ | refine callK_pf rfl c0 ?_ | refine callK_pk rfl c0 ?_)
      conv => whnf
      repeat' ((first | refine brP_t (by assumption) ?_ | refine brP_f (by assumption) ?_ | refine brP_t (decide_eq_true (by omega)) ?_ | refine brP_f (decide_eq_false (by omega)) ?_ | refine brP_t (nd_t (by omega)) ?_ | refine brP_f (nd_f (by omega)) ?_ | ((rw [hw1])) | refine wpfS_seq1 ?_ | refine wpfS_go ?_ | fail) <;> conv => whnf)
      (first | refine callK_p c1 ?_ | refine callM_p c1 rfl ?_ | refine callK_pf rfl c1 ?_ | refine callK_pk rfl c1 ?_)
      conv => whnf
      repeat' ((first | refine brP_t (by assumption) ?_ | refine brP_f (by assumption) ?_ | refine brP_t (decide_eq_true (by omega)) ?_ | refine brP_f (decide_eq_false (by omega)) ?_ | refine brP_t (nd_t (by omega)) ?_ | refine brP_f (nd_f (by omega)) ?_ | ((rw [hw1])) | refine wpfS_seq1 ?_ | refine wpfS_go ?_ | fail) <;> conv => whnf)
      (first | refine callK_p R12_First_ok ?_ | refine callM_p R12_First_ok rfl ?_ | refine callK_pf rfl R12_First_ok ?_ | refine callK_pk rfl R12_First_ok ?_)
      conv => whnf
      repeat' ((first | refine brP_t (by assumption) ?_ | refine brP_f (by assumption) ?_ | refine brP_t (decide_eq_true (by omega)) ?_ | refine brP_f (decide_eq_false (by omega)) ?_ | refine brP_t (nd_t (by omega)) ?_ | refine brP_f (nd_f (by omega)) ?_ | ((rw [hw1])) | refine wpfS_seq1 ?_ | refine wpfS_go ?_ | fail) <;> conv => whnf)
      (first | refine callK_p cL ?_ | refine callM_p cL rfl ?_ | refine callK_pf rfl cL ?_ | refine callK_pk rfl cL ?_)
      conv => whnf
      repeat' ((first | refine brP_t (by assumption) ?_ | refine brP_f (by assumption) ?_ | refine brP_t (decide_eq_true (by omega)) ?_ | refine brP_f (decide_eq_false (by omega)) ?_ | refine brP_t (nd_t (by omega)) ?_ | refine brP_f (nd_f (by omega)) ?_ | ((rw [hw1])) | refine wpfS_seq1 ?_ | refine wpfS_go ?_ | fail) <;> conv => whnf)
      (first | refine callK_p c3 ?_ | refine callM_p c3 rfl ?_ | refine callK_pf rfl c3 ?_ | refine callK_pk rfl c3 ?_)
      conv => whnf
      repeat' ((first | refine brP_t (by assumption) ?_ | refine brP_f (by assumption) ?_ | refine brP_t (decide_eq_true (by omega)) ?_ | refine brP_f (decide_eq_false (by omega)) ?_ | refine brP_t (nd_t (by omega)) ?_ | refine brP_f (nd_f (by omega)) ?_ | ((rw [hw1])) | refine wpfS_seq1 ?_ | refine wpfS_go ?_ | fail) <;> conv => whnf)
      (first | refine callK_p c4 ?_ | refine callM_p c4 rfl ?_ | refine callK_pf rfl c4 ?_ | refine callK_pk rfl c4 ?_)
      conv => whnf
      repeat' ((first | refine brP_t (by assumption) ?_ | refine brP_f (by assumption) ?_ | refine brP_t (decide_eq_true (by omega)) ?_ | refine brP_f (decide_eq_false (by omega)) ?_ | refine brP_t (nd_t (by omega)) ?_ | refine brP_f (nd_f (by omega)) ?_ | ((rw [hw1])) | refine wpfS_seq1 ?_ | refine wpfS_go ?_ | fail) <;> conv => whnf)
      (first | refine callK_p cU ?_ | refine callM_p cU rfl ?_ | refine callK_pf rfl cU ?_ | refine callK_pk rfl cU ?_)
      conv => whnf
      repeat' ((first | refine brP_t (by assumption) ?_ | refine brP_f (by assumption) ?_ | refine brP_t (decide_eq_true (by omega)) ?_ | refine brP_f (decide_eq_false (by omega)) ?_ | refine brP_t (nd_t (by omega)) ?_ | refine brP_f (nd_f (by omega)) ?_ | ((rw [hw1])) | refine wpfS_seq1 ?_ | refine wpfS_go ?_ | fail) <;> conv => whnf)
      (first | refine callK_p cS ?_ | refine callM_p cS rfl ?_ | refine callK_pf rfl cS ?_ | refine callK_pk rfl cS ?_)
      conv => whnf
      repeat' ((first | refine brP_t (by assumption) ?_ | refine brP_f (by assumption) ?_ | refine brP_t (decide_eq_true (by omega)) ?_ | refine brP_f (decide_eq_false (by omega)) ?_ | refine brP_t (nd_t (by omega)) ?_ | refine brP_f (nd_f (by omega)) ?_ | ((rw [hw1])) | refine wpfS_seq1 ?_ | refine wpfS_go ?_ | fail) <;> conv => whnf)
      (first | refine callK_p L33_alive_ok ?_ | refine callM_p L33_alive_ok rfl ?_ | refine callK_pf rfl L33_alive_ok ?_ | refine callK_pk rfl L33_alive_ok ?_)
      conv => whnf
      repeat' ((first | refine brP_t (by assumption) ?_ | refine brP_f (by assumption) ?_ | refine brP_t (decide_eq_true (by omega)) ?_ | refine brP_f (decide_eq_false (by omega)) ?_ | refine brP_t (nd_t (by omega)) ?_ | refine brP_f (nd_f (by omega)) ?_ | ((rw [hw1])) | refine wpfS_seq1 ?_ | refine wpfS_go ?_ | fail) <;> conv => whnf)
      rfl
theorem law_undoBack (pvss : List (List PV)) (hw : wts [shMoves, shOb, .bool, .str] pvss) : EvP PR G f_L33_UndoBack (argAVs [shMoves, shOb, .bool, .str] pvss) (.c (.p (.bool true))) := by
  obtain ⟨a, _, rfl, ha, hw⟩ := wts_cons hw
  obtain ⟨b, _, rfl, hb, hw⟩ := wts_cons hw
  obtain ⟨c, _, rfl, hc, hw⟩ := wts_cons hw
  obtain ⟨d, _, rfl, hd, hw⟩ := wts_cons hw
  cases wts_nil hw
  obtain ⟨t, rfl, -, hl, ht⟩ := ha
  obtain ⟨t, rfl⟩ := prows_of ht
  obtain ⟨o, rfl, ho, hol⟩ := ob_lim hb
  obtain ⟨lt, rfl⟩ := hc
  obtain ⟨s, rfl, hs⟩ := hd
  have : t.length < 2 ^ 63 := by
    have := len63 hl
    simpa [prows] using this
  exact undoBack_ok t this o ho hol lt s (by have : s.length ≤ 0x7ffffffff000 := hs; omega)
end Go.Ab.S
