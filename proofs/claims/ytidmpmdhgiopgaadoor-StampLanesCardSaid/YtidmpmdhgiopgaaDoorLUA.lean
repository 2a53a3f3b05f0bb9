/- Objects, undone: the program's way. No condition. Lanes undone; objects stamped by the document. No condition. -/
import Derived.Test.YtidmpmdhgiopgaaDoorLO3
set_option linter.unusedSimpArgs false
set_option linter.unusedVariables false
namespace Go.Ab.S
open Go Go.Ab Go.Proofs
attribute [local irreducible] SemS
set_option maxRecDepth 100000
abbrev mapOk (M : Nat → Nat) : Prop := ∀ i, i < 16 → M i ≤ 255
def minE (e : Int) (m : Msg) : Msg := { m with ep := if e < m.ep then e else m.ep }
def Ob.backB (M : Nat → Nat) (o : Ob) : Bool := o.swept && (!decide (o.k = 1) || touchesB M o.ws o.wi)
def Ob.undo (M : Nat → Nat) (e : Int) (o : Ob) : Ob := { o with
  ls := if o.backB M then o.ws else o.ls
  li := if o.backB M then o.wi else o.li
  stamp := e
  swept := false
  ws := 0
  wi := 0
  bx := if o.k = 2 then o.bx.restore.each (minE e) else o.bx }
end Go.Ab.S

namespace Go.Ab.S
open Go Go.Ab Go.Proofs
attribute [local irreducible] SemS
set_option maxRecDepth 100000
def obs (l : List Ob) : List (List PV) := l.map Ob.row
theorem obs_len {l : List Ob} : (obs l).length = l.length := by simp [obs]
theorem obs_get {l : List Ob} {i : Nat} (h : i < l.length) : (obs l)[i]? = some l[i].row := by rw [obs, List.getElem?_map, List.getElem?_eq_getElem h]; rfl
theorem obs_app (a b : List Ob) : obs (a ++ b) = obs a ++ obs b := by simp [obs]
theorem obs_all (l : List Ob) : ((obs l).all fun r => r.length == 17) = true := by simp [obs, Ob.row]
def Ob.stampO (M : Nat → Nat) (e : Int) (o : Ob) : Ob := if o.swept then o else { o with
  ws := o.ls
  wi := o.li
  ls := setN M o.ls
  li := setN M o.li
  swept := true
  stamp := e
  bx := if o.k = 2 then o.bx.aside else o.bx }
set_option maxHeartbeats 4000000 in
theorem R31_One_ok (M : Nat → Nat) (hM : mapOk M) (e : Int) (o : Ob) (hs : o.ls < 65536) (hi : o.li < 65536) (hg : o.k = 2 → o.bx.Good) : EvP PR G f_R31_One [mv M, iv e, .agg o.row] (.agg (o.stampO M e).row) := by
  have c1 := R04_Label_ok M hM o.ls o.li hs hi
  have c2 : o.k = 2 → _ := fun h => R23_SetAside_ok o.bx (hg h)
  have hu : o.stampO M e = if o.swept then o else { o with ws := o.ls, wi := o.li, ls := setN M o.ls, li := setN M o.li, swept := true, stamp := e, bx := if o.k = 2 then o.bx.aside else o.bx } := rfl
  rw [hu]
  obtain ⟨ids, idi, k, n, ls, li, st, sw, ws, wi, role, buf, dead, bx⟩ := o
  dsimp only at *
  generalize setN M ls = l1 at *
  generalize setN M li = l2 at *
  cases sw with
  | true =>
    obtain ⟨bn, bq, ba, bh⟩ := bx
    show EvP PR G f_R31_One [mv M, _, .agg [.int .u16 ids, .int .u16 idi, .int .i64 k, .int .i64 n, .int .u16 ls, .int .u16 li, .int .i64 st, .bool true, .int .u16 ws, .int .u16 wi, .int .i64 role, .str buf, .bool dead, .int .i64 bn, .sl (msgs bq), .sl (msgs ba), .sl (msgs bh)]] _
    refine EvP.of_wpf false hm c_R31_One rfl ?_
    refine wpf_seq1 ?_
    conv => whnf
    repeat' ((first | refine brP_t (by assumption) ?_ | refine brP_f (by assumption) ?_ | refine brP_t (decide_eq_true (by omega)) ?_ | refine brP_f (decide_eq_false (by omega)) ?_ | refine brP_t (nd_t (by omega)) ?_ | refine brP_f (nd_f (by omega)) ?_ | refine wpfS_seq1 ?_ | refine wpfS_go ?_ | fail) <;> conv => whnf)
    rfl
  | false =>
    rw [if_neg (by decide)]
    by_cases hk : k = 2
    · have c2 := c2 hk
      rw [if_pos hk]
      generalize bx.aside = b2 at *
      obtain ⟨bn, bq, ba, bh⟩ := bx
      show EvP PR G f_R31_One [mv M, _, .agg [.int .u16 ids, .int .u16 idi, .int .i64 k, .int .i64 n, .int .u16 ls, .int .u16 li, .int .i64 st, .bool false, .int .u16 ws, .int .u16 wi, .int .i64 role, .str buf, .bool dead, .int .i64 bn, .sl (msgs bq), .sl (msgs ba), .sl (msgs bh)]] _
      refine EvP.of_wpf false hm c_R31_One rfl ?_
      refine wpf_seq1 ?_
      conv => whnf
      repeat' ((first | refine brP_t (by assumption) ?_ | refine brP_f (by assumption) ?_ | refine brP_t (decide_eq_true (by omega)) ?_ | refine brP_f (decide_eq_false (by omega)) ?_ | refine brP_t (nd_t (by omega)) ?_ | refine brP_f (nd_f (by omega)) ?_ | refine callK_p c1 ?_ | refine callM_p c1 rfl ?_ | refine callK_pf rfl c1 ?_ | refine callK_p c2 ?_ | refine callM_p c2 rfl ?_ | refine callK_pf rfl c2 ?_ | refine wpfS_seq1 ?_ | refine wpfS_go ?_ | fail) <;> conv => whnf)
      rfl
    · rw [if_neg hk]
      obtain ⟨bn, bq, ba, bh⟩ := bx
      show EvP PR G f_R31_One [mv M, _, .agg [.int .u16 ids, .int .u16 idi, .int .i64 k, .int .i64 n, .int .u16 ls, .int .u16 li, .int .i64 st, .bool false, .int .u16 ws, .int .u16 wi, .int .i64 role, .str buf, .bool dead, .int .i64 bn, .sl (msgs bq), .sl (msgs ba), .sl (msgs bh)]] _
      refine EvP.of_wpf false hm c_R31_One rfl ?_
      refine wpf_seq1 ?_
      conv => whnf
      repeat' ((first | refine brP_t (by assumption) ?_ | refine brP_f (by assumption) ?_ | refine brP_t (decide_eq_true (by omega)) ?_ | refine brP_f (decide_eq_false (by omega)) ?_ | refine brP_t (nd_t (by omega)) ?_ | refine brP_f (nd_f (by omega)) ?_ | refine callK_p c1 ?_ | refine callM_p c1 rfl ?_ | refine callK_pf rfl c1 ?_ | refine wpfS_seq1 ?_ | refine wpfS_go ?_ | fail) <;> conv => whnf)
      rfl
end Go.Ab.S
