/- Objects: which are the same. No condition. Objects: the program's word on which may be. No condition. -/
import Derived.Test.YtidmpmdhgiopgaaDoorLO1
set_option linter.unusedSimpArgs false
set_option linter.unusedVariables false
namespace Go.Ab.S
open Go Go.Ab Go.Proofs
attribute [local irreducible] SemS
set_option maxRecDepth 100000
end Go.Ab.S

namespace Go.Ab.S
open Go Go.Ab Go.Proofs
attribute [local irreducible] SemS
set_option maxRecDepth 100000
theorem form_proc_ok (o : Ob) : EvP PR G f_object_form_proc [.agg o.row] (bv (decide (o.k = 1))) := by
  refine EvP.of_wpf false hm c_object_form_proc rfl ?_
  conv => whnf
  rfl
theorem form_mail_ok (o : Ob) : EvP PR G f_object_form_mail [.agg o.row] (bv (decide (o.k = 2))) := by
  refine EvP.of_wpf false hm c_object_form_mail rfl ?_
  conv => whnf
  rfl
def Ob.room (o : Ob) : Int := if o.k = 2 ∨ o.dead = true then 0 else if o.k = 1 then 32 else 64
def Ob.ownB (o : Ob) : Bool := if o.k = 1 then decide (o.bx = Bx.emp) else if o.role = 0 ∧ o.dead = false then decide (o.k = 2) || decide (o.bx = Bx.emp) else false
theorem form_room_ok (o : Ob) : EvP PR G f_object_form_room [.agg o.row] (iv o.room) := by
  have c1 := form_mail_ok o
  have c2 := form_proc_ok o
  have hr : o.room = if o.k = 2 ∨ o.dead = true then 0 else if o.k = 1 then 32 else 64 := rfl
  rw [hr]
  by_cases h2 : o.k = 2
  · rw [if_pos (.inl h2)]
    rw [decide_eq_true h2] at c1
    refine EvP.of_wpf false hm c_object_form_room rfl ?_
    refine wpf_seq1 ?_
    conv => whnf
    repeat' ((first | refine brP_t (by assumption) ?_ | refine brP_f (by assumption) ?_ | refine brP_t (decide_eq_true (by omega)) ?_ | refine brP_f (decide_eq_false (by omega)) ?_ | refine brP_t (nd_t (by omega)) ?_ | refine brP_f (nd_f (by omega)) ?_ | refine callK_p c1 ?_ | refine callM_p c1 rfl ?_ | refine callK_pf rfl c1 ?_ | refine callK_p c2 ?_ | refine callM_p c2 rfl ?_ | refine callK_pf rfl c2 ?_ | refine wpfS_seq1 ?_ | refine wpfS_go ?_ | fail) <;> conv => whnf)
    rfl
  · rw [decide_eq_false h2] at c1
    cases hd : o.dead with
    | true =>
      rw [if_pos (.inr rfl)]
      refine EvP.of_wpf false hm c_object_form_room rfl ?_
      refine wpf_seq1 ?_
      conv => whnf
      repeat' ((first | refine brP_t (by assumption) ?_ | refine brP_f (by assumption) ?_ | refine brP_t (decide_eq_true (by omega)) ?_ | refine brP_f (decide_eq_false (by omega)) ?_ | refine brP_t (nd_t (by omega)) ?_ | refine brP_f (nd_f (by omega)) ?_ | refine callK_p c1 ?_ | refine callM_p c1 rfl ?_ | refine callK_pf rfl c1 ?_ | refine callK_p c2 ?_ | refine callM_p c2 rfl ?_ | refine callK_pf rfl c2 ?_ | ((rw [hd])) | refine wpfS_seq1 ?_ | refine wpfS_go ?_ | fail) <;> conv => whnf)
      rfl
    | false =>
      rw [if_neg (by simp [h2])]
      by_cases h1 : o.k = 1
      · rw [if_pos h1]
        rw [decide_eq_true h1] at c2
        refine EvP.of_wpf false hm c_object_form_room rfl ?_
        refine wpf_seq1 ?_
        conv => whnf
        repeat' ((first | refine brP_t (by assumption) ?_ | refine brP_f (by assumption) ?_ | refine brP_t (decide_eq_true (by omega)) ?_ | refine brP_f (decide_eq_false (by omega)) ?_ | refine brP_t (nd_t (by omega)) ?_ | refine brP_f (nd_f (by omega)) ?_ | refine callK_p c1 ?_ | refine callM_p c1 rfl ?_ | refine callK_pf rfl c1 ?_ | refine callK_p c2 ?_ | refine callM_p c2 rfl ?_ | refine callK_pf rfl c2 ?_ | ((rw [hd])) | refine wpfS_seq1 ?_ | refine wpfS_go ?_ | fail) <;> conv => whnf)
        rfl
      · rw [if_neg h1]
        rw [decide_eq_false h1] at c2
        refine EvP.of_wpf false hm c_object_form_room rfl ?_
        refine wpf_seq1 ?_
        conv => whnf
        repeat' ((first | refine brP_t (by assumption) ?_ | refine brP_f (by assumption) ?_ | refine brP_t (decide_eq_true (by omega)) ?_ | refine brP_f (decide_eq_false (by omega)) ?_ | refine brP_t (nd_t (by omega)) ?_ | refine brP_f (nd_f (by omega)) ?_ | refine callK_p c1 ?_ | refine callM_p c1 rfl ?_ | refine callK_pf rfl c1 ?_ | refine callK_p c2 ?_ | refine callM_p c2 rfl ?_ | refine callK_pf rfl c2 ?_ | ((rw [hd])) | refine wpfS_seq1 ?_ | refine wpfS_go ?_ | fail) <;> conv => whnf)
        rfl
theorem form_own_ok (o : Ob) (hl : o.Lim) : EvP PR G f_object_form_own [.agg o.row] (bv o.ownB) := by
  have hbl := hl.bx
  have hlen : o.bx.len = o.bx.q.length + o.bx.a.length + o.bx.h.length := rfl
  have c1 := form_mail_ok o
  have c2 := form_proc_ok o
  have c3 := box_Same_ok o.bx Bx.emp (by omega) (by omega) (by omega)
  have hr : o.ownB = if o.k = 1 then decide (o.bx = Bx.emp) else if o.role = 0 ∧ o.dead = false then decide (o.k = 2) || decide (o.bx = Bx.emp) else false := rfl
  rw [hr]
  generalize decide (o.bx = Bx.emp) = x at *
  by_cases h1 : o.k = 1
  · have h2 : ¬ o.k = 2 := by omega
    rw [if_pos h1]
    rw [decide_eq_true h1] at c2
    rw [decide_eq_false h2] at c1
    refine EvP.of_wpf false hm c_object_form_own rfl ?_
    refine wpf_seq1 ?_
    conv => whnf
    repeat' ((first | refine brP_t (by assumption) ?_ | refine brP_f (by assumption) ?_ | refine brP_t (decide_eq_true (by omega)) ?_ | refine brP_f (decide_eq_false (by omega)) ?_ | refine brP_t (nd_t (by omega)) ?_ | refine brP_f (nd_f (by omega)) ?_ | refine callK_p c1 ?_ | refine callM_p c1 rfl ?_ | refine callK_pf rfl c1 ?_ | refine callK_p c2 ?_ | refine callM_p c2 rfl ?_ | refine callK_pf rfl c2 ?_ | refine callK_p c3 ?_ | refine callM_p c3 rfl ?_ | refine callK_pf rfl c3 ?_ | refine wpfS_seq1 ?_ | refine wpfS_go ?_ | fail) <;> conv => whnf)
    rfl
  · rw [if_neg h1]
    rw [decide_eq_false h1] at c2
    by_cases h3 : o.role = 0
    · cases hd : o.dead with
      | true =>
        rw [if_neg (by simp)]
        refine EvP.of_wpf false hm c_object_form_own rfl ?_
        refine wpf_seq1 ?_
        conv => whnf
        repeat' ((first | refine brP_t (by assumption) ?_ | refine brP_f (by assumption) ?_ | refine brP_t (decide_eq_true (by omega)) ?_ | refine brP_f (decide_eq_false (by omega)) ?_ | refine brP_t (nd_t (by omega)) ?_ | refine brP_f (nd_f (by omega)) ?_ | refine callK_p c1 ?_ | refine callM_p c1 rfl ?_ | refine callK_pf rfl c1 ?_ | refine callK_p c2 ?_ | refine callM_p c2 rfl ?_ | refine callK_pf rfl c2 ?_ | refine callK_p c3 ?_ | refine callM_p c3 rfl ?_ | refine callK_pf rfl c3 ?_ | ((rw [hd])) | refine wpfS_seq1 ?_ | refine wpfS_go ?_ | fail) <;> conv => whnf)
        rfl
      | false =>
        rw [if_pos ⟨h3, rfl⟩]
        cases hk : decide (o.k = 2) with
        | true =>
          rw [hk] at c1
          refine EvP.of_wpf false hm c_object_form_own rfl ?_
          refine wpf_seq1 ?_
          conv => whnf
          repeat' ((first | refine brP_t (by assumption) ?_ | refine brP_f (by assumption) ?_ | refine brP_t (decide_eq_true (by omega)) ?_ | refine brP_f (decide_eq_false (by omega)) ?_ | refine brP_t (nd_t (by omega)) ?_ | refine brP_f (nd_f (by omega)) ?_ | refine callK_p c1 ?_ | refine callM_p c1 rfl ?_ | refine callK_pf rfl c1 ?_ | refine callK_p c2 ?_ | refine callM_p c2 rfl ?_ | refine callK_pf rfl c2 ?_ | refine callK_p c3 ?_ | refine callM_p c3 rfl ?_ | refine callK_pf rfl c3 ?_ | ((rw [hd])) | refine wpfS_seq1 ?_ | refine wpfS_go ?_ | fail) <;> conv => whnf)
          rfl
        | false =>
          rw [hk] at c1
          refine EvP.of_wpf false hm c_object_form_own rfl ?_
          refine wpf_seq1 ?_
          conv => whnf
          repeat' ((first | refine brP_t (by assumption) ?_ | refine brP_f (by assumption) ?_ | refine brP_t (decide_eq_true (by omega)) ?_ | refine brP_f (decide_eq_false (by omega)) ?_ | refine brP_t (nd_t (by omega)) ?_ | refine brP_f (nd_f (by omega)) ?_ | refine callK_p c1 ?_ | refine callM_p c1 rfl ?_ | refine callK_pf rfl c1 ?_ | refine callK_p c2 ?_ | refine callM_p c2 rfl ?_ | refine callK_pf rfl c2 ?_ | refine callK_p c3 ?_ | refine callM_p c3 rfl ?_ | refine callK_pf rfl c3 ?_ | ((rw [hd])) | refine wpfS_seq1 ?_ | refine wpfS_go ?_ | fail) <;> conv => whnf)
          rfl
    · rw [if_neg (fun h => h3 h.1)]
      refine EvP.of_wpf false hm c_object_form_own rfl ?_
      refine wpf_seq1 ?_
      conv => whnf
      repeat' ((first | refine brP_t (by assumption) ?_ | refine brP_f (by assumption) ?_ | refine brP_t (decide_eq_true (by omega)) ?_ | refine brP_f (decide_eq_false (by omega)) ?_ | refine brP_t (nd_t (by omega)) ?_ | refine brP_f (nd_f (by omega)) ?_ | refine callK_p c1 ?_ | refine callM_p c1 rfl ?_ | refine callK_pf rfl c1 ?_ | refine callK_p c2 ?_ | refine callM_p c2 rfl ?_ | refine callK_pf rfl c2 ?_ | refine callK_p c3 ?_ | refine callM_p c3 rfl ?_ | refine callK_pf rfl c3 ?_ | refine wpfS_seq1 ?_ | refine wpfS_go ?_ | fail) <;> conv => whnf)
      rfl
/-- The program's word agrees with the document's. -/
theorem Ob.fine_eq (o : Ob) : (idB o.k o.n && (decide (0 ≤ o.stamp) && (decide (o.stamp ≤ 255) && (decide (0 ≤ o.role) && (decide (o.role < 16) && (o.wasB && (o.ownB && (decide ((o.buf.length : Int) ≤ o.room) && o.bx.fine)))))))) = o.fine := by
  have hemp : Bx.emp.fine = true := rfl
  have hk : idB o.k o.n = true → o.k = 1 ∨ o.k = 2 ∨ o.k = 3 := fun h => by have := idB_iff.1 h; omega
  unfold Ob.fine Ob.kindB Ob.ownB Ob.room
  cases hi : idB o.k o.n with
  | false => rfl
  | true =>
    rcases hk hi with h | h | h
    · simp only [h, if_true, Bool.true_and]
      rw [Bool.eq_iff_iff]
      simp only [Bool.and_eq_true, Bool.or_eq_true, decide_eq_true_eq, Bool.not_eq_true']
      constructor
      · rintro ⟨h1, h2, h3, h4, h5, h6, h7, h8⟩
        cases hd : o.dead with
        | true =>
          rw [hd] at h7
          simp at h7
          exact ⟨h1, h2, h5, h3, by omega, by rw [h7]; decide, .inr h7, h6⟩
        | false =>
          rw [hd] at h7
          simp at h7
          exact ⟨h1, h2, h5, h3, by omega, by omega, .inl rfl, h6⟩
      · rintro ⟨h1, h2, h5, h3, h4, h7, h8, h6⟩
        refine ⟨h1, h2, h3, by omega, h5, h6, ?_, by rw [h6]; rfl⟩
        cases hd : o.dead with
        | true =>
          rw [hd] at h8
          simp at h8
          simp [h8]
        | false => simp; omega
    · simp only [h, if_true, Bool.true_and, show (2 : Int) = 1 ↔ False by decide, if_false, true_or]
      rw [Bool.eq_iff_iff]
      simp only [Bool.and_eq_true, Bool.or_eq_true, decide_eq_true_eq, Bool.not_eq_true']
      constructor
      · rintro ⟨h1, h2, h3, h4, h5, h6, h7, h8⟩
        split at h6
        · rename_i hh
          have : o.buf.length = 0 := by omega
          exact ⟨h1, h2, h5, hh.1, List.length_eq_zero_iff.1 this, hh.2, h8⟩
        · cases h6
      · rintro ⟨h1, h2, h5, h3, h4, h6, h7⟩
        refine ⟨h1, h2, by omega, by omega, h5, ?_, by rw [h4]; decide, h7⟩
        rw [if_pos ⟨h3, h6⟩]; rfl
    · simp only [h, Bool.true_and, show (3 : Int) = 1 ↔ False by decide, show (3 : Int) = 2 ↔ False by decide, if_false, false_or]
      rw [Bool.eq_iff_iff]
      simp only [Bool.and_eq_true, Bool.or_eq_true, decide_eq_true_eq, Bool.not_eq_true']
      constructor
      · rintro ⟨h1, h2, h3, h4, h5, h6, h7, h8⟩
        split at h6
        · rename_i hh
          rw [hh.2] at h7
          simp at h6 h7
          exact ⟨h1, h2, h5, hh.1, by omega, hh.2, h6⟩
        · cases h6
      · rintro ⟨h1, h2, h5, h3, h4, h6, h7⟩
        refine ⟨h1, h2, by omega, by omega, h5, ?_, ?_, by rw [h7]; rfl⟩
        · rw [if_pos ⟨h3, h6⟩]; simp [h7]
        · rw [h6]; simp; omega
set_option maxHeartbeats 8000000 in
theorem object_Fine_ok (o : Ob) (hl : o.Lim) : EvP PR G f_object_Fine [.agg o.row] (bv o.fine) := by
  have c1 := ident_Fine_ok o.ids o.idi o.k o.n
  have c2 := form_own_ok o hl
  have c3 := form_room_ok o
  have c4 := box_Fine_ok o.bx hl.bx
  rw [← Ob.fine_eq]
  have hw : o.wasB = (o.swept || (decide ((o.ws : Int) = 0) && decide ((o.wi : Int) = 0))) := rfl
  rw [hw]
  obtain ⟨ids, idi, k, n, ls, li, st, sw, ws, wi, role, buf, dead, bx⟩ := o
  obtain ⟨bn, bq, ba, bh⟩ := bx
  dsimp only at *
  generalize Ob.ownB _ = x1 at *
  generalize Ob.room _ = x3 at *
  generalize (Bx.mk bn bq ba bh).fine = x2 at *
  generalize idB k n = x0 at *
  generalize e3 : (decide ((ws : Int) = 0) && (decide ((wi : Int) = 0) && true)) = q at *
  have e4 : (decide ((ws : Int) = 0) && decide ((wi : Int) = 0)) = q := by rw [← e3, Bool.and_true]
  rw [e4]
  refine EvP.of_wpf false hm c_object_Fine rfl ?_
  show wpf _ _ _ _ _ (argsT 0 [.agg [.int .u16 ids, .int .u16 idi, .int .i64 k, .int .i64 n, .int .u16 ls, .int .u16 li, .int .i64 st, .bool sw, .int .u16 ws, .int .u16 wi, .int .i64 role, .str buf, .bool dead, .int .i64 bn, .sl (msgs bq), .sl (msgs ba), .sl (msgs bh)]]) _ _
  refine wpf_seq1 ?_
  conv => whnf
  cases x0 with
  | false =>
    repeat' ((first | refine brP_t (by assumption) ?_ | refine brP_f (by assumption) ?_ | refine brP_t (decide_eq_true (by omega)) ?_ | refine brP_f (decide_eq_false (by omega)) ?_ | refine brP_t (nd_t (by omega)) ?_ | refine brP_f (nd_f (by omega)) ?_ | refine callK_p c1 ?_ | refine callM_p c1 rfl ?_ | refine callK_pf rfl c1 ?_ | refine callK_p c2 ?_ | refine callM_p c2 rfl ?_ | refine callK_pf rfl c2 ?_ | refine callK_p c3 ?_ | refine callM_p c3 rfl ?_ | refine callK_pf rfl c3 ?_ | refine callK_p c4 ?_ | refine callM_p c4 rfl ?_ | refine callK_pf rfl c4 ?_ | ((rw [e3])) | refine wpfS_seq1 ?_ | refine wpfS_go ?_ | fail) <;> conv => whnf)
    rfl
  | true =>
  by_cases h1 : 0 ≤ st
  case neg =>
    rw [decide_eq_false h1]
    repeat' ((first | refine brP_t (by assumption) ?_ | refine brP_f (by assumption) ?_ | refine brP_t (decide_eq_true (by omega)) ?_ | refine brP_f (decide_eq_false (by omega)) ?_ | refine brP_t (nd_t (by omega)) ?_ | refine brP_f (nd_f (by omega)) ?_ | refine callK_p c1 ?_ | refine callM_p c1 rfl ?_ | refine callK_pf rfl c1 ?_ | refine callK_p c2 ?_ | refine callM_p c2 rfl ?_ | refine callK_pf rfl c2 ?_ | refine callK_p c3 ?_ | refine callM_p c3 rfl ?_ | refine callK_pf rfl c3 ?_ | refine callK_p c4 ?_ | refine callM_p c4 rfl ?_ | refine callK_pf rfl c4 ?_ | ((rw [e3])) | refine wpfS_seq1 ?_ | refine wpfS_go ?_ | fail) <;> conv => whnf)
    rfl
  by_cases h2 : st ≤ 255
  case neg =>
    rw [decide_eq_true h1, decide_eq_false h2]
    repeat' ((first | refine brP_t (by assumption) ?_ | refine brP_f (by assumption) ?_ | refine brP_t (decide_eq_true (by omega)) ?_ | refine brP_f (decide_eq_false (by omega)) ?_ | refine brP_t (nd_t (by omega)) ?_ | refine brP_f (nd_f (by omega)) ?_ | refine callK_p c1 ?_ | refine callM_p c1 rfl ?_ | refine callK_pf rfl c1 ?_ | refine callK_p c2 ?_ | refine callM_p c2 rfl ?_ | refine callK_pf rfl c2 ?_ | refine callK_p c3 ?_ | refine callM_p c3 rfl ?_ | refine callK_pf rfl c3 ?_ | refine callK_p c4 ?_ | refine callM_p c4 rfl ?_ | refine callK_pf rfl c4 ?_ | ((rw [e3])) | refine wpfS_seq1 ?_ | refine wpfS_go ?_ | fail) <;> conv => whnf)
    rfl
  by_cases h3 : 0 ≤ role
  case neg =>
    rw [decide_eq_true h1, decide_eq_true h2, decide_eq_false h3]
    repeat' ((first | refine brP_t (by assumption) ?_ | refine brP_f (by assumption) ?_ | refine brP_t (decide_eq_true (by omega)) ?_ | refine brP_f (decide_eq_false (by omega)) ?_ | refine brP_t (nd_t (by omega)) ?_ | refine brP_f (nd_f (by omega)) ?_ | refine callK_p c1 ?_ | refine callM_p c1 rfl ?_ | refine callK_pf rfl c1 ?_ | refine callK_p c2 ?_ | refine callM_p c2 rfl ?_ | refine callK_pf rfl c2 ?_ | refine callK_p c3 ?_ | refine callM_p c3 rfl ?_ | refine callK_pf rfl c3 ?_ | refine callK_p c4 ?_ | refine callM_p c4 rfl ?_ | refine callK_pf rfl c4 ?_ | ((rw [e3])) | refine wpfS_seq1 ?_ | refine wpfS_go ?_ | fail) <;> conv => whnf)
    rfl
  by_cases h4 : role < 16
  case neg =>
    rw [decide_eq_true h1, decide_eq_true h2, decide_eq_true h3, decide_eq_false h4]
    repeat' ((first | refine brP_t (by assumption) ?_ | refine brP_f (by assumption) ?_ | refine brP_t (decide_eq_true (by omega)) ?_ | refine brP_f (decide_eq_false (by omega)) ?_ | refine brP_t (nd_t (by omega)) ?_ | refine brP_f (nd_f (by omega)) ?_ | refine callK_p c1 ?_ | refine callM_p c1 rfl ?_ | refine callK_pf rfl c1 ?_ | refine callK_p c2 ?_ | refine callM_p c2 rfl ?_ | refine callK_pf rfl c2 ?_ | refine callK_p c3 ?_ | refine callM_p c3 rfl ?_ | refine callK_pf rfl c3 ?_ | refine callK_p c4 ?_ | refine callM_p c4 rfl ?_ | refine callK_pf rfl c4 ?_ | ((rw [e3])) | refine wpfS_seq1 ?_ | refine wpfS_go ?_ | fail) <;> conv => whnf)
    rfl
  rw [decide_eq_true h1, decide_eq_true h2, decide_eq_true h3, decide_eq_true h4]
  cases sw with
  | true =>
    cases x1 with
    | false =>
      repeat' ((first | refine brP_t (by assumption) ?_ | refine brP_f (by assumption) ?_ | refine brP_t (decide_eq_true (by omega)) ?_ | refine brP_f (decide_eq_false (by omega)) ?_ | refine brP_t (nd_t (by omega)) ?_ | refine brP_f (nd_f (by omega)) ?_ | refine callK_p c1 ?_ | refine callM_p c1 rfl ?_ | refine callK_pf rfl c1 ?_ | refine callK_p c2 ?_ | refine callM_p c2 rfl ?_ | refine callK_pf rfl c2 ?_ | refine callK_p c3 ?_ | refine callM_p c3 rfl ?_ | refine callK_pf rfl c3 ?_ | refine callK_p c4 ?_ | refine callM_p c4 rfl ?_ | refine callK_pf rfl c4 ?_ | ((rw [e3])) | refine wpfS_seq1 ?_ | refine wpfS_go ?_ | fail) <;> conv => whnf)
      rfl
    | true =>
    by_cases h5 : (buf.length : Int) ≤ x3
    case neg =>
      rw [decide_eq_false h5]
      repeat' ((first | refine brP_t (by assumption) ?_ | refine brP_f (by assumption) ?_ | refine brP_t (decide_eq_true (by omega)) ?_ | refine brP_f (decide_eq_false (by omega)) ?_ | refine brP_t (nd_t (by omega)) ?_ | refine brP_f (nd_f (by omega)) ?_ | refine callK_p c1 ?_ | refine callM_p c1 rfl ?_ | refine callK_pf rfl c1 ?_ | refine callK_p c2 ?_ | refine callM_p c2 rfl ?_ | refine callK_pf rfl c2 ?_ | refine callK_p c3 ?_ | refine callM_p c3 rfl ?_ | refine callK_pf rfl c3 ?_ | refine callK_p c4 ?_ | refine callM_p c4 rfl ?_ | refine callK_pf rfl c4 ?_ | ((rw [e3])) | refine wpfS_seq1 ?_ | refine wpfS_go ?_ | fail) <;> conv => whnf)
      rfl
    rw [decide_eq_true h5]
    repeat' ((first | refine brP_t (by assumption) ?_ | refine brP_f (by assumption) ?_ | refine brP_t (decide_eq_true (by omega)) ?_ | refine brP_f (decide_eq_false (by omega)) ?_ | refine brP_t (nd_t (by omega)) ?_ | refine brP_f (nd_f (by omega)) ?_ | refine callK_p c1 ?_ | refine callM_p c1 rfl ?_ | refine callK_pf rfl c1 ?_ | refine callK_p c2 ?_ | refine callM_p c2 rfl ?_ | refine callK_pf rfl c2 ?_ | refine callK_p c3 ?_ | refine callM_p c3 rfl ?_ | refine callK_pf rfl c3 ?_ | refine callK_p c4 ?_ | refine callM_p c4 rfl ?_ | refine callK_pf rfl c4 ?_ | ((rw [e3])) | refine wpfS_seq1 ?_ | refine wpfS_go ?_ | fail) <;> conv => whnf)
    rfl
  | false =>
    cases q with
    | false =>
      repeat' ((first | refine brP_t (by assumption) ?_ | refine brP_f (by assumption) ?_ | refine brP_t (decide_eq_true (by omega)) ?_ | refine brP_f (decide_eq_false (by omega)) ?_ | refine brP_t (nd_t (by omega)) ?_ | refine brP_f (nd_f (by omega)) ?_ | refine callK_p c1 ?_ | refine callM_p c1 rfl ?_ | refine callK_pf rfl c1 ?_ | refine callK_p c2 ?_ | refine callM_p c2 rfl ?_ | refine callK_pf rfl c2 ?_ | refine callK_p c3 ?_ | refine callM_p c3 rfl ?_ | refine callK_pf rfl c3 ?_ | refine callK_p c4 ?_ | refine callM_p c4 rfl ?_ | refine callK_pf rfl c4 ?_ | ((rw [e3])) | refine wpfS_seq1 ?_ | refine wpfS_go ?_ | fail) <;> conv => whnf)
      rfl
    | true =>
      cases x1 with
      | false =>
        repeat' ((first | refine brP_t (by assumption) ?_ | refine brP_f (by assumption) ?_ | refine brP_t (decide_eq_true (by omega)) ?_ | refine brP_f (decide_eq_false (by omega)) ?_ | refine brP_t (nd_t (by omega)) ?_ | refine brP_f (nd_f (by omega)) ?_ | refine callK_p c1 ?_ | refine callM_p c1 rfl ?_ | refine callK_pf rfl c1 ?_ | refine callK_p c2 ?_ | refine callM_p c2 rfl ?_ | refine callK_pf rfl c2 ?_ | refine callK_p c3 ?_ | refine callM_p c3 rfl ?_ | refine callK_pf rfl c3 ?_ | refine callK_p c4 ?_ | refine callM_p c4 rfl ?_ | refine callK_pf rfl c4 ?_ | ((rw [e3])) | refine wpfS_seq1 ?_ | refine wpfS_go ?_ | fail) <;> conv => whnf)
        rfl
      | true =>
      by_cases h5 : (buf.length : Int) ≤ x3
      case neg =>
        rw [decide_eq_false h5]
        repeat' ((first | refine brP_t (by assumption) ?_ | refine brP_f (by assumption) ?_ | refine brP_t (decide_eq_true (by omega)) ?_ | refine brP_f (decide_eq_false (by omega)) ?_ | refine brP_t (nd_t (by omega)) ?_ | refine brP_f (nd_f (by omega)) ?_ | refine callK_p c1 ?_ | refine callM_p c1 rfl ?_ | refine callK_pf rfl c1 ?_ | refine callK_p c2 ?_ | refine callM_p c2 rfl ?_ | refine callK_pf rfl c2 ?_ | refine callK_p c3 ?_ | refine callM_p c3 rfl ?_ | refine callK_pf rfl c3 ?_ | refine callK_p c4 ?_ | refine callM_p c4 rfl ?_ | refine callK_pf rfl c4 ?_ | ((rw [e3])) | refine wpfS_seq1 ?_ | refine wpfS_go ?_ | fail) <;> conv => whnf)
        rfl
      rw [decide_eq_true h5]
      repeat' ((first | refine brP_t (by assumption) ?_ | refine brP_f (by assumption) ?_ | refine brP_t (decide_eq_true (by omega)) ?_ | refine brP_f (decide_eq_false (by omega)) ?_ | refine brP_t (nd_t (by omega)) ?_ | refine brP_f (nd_f (by omega)) ?_ | refine callK_p c1 ?_ | refine callM_p c1 rfl ?_ | refine callK_pf rfl c1 ?_ | refine callK_p c2 ?_ | refine callM_p c2 rfl ?_ | refine callK_pf rfl c2 ?_ | refine callK_p c3 ?_ | refine callM_p c3 rfl ?_ | refine callK_pf rfl c3 ?_ | refine callK_p c4 ?_ | refine callM_p c4 rfl ?_ | refine callK_pf rfl c4 ?_ | ((rw [e3])) | refine wpfS_seq1 ?_ | refine wpfS_go ?_ | fail) <;> conv => whnf)
      rfl
end Go.Ab.S
