/- What is undone may be. No condition. -/
import Derived.Test.YtmohadlgjokgmaaLUA
set_option linter.unusedSimpArgs false
set_option linter.unusedVariables false
namespace Go.Ab.S
open Go Go.Ab Go.Proofs
attribute [local irreducible] SemS
set_option maxRecDepth 100000
/-! ### The calls at the end of each statement of layer 33 -/
def vo : Ob := ⟨4, 0, 2, 0, 4, 0, 0, false, 0, 0, 0, [], false, ⟨1, [⟨0, 0, 4, 0, 0, 0, []⟩], [], []⟩⟩
def vp : Ob := ⟨0, 0, 1, 0, 1, 0, 1, true, 0, 0, 0, [], false, Bx.emp⟩
def vp2 : Ob := { vp with ws := 4 }
def vq : Ob := ⟨0, 0, 1, 0, 1, 0, 0, false, 0, 0, 0, [], false, Bx.emp⟩
def vr : Ob := ⟨0, 0, 1, 0, 4, 0, 0, false, 0, 0, 0, [], false, Bx.emp⟩
set_option maxHeartbeats 4000000 in
theorem L33_alive_ok : EvP PR G f_L33_alive [] (bv true) := by
  have hM : mapOk (madeN [(2, 5)]) := fun i hi => by have := made_lt [(2, 5)] i hi; omega
  have c0 := R04_Made_ok [(2, 5)] (by decide)
  have c1 := R31_One_ok (madeN [(2, 5)]) hM 1 vo (by decide) (by decide) (fun _ => Bx.fine_iff.1 rfl)
  have c2 := undo_One_ok (madeN [(2, 5)]) hM 0 (vo.stampO (madeN [(2, 5)]) 1) (by decide) (by decide) (fun _ => by decide)
  rw [show (vo.stampO (madeN [(2, 5)]) 1).undo (madeN [(2, 5)]) 0 = vo by decide +kernel] at c2
  have c3 := undo_One_ok (madeN [(2, 5)]) hM 0 vp (by decide) (by decide) (fun _ => by decide)
  rw [show vp.undo (madeN [(2, 5)]) 0 = vq by decide +kernel] at c3
  have c4 := undo_One_ok (madeN [(2, 5)]) hM 0 vp2 (by decide) (by decide) (fun _ => by decide)
  rw [show vp2.undo (madeN [(2, 5)]) 0 = vr by decide +kernel] at c4
  have c5 := undo_Lane_ok (madeN [(2, 5)]) hM 0 [vp2, vo] (by decide) (by decide)
  rw [show [vp2, vo].map (Ob.undo (madeN [(2, 5)]) 0) = [vr, vo] by decide +kernel] at c5
  have c6 := R25_Same_ok vo vo ⟨by decide, by decide⟩
  rw [decide_eq_true rfl] at c6
  have c7 := R25_Same_ok vr vr ⟨by decide, by decide⟩
  rw [decide_eq_true rfl] at c7
  generalize vo.stampO (madeN [(2, 5)]) 1 = vs at *
  generalize madeN [(2, 5)] = M at *
  refine EvP.of_wpf false hm c_L33_alive rfl ?_
  refine wpf_seq1 ?_
  conv => whnf
  repeat' ((first | refine brP_t (by assumption) ?_ | refine brP_f (by assumption) ?_ | refine brP_t (decide_eq_true (by omega)) ?_ | refine brP_f (decide_eq_false (by omega)) ?_ | refine brP_t (nd_t (by omega)) ?_ | refine brP_f (nd_f (by omega)) ?_ | refine callK_p c0 ?_ | refine callM_p c0 rfl ?_ | refine callK_pf rfl c0 ?_ | refine callK_p c1 ?_ | refine callM_p c1 rfl ?_ | refine callK_pf rfl c1 ?_ | refine callK_p c2 ?_ | refine callM_p c2 rfl ?_ | refine callK_pf rfl c2 ?_ | refine callK_p c3 ?_ | refine callM_p c3 rfl ?_ | refine callK_pf rfl c3 ?_ | refine callK_p c4 ?_ | refine callM_p c4 rfl ?_ | refine callK_pf rfl c4 ?_ | refine callK_p c5 ?_ | refine callM_p c5 rfl ?_ | refine callK_pf rfl c5 ?_ | refine callK_p c6 ?_ | refine callM_p c6 rfl ?_ | refine callK_pf rfl c6 ?_ | refine callK_p c7 ?_ | refine callM_p c7 rfl ?_ | refine callK_pf rfl c7 ?_ | refine callK_pk rfl c6 ?_ | refine callK_pk rfl c7 ?_ | refine wpfS_seq1 ?_ | refine wpfS_go ?_ | fail) <;> conv => whnf)
  rfl
/-! ### What is undone may be -/
theorem fine_good {o : Ob} (h : o.fine = true) (hk : o.k = 2) : o.bx.Good := by
  unfold Ob.fine Ob.kindB at h
  simp only [Bool.and_eq_true] at h
  have h2 := h.2.2.2.2
  rw [if_neg (by omega), if_pos hk] at h2
  simp only [Bool.and_eq_true] at h2
  exact Bx.fine_iff.1 h2.2.2.2
theorem fine_emp {o : Ob} (h : o.fine = true) (hk : ¬ o.k = 2) : o.bx = Bx.emp := by
  unfold Ob.fine Ob.kindB at h
  simp only [Bool.and_eq_true] at h
  have h2 := h.2.2.2.2
  by_cases h1 : o.k = 1
  · rw [if_pos h1] at h2
    simp only [Bool.and_eq_true, decide_eq_true_eq] at h2
    exact h2.2.2.2.2
  · rw [if_neg h1, if_neg hk] at h2
    simp only [Bool.and_eq_true, decide_eq_true_eq] at h2
    exact h2.2.2.2
theorem fine_len {o : Ob} (h : o.fine = true) : o.bx.len ≤ 8 := by
  by_cases hk : o.k = 2
  · exact (fine_good h hk).len
  · rw [fine_emp h hk]; decide
theorem bx_lim {cs : List PV} (h : wt shBx cs) : ∀ b : Bx, cs = b.row → b.len < 2 ^ 61 := by
  obtain ⟨a, _, rfl, -, ⟨next, rfl, hn⟩, b, _, rfl, -, ⟨q, rfl, hql, -, hq⟩, c, _, rfl, -, ⟨x, rfl, hxl, -, hx⟩, d, _, rfl, -, ⟨y, rfl, hyl, -, hy⟩, rfl⟩ := h
  intro b hb
  obtain ⟨n, q', x', y'⟩ := b
  have hb : [PV.int .i64 next, .sl q, .sl x, .sl y] = [.int .i64 n, .sl (msgs q'), .sl (msgs x'), .sl (msgs y')] := hb
  simp only [List.cons.injEq, PV.sl.injEq, and_true] at hb
  obtain ⟨-, rfl, rfl, rfl⟩ := hb
  rw [msgs_len] at hql hxl hyl
  have h1 : q'.length * 56 ≤ 0x7ffffffff000 := hql
  have h2 : x'.length * 56 ≤ 0x7ffffffff000 := hxl
  have h3 : y'.length * 56 ≤ 0x7ffffffff000 := hyl
  show q'.length + x'.length + y'.length < _
  omega
theorem ob_lim {cs : List PV} (h : wt shOb cs) : ∃ o : Ob, cs = o.row ∧ o.Ok ∧ o.Lim := by
  obtain ⟨a, _, rfl, -, hid, b, _, rfl, -, hl, c, _, rfl, -, ⟨st, rfl, hst⟩, d, _, rfl, -, ⟨sw, rfl⟩, e, _, rfl, -, hw, f, _, rfl, -, ⟨role, rfl, hrole⟩, g, _, rfl, -, ⟨buf, rfl, hbuf⟩, h', _, rfl, -, ⟨dead, rfl⟩, j, _, rfl, -, hbx, rfl⟩ := h
  obtain ⟨ids, idi, k, n, rfl, h1, h2, h3, h4⟩ := id_of hid
  obtain ⟨ls, li, rfl, h5, h6⟩ := lab_of hl
  obtain ⟨ws, wi, rfl, h7, h8⟩ := lab_of hw
  have hbl := bx_lim hbx
  obtain ⟨bx, rfl, hb⟩ := bx_of hbx
  exact ⟨⟨ids, idi, k, n, ls, li, st, sw, ws, wi, role, buf, dead, bx⟩, rfl, ⟨h1, h2, h3, h4, h5, h6, i64_of hst, h7, h8, i64_of hrole, hb⟩, ⟨hbl bx rfl, by have : buf.length ≤ 0x7ffffffff000 := hbuf; show buf.length < _; omega⟩⟩
end Go.Ab.S
