/- ObjectTells. No condition. -/
import Derived.Test.YtmohadlgjokgmaaBxO6
set_option linter.unusedSimpArgs false
set_option linter.unusedVariables false
namespace Go.Ab.S
open Go Go.Ab Go.Proofs
attribute [local irreducible] SemS
set_option maxRecDepth 100000
set_option maxHeartbeats 2000000 in
theorem objectTells_ok (a b : Ob) (ha : a.Lim) (hb : b.Lim) : EvP PR G f_L25_ObjectTells [.agg a.row, .agg b.row] (bv true) := by
  have fa := L25_Far_ok a ha
  have fb := L25_Far_ok b hb
  have g1 := object_Fine_ok a ha
  have g2 := R25_Fine_ok a ha
  have g3 := object_Same_ok a b ha
  have g4 := R25_Same_ok a b ha
  have g5 := R25_Same_ok b a hb
  have g6 : EvP PR G f_object_SameAll [slv [a.row, b.row], slv [b.row, a.row]] (bv (decide ([a, b] = [b, a]))) := SameAll_ok [a, b] [b, a] (by show (2 : Nat) < _; decide) (by show (2 : Nat) < _; decide) (fun o ho => (List.mem_cons.1 ho).elim (fun h => h ▸ ha) fun h => (List.mem_singleton.1 h) ▸ hb)
  have g7 : EvP PR G f_object_SameAll [slv [a.row], slv []] (bv (decide ([a] = []))) := SameAll_ok [a] [] (by show (1 : Nat) < _; decide) (by show (0 : Nat) < _; decide) (fun o ho => (List.mem_singleton.1 ho) ▸ ha)
  have e7 : decide ([a] = []) = false := rfl
  rw [e7] at g7
  have e6 : decide ([a, b] = [b, a]) = decide (a = b) := decide_eq_decide.2 ⟨fun h => (List.cons.inj h).1, fun h => by subst h; rfl⟩
  have e5 : decide (b = a) = decide (a = b) := decide_eq_decide.2 ⟨Eq.symm, Eq.symm⟩
  rw [e6] at g6
  rw [e5] at g5
  generalize farB a = u at *
  generalize farB b = v at *
  generalize a.fine = w at *
  generalize decide (a = b) = z at *
  refine EvP.of_wpf false hm c_L25_ObjectTells rfl ?_
  refine wpf_seq1 ?_
  conv => whnf
  cases u <;> cases v <;> cases w <;> cases z
  all_goals
    repeat' ((first | refine brP_t (by assumption) ?_ | refine brP_f (by assumption) ?_ | refine brP_t (decide_eq_true (by omega)) ?_ | refine brP_f (decide_eq_false (by omega)) ?_ | refine brP_t (nd_t (by omega)) ?_ | refine brP_f (nd_f (by omega)) ?_ | refine callK_p fa ?_ | refine callM_p fa rfl ?_ | refine callK_pf rfl fa ?_ | refine callK_p fb ?_ | refine callM_p fb rfl ?_ | refine callK_pf rfl fb ?_ | refine callK_p L25_alive_ok ?_ | refine callM_p L25_alive_ok rfl ?_ | refine callK_pf rfl L25_alive_ok ?_ | refine callK_p g1 ?_ | refine callM_p g1 rfl ?_ | refine callK_pf rfl g1 ?_ | refine callK_p g2 ?_ | refine callM_p g2 rfl ?_ | refine callK_pf rfl g2 ?_ | refine callK_p g3 ?_ | refine callM_p g3 rfl ?_ | refine callK_pf rfl g3 ?_ | refine callK_p g4 ?_ | refine callM_p g4 rfl ?_ | refine callK_pf rfl g4 ?_ | refine callK_p g5 ?_ | refine callM_p g5 rfl ?_ | refine callK_pf rfl g5 ?_ | refine callK_p g6 ?_ | refine callM_p g6 rfl ?_ | refine callK_pf rfl g6 ?_ | refine callK_p g7 ?_ | refine callM_p g7 rfl ?_ | refine callK_pf rfl g7 ?_ | refine wpfS_seq1 ?_ | refine wpfS_go ?_ | fail) <;> conv => whnf)
  all_goals first | rfl | (trace_state; fail)
theorem bx_limO {cs : List PV} (h : wt shBx cs) : ∀ b : Bx, cs = b.row → b.len < 2 ^ 61 := by
  obtain ⟨a, _, rfl, -, ⟨next, rfl, hn⟩, b, _, rfl, -, ⟨q, rfl, hql, -, hq⟩, c, _, rfl, -, ⟨x, rfl, hxl, -, hx⟩, d, _, rfl, -, ⟨y, rfl, hyl, -, hy⟩, rfl⟩ := h
  intro b hb
  obtain ⟨n, q', x', y'⟩ := b
  have hb : [PV.int .i64 next, .sl q, .sl x, .sl y] = [.int .i64 n, .sl (msgs q'), .sl (msgs x'), .sl (msgs y')] := hb
  simp only [List.cons.injEq, PV.sl.injEq, and_true] at hb
  obtain ⟨-, rfl, rfl, rfl⟩ := hb
  rw [msgs_len] at hql hxl hyl
  have h1 : q'.length * 56 ≤ 0x7ffffffff000 := hql
  have h2 : x'.length * 56 ≤ 0x7ffffffff000 := hxl
  have h3 : y'.length * 56 ≤ 0x7ffffffff000 := hyl
  show q'.length + x'.length + y'.length < _
  omega
theorem ob_limO {cs : List PV} (h : wt shOb cs) : ∃ o : Ob, cs = o.row ∧ o.Ok ∧ o.Lim := by
  obtain ⟨a, _, rfl, -, hid, b, _, rfl, -, hl, c, _, rfl, -, ⟨st, rfl, hst⟩, d, _, rfl, -, ⟨sw, rfl⟩, e, _, rfl, -, hw, f, _, rfl, -, ⟨role, rfl, hrole⟩, g, _, rfl, -, ⟨buf, rfl, hbuf⟩, h', _, rfl, -, ⟨dead, rfl⟩, j, _, rfl, -, hbx, rfl⟩ := h
  obtain ⟨ids, idi, k, n, rfl, h1, h2, h3, h4⟩ := id_of hid
  obtain ⟨ls, li, rfl, h5, h6⟩ := lab_of hl
  obtain ⟨ws, wi, rfl, h7, h8⟩ := lab_of hw
  have hbl := bx_limO hbx
  obtain ⟨bx, rfl, hb⟩ := bx_of hbx
  exact ⟨⟨ids, idi, k, n, ls, li, st, sw, ws, wi, role, buf, dead, bx⟩, rfl, ⟨h1, h2, h3, h4, h5, h6, i64_of hst, h7, h8, i64_of hrole, hb⟩, ⟨hbl bx rfl, by have : buf.length ≤ 0x7ffffffff000 := hbuf; show buf.length < _; omega⟩⟩
theorem law_objectTells (pvss : List (List PV)) (hw : wts [shOb, shOb] pvss) : EvP PR G f_L25_ObjectTells (argAVs [shOb, shOb] pvss) (.c (.p (.bool true))) := by
  obtain ⟨a, _, rfl, ha, hw⟩ := wts_cons hw
  obtain ⟨b, _, rfl, hb, hw⟩ := wts_cons hw
  cases wts_nil hw
  obtain ⟨x, rfl, -, hx⟩ := ob_limO ha
  obtain ⟨y, rfl, -, hy⟩ := ob_limO hb
  exact objectTells_ok x y hx hy
end Go.Ab.S
