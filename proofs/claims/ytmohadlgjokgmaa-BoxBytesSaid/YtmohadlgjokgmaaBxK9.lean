/- The calls at the end of each statement of layer 23. No condition. -/
import Derived.Test.YtmohadlgjokgmaaBxK8
set_option linter.unusedSimpArgs false
set_option linter.unusedVariables false
namespace Go.Ab.S
open Go Go.Ab Go.Proofs
attribute [local irreducible] SemS
set_option maxRecDepth 100000
theorem L23_alive_1_ok (m : Msg) : EvP PR G f_L23_alive_1 [.agg m.row] (bv (decide (m.role = 2))) := by
  obtain ⟨no, ep, s, i', role, used, data⟩ := m
  refine EvP.of_wpf true hm c_L23_alive_1 rfl ?_
  conv => whnf
  repeat' ((first | refine brP_t (by assumption) ?_ | refine brP_f (by assumption) ?_ | refine brP_t (decide_eq_true (by omega)) ?_ | refine brP_f (decide_eq_false (by omega)) ?_ | refine brP_t (nd_t (by omega)) ?_ | refine brP_f (nd_f (by omega)) ?_ | refine wpfS_seq1 ?_ | refine wpfS_go ?_ | fail) <;> conv => whnf)
  rfl
def am1 : Msg := ⟨0, 0, 0, 0, 1, 0, [120]⟩
def am2 : Msg := ⟨0, 0, 0, 0, 2, 0, [121]⟩
def ay : Bx := ⟨2, [am1, { am2 with no := 1 }], [], []⟩
def aa : Bx := ⟨2, [], [am1, { am2 with no := 1 }], []⟩
def al : Bx := ⟨2, [{ am2 with no := 1 }], [], [am1]⟩
def ab : Bx := ⟨2, [], [], [am1]⟩
def ac : Bx := ⟨2, [am1], [], []⟩
set_option maxHeartbeats 4000000 in
theorem L23_alive_ok : EvP PR G f_L23_alive [] (bv true) := by
  have c1 := box_Put_ok Bx.emp am1 (by decide) ⟨by decide, by decide⟩
  rw [show putR Bx.emp am1 = (⟨1, [am1], [], []⟩, 0) from rfl] at c1
  have c2 := box_Put_ok ⟨1, [am1], [], []⟩ am2 (by decide) ⟨by decide, by decide⟩
  rw [show putR ⟨1, [am1], [], []⟩ am2 = (ay, 0) from rfl] at c2
  have c3 := box_SetAside_ok ay (by decide)
  rw [show ay.aside = aa from rfl] at c3
  have c4 := box_Let_ok f_L23_alive_1 [] (fun _ => []) (fun _ => rfl) (fun _ _ => rfl) (fun m => decide (m.role = 2)) aa (by decide) fun i h ls => EvP.toR (L23_alive_1_ok _) _
  rw [show aa.letK (fun m => decide (m.role = 2)) = al from rfl] at c4
  have c5 := box_Take_ok al (by decide)
  rw [show takeR al = ab from rfl, show al.q.headD msg0 = { am2 with no := 1 } from rfl, show (if al.q = [] then (13 : Int) else 0) = 0 from rfl] at c5
  have c6 := box_Restore_ok ab (by decide)
  rw [show ab.restore = ac from rfl] at c6
  have c7 := box_First_ok ac
  rw [show ac.q.headD msg0 = am1 from rfl, show (if ac.q = [] then (13 : Int) else 0) = 0 from rfl] at c7
  have c8 := box_Forget_ok ab
  rw [show ab.forget = ⟨2, [], [], []⟩ from rfl] at c8
  have c9 := box_Take_ok ⟨2, [], [], []⟩ (by decide)
  rw [show takeR ⟨2, [], [], []⟩ = Bx.emp from rfl, show ([] : List Msg).headD msg0 = msg0 from rfl, show (if (Bx.mk 2 [] [] []).q = [] then (13 : Int) else 0) = 13 from rfl] at c9
  have c10 := box_Len_ok aa (by decide)
  rw [show aa.len = 2 from rfl] at c10
  have c11 := box_Fine_ok ac (by decide)
  rw [show ac.fine = true from rfl] at c11
  have c12 := box_Restore_ok aa (by decide)
  rw [show aa.restore = ay from rfl] at c12
  have c13 := box_Same_ok ay ay (by decide) (by decide) (by decide)
  rw [decide_eq_true rfl] at c13
  refine EvP.of_wpf false hm c_L23_alive rfl ?_
  refine wpf_seq1 ?_
  conv => whnf
  repeat' ((first | refine brP_t (by assumption) ?_ | refine brP_f (by assumption) ?_ | refine brP_t (decide_eq_true (by omega)) ?_ | refine brP_f (decide_eq_false (by omega)) ?_ | refine brP_t (nd_t (by omega)) ?_ | refine brP_f (nd_f (by omega)) ?_ | refine callK_p c1 ?_ | refine callM_p c1 rfl ?_ | refine callK_pf rfl c1 ?_ | refine callK_p c2 ?_ | refine callM_p c2 rfl ?_ | refine callK_pf rfl c2 ?_ | refine callK_p c3 ?_ | refine callM_p c3 rfl ?_ | refine callK_pf rfl c3 ?_ | refine callK_r (EvR.fr [] c4 rfl rfl trivial rfl) ?_ | refine callM_l (LEv.fr [] c4 rfl rfl trivial rfl rfl) ?_ | refine callK_rt (EvR.fr [] c4 rfl rfl trivial rfl) ?_ | refine callK_rf rfl (EvR.fr [] c4 rfl rfl trivial rfl) ?_ | refine callK_rft rfl (EvR.fr [] c4 rfl rfl trivial rfl) ?_ | refine callK_p c5 ?_ | refine callM_p c5 rfl ?_ | refine callK_pf rfl c5 ?_ | refine callK_p c6 ?_ | refine callM_p c6 rfl ?_ | refine callK_pf rfl c6 ?_ | refine callK_p c7 ?_ | refine callM_p c7 rfl ?_ | refine callK_pf rfl c7 ?_ | refine callK_p c8 ?_ | refine callM_p c8 rfl ?_ | refine callK_pf rfl c8 ?_ | refine callK_p c9 ?_ | refine callM_p c9 rfl ?_ | refine callK_pf rfl c9 ?_ | refine callK_p c10 ?_ | refine callM_p c10 rfl ?_ | refine callK_pf rfl c10 ?_ | refine callK_p c11 ?_ | refine callM_p c11 rfl ?_ | refine callK_pf rfl c11 ?_ | refine callK_p c12 ?_ | refine callM_p c12 rfl ?_ | refine callK_pf rfl c12 ?_ | refine callK_p c13 ?_ | refine callM_p c13 rfl ?_ | refine callK_pf rfl c13 ?_ | refine wpfS_seq1 ?_ | refine wpfS_go ?_ | fail) <;> conv => whnf)
  rfl
end Go.Ab.S
