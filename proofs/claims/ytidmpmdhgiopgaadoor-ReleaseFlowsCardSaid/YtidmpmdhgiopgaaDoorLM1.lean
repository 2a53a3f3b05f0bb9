/- Part of a proof; no condition. -/
import Derived.Test.YtidmpmdhgiopgaaDoorLN3
import Derived.Test.YtidmpmdhgiopgaaDoorLWZ
set_option linter.unusedSimpArgs false
set_option linter.unusedVariables false
namespace Go.Ab.S
open Go Go.Ab Go.Proofs
attribute [local irreducible] SemS
set_option maxRecDepth 100000
def topI : Int := 2147483647
def Msg.fine (m : Msg) : Bool := decide (0 ≤ m.no) && (decide (m.no ≤ 2147483647) && (decide (0 ≤ m.ep) && (decide (m.ep ≤ 255) && (decide (0 ≤ m.role) && (decide (m.role ≤ 15) && decide (m.data.length ≤ 32))))))
theorem Msg.fine_iff {m : Msg} : m.fine = true ↔ 0 ≤ m.no ∧ m.no ≤ 2147483647 ∧ 0 ≤ m.ep ∧ m.ep ≤ 255 ∧ 0 ≤ m.role ∧ m.role ≤ 15 ∧ m.data.length ≤ 32 := by simp [Msg.fine]
def Msg.map (M : Nat → Nat) (m : Msg) : Msg := { m with s := setN M m.s, i := setN M m.i, used := setN M m.used }
theorem message_Mapped_ok (M : Nat → Nat) (hM : ∀ i, i < 16 → M i ≤ 255) (m : Msg) (hm' : m.Ok) : EvP PR G f_message_Mapped [mv M, .agg m.row] (.agg (m.map M).row) := by
  have h1 := relabel_Label_ok M hM m.s m.i hm'.s hm'.i
  have h2 := relabel_Set_ok M hM m.used hm'.used
  refine EvP.of_wpf true hm c_message_Mapped rfl ?_
  conv => whnf
  repeat' ((first | refine brP_t (by assumption) ?_ | refine brP_f (by assumption) ?_ | refine brP_t (decide_eq_true (by omega)) ?_ | refine brP_f (decide_eq_false (by omega)) ?_ | refine brP_t (nd_t (by omega)) ?_ | refine brP_f (nd_f (by omega)) ?_ | refine callK_p h1 ?_ | refine callM_p h1 rfl ?_ | refine callK_pf rfl h1 ?_ | refine callK_p h2 ?_ | refine callM_p h2 rfl ?_ | refine callK_pf rfl h2 ?_ | fail) <;> conv => whnf)
  rfl
theorem Msg.map_ok {M : Nat → Nat} {m : Msg} (h : m.Ok) : (m.map M).Ok := ⟨h.no, h.ep, setN_lt, setN_lt, h.role, setN_lt⟩
end Go.Ab.S
