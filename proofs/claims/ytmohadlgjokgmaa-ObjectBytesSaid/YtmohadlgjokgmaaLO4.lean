/- The calls at the end of each statement of layer 25, by running them. No condition. Objects that are made; whole lists of objects compared. No condition. -/
import Derived.Test.YtmohadlgjokgmaaLO3
import Derived.KernelRfl
set_option linter.unusedSimpArgs false
set_option linter.unusedVariables false
namespace Go.Ab.S
open Go Go.Ab Go.Proofs
attribute [local irreducible] SemS
set_option maxRecDepth 100000
/-! ### What is known of merging, as a table -/
def decM : List PV → Option Msg
  | [.int .i64 no, .int .i64 ep, .int .u16 (.ofNat s), .int .u16 (.ofNat i), .int .i64 role, .int .u16 (.ofNat used), .str d] => some ⟨no, ep, s, i, role, used, d⟩
  | _ => none
theorem decM_ok {r : List PV} {m : Msg} (h : decM r = some m) : r = m.row := by
  unfold decM at h
  split at h
  · cases h; rfl
  · cases h
def decL : List (List PV) → Option (List Msg)
  | [] => some []
  | r :: l => match decM r, decL l with
    | some m, some ms => some (m :: ms)
    | _, _ => none
theorem decL_ok : ∀ {l : List (List PV)} {ms : List Msg}, decL l = some ms → l = msgs ms
  | [], ms, h => by cases h; rfl
  | r :: l, ms, h => by
    simp only [decL] at h
    split at h
    · rename_i m ms' h1 h2
      cases h
      rw [decM_ok h1, decL_ok h2]; rfl
    · cases h
def decR : List (List PV) → Option (List (List Msg))
  | [] => some []
  | [.sl es] :: r => match decL es, decR r with
    | some m, some ms => some (m :: ms)
    | _, _ => none
  | _ => none
theorem decR_ok : ∀ {l : List (List PV)} {ms : List (List Msg)}, decR l = some ms → l = rowsM ms
  | [], ms, h => by cases h; rfl
  | r :: l, ms, h => by
    unfold decR at h
    split at h
    · rename_i hh; cases hh
    · rename_i es r' hh
      cases hh
      split at h
      · rename_i m ms' h1 h2
        cases h
        rw [decL_ok h1, decR_ok h2]; rfl
      · cases h
    · cases h
def knM (g : FuncId) (args : List AV) : Option AV := match Nat.beq g f_box_merge, args with
  | true, [.c (.p (.sl rows))] => match decR rows with
    | some ls => match Nat.ble ls.length 100 && Nat.ble ls.flatten.length 19 with
      | true => some (slv (msgs (isort ls.flatten)))
      | false => none
    | none => none
  | _, _ => none
theorem knM_ok : KnOk PR G knM := by
  intro g args v h
  unfold knM at h
  split at h
  · rename_i rows hg
    split at h
    · rename_i ls hd
      split at h
      · rename_i hc
        cases h
        rw [Nat.eq_of_beq_eq_true hg, decR_ok hd]
        rw [Bool.and_eq_true] at hc
        exact merge_ok ls (Nat.le_of_ble_eq_true hc.1) (Nat.le_of_ble_eq_true hc.2)
      · cases h
    · cases h
  · cases h
def R2 : Run := { G, own := fun _ => false, kn := knM, tab, L := 100 }
theorem R2_ok : R2.Ok PR := ⟨hm, tab_ok, knM_ok⟩
theorem L25_alive_ok : EvP PR G f_L25_alive [] (bv true) := EvP.of_isT R2_ok 14 rfl (by kernel_rfl)
end Go.Ab.S

namespace Go.Ab.S
open Go Go.Ab Go.Proofs
attribute [local irreducible] SemS
set_option maxRecDepth 100000
def thing (s i : Nat) (k n stamp : Int) (ls li : Nat) : Ob := ⟨s, i, k, n, ls, li, stamp, false, 0, 0, 0, [], false, Bx.emp⟩
def procO (s i : Nat) (k n stamp role : Int) (ls li : Nat) (held : List UInt8) : Ob := { thing s i k n stamp ls li with role := role, buf := held }
end Go.Ab.S
