/- ReleaseKeeps and ReleaseLets. No condition. -/
import Derived.Test.YtidmpmdhgiopgaaDoorLE3
import Derived.Test.YtidmpmdhgiopgaaDoorLP16
import Derived.Test.YtidmpmdhgiopgaaDoorLPA
import Derived.Test.YtidmpmdhgiopgaaDoorLU2
set_option linter.unusedSimpArgs false
set_option linter.unusedVariables false
namespace Go.Ab.S
open Go Go.Ab Go.Proofs
attribute [local irreducible] SemS
set_option maxRecDepth 100000
/-! ### The calls at the end of each statement of layer 32 -/
def rq : Pol := setOwn firstP 2 16
def rm : Msg := ⟨0, 0, 0, 65535, 0, 4, []⟩
def ro : Ob := ⟨0, 0, 2, 0, 0, 0, 0, false, 0, 0, 0, [], false, ⟨1, [], [rm], []⟩⟩
def ry : Ob := ⟨0, 0, 2, 0, 0, 0, 0, false, 0, 0, 0, [], false, ⟨1, [rm], [], []⟩⟩
def rz : Ob := ⟨0, 0, 2, 0, 0, 0, 0, false, 0, 0, 0, [], false, ⟨1, [], [], [rm]⟩⟩
theorem rm_ok : rm.Ok := ⟨⟨by decide, by decide⟩, ⟨by decide, by decide⟩, by decide, by decide, ⟨by decide, by decide⟩, by decide⟩
theorem ro_ok : ∀ m ∈ ro.bx.a, m.Ok := fun m hm => by rw [List.mem_singleton.1 hm]; exact rm_ok
theorem first_okE : firstP.Ok := ⟨by decide, fun r _ => by show (0 : Nat) < 65536; decide, fun r _ => by show (if r = 0 then 65535 else 0) < 65536; split <;> decide, fun r _ => by show (0 : Nat) < 65536; decide, fun r _ => by show (0 : Nat) ≤ 255; decide, by decide⟩
theorem rq_ok : rq.Ok := ⟨first_okE.live, first_okE.ls, first_okE.li, first_okE.acts, fun r hr => by
  show (if r = 2 then 16 else 0) ≤ 255
  split <;> omega, first_okE.active⟩
theorem id_ok : ∀ i, i < 16 → (id : Nat → Nat) i ≤ 255 := fun i hi => by show i ≤ 255; omega
theorem keep1 : keepB firstP id 1 rm = true := by decide +kernel
theorem keep2 : keepB rq id 1 rm = false := by decide +kernel
set_option maxHeartbeats 4000000 in
theorem L32_alive_ok : EvP PR G f_L32_alive [] (bv true) := by
  have c1 := policy_First_ok
  have c2 := label_Bottom_ok
  have c3 := R04_Same_ok
  have c4 := release_Let_ok firstP first_okE id id_ok 1 ro (by decide) ro_ok
  have hy : ro.let_ (keepB firstP id 1) = ry := by
    show ({ ro with bx := ⟨1, isort ([] ++ List.filter (keepB firstP id 1) [rm]), [], isort ([] ++ List.filter (fun m => !keepB firstP id 1 m) [rm])⟩ } : Ob) = ry
    rw [List.filter_cons, List.filter_cons, keep1]; rfl
  have hev : evsL firstP id 1 ro ro.bx.a = [evR ro 1 (asIt id 1 rm)] := by
    show List.map _ (List.filter (keepB firstP id 1) [rm]) = _
    rw [List.filter_cons, keep1]; rfl
  rw [hy, hev] at c4
  have c5 := release_Let_ok rq rq_ok id id_ok 1 ro (by decide) ro_ok
  have hz : ro.let_ (keepB rq id 1) = rz := by
    show ({ ro with bx := ⟨1, isort ([] ++ List.filter (keepB rq id 1) [rm]), [], isort ([] ++ List.filter (fun m => !keepB rq id 1 m) [rm])⟩ } : Ob) = rz
    rw [List.filter_cons, List.filter_cons, keep2]; rfl
  have hew : evsL rq id 1 ro ro.bx.a = [] := by
    show List.map _ (List.filter (keepB rq id 1) [rm]) = _
    rw [List.filter_cons, keep2]; rfl
  rw [hz, hew] at c5
  have c6 := release_Keep_ok firstP first_okE id id_ok 1 rm rm_ok
  rw [keep1] at c6
  have c7 := release_Keep_ok rq rq_ok id id_ok 1 rm rm_ok
  rw [keep2] at c7
  have hM : mapOk (madeN [(2, 3)]) := fun i hi => by have := made_lt [(2, 3)] i hi; omega
  have c8 := R04_Made_ok [(2, 3)] (by decide)
  have c9 := release_AsItIs_ok (madeN [(2, 3)]) hM 1 rm rm_ok
  rw [show asIt (madeN [(2, 3)]) 1 rm = ⟨0, 0, 0, 65531, 0, 8, []⟩ by decide +kernel] at c9
  generalize madeN [(2, 3)] = M at *
  have hrq : putAt firstP.row (0 + 49 + 2 * 1) [.int .u8 (16 : Nat)] = rq.row := pol_putown firstP (r := 2) (by decide) 16
  have hx : evR ro 1 (asIt id 1 rm) = [.int .i64 4, .int .u16 (asIt id 1 rm).s, .int .u16 (asIt id 1 rm).i, .int .u16 (0 : Nat), .int .u16 (0 : Nat), .int .i64 1, .int .i64 (asIt id 1 rm).role, .int .u16 (asIt id 1 rm).s, .int .u16 (asIt id 1 rm).i, .int .u16 (asIt id 1 rm).used] := rfl
  rw [hx] at c4
  generalize asIt id 1 rm = am at *
  refine EvP.of_wpf false hm c_L32_alive rfl ?_
  refine wpf_seq1 ?_
  conv => whnf
  repeat' ((first | refine brP_t (by assumption) ?_ | refine brP_f (by assumption) ?_ | refine brP_t (decide_eq_true (by omega)) ?_ | refine brP_f (decide_eq_false (by omega)) ?_ | refine brP_t (nd_t (by omega)) ?_ | refine brP_f (nd_f (by omega)) ?_ | refine brP_t (decide_eq_true rfl) ?_ | refine wpfS_seq1 ?_ | refine wpfS_go ?_ | fail) <;> conv => whnf)
  (first | refine callK_p c1 ?_ | refine callM_p c1 rfl ?_ | refine callK_pf rfl c1 ?_ | refine callK_pk rfl c1 ?_)
  conv => whnf
  repeat' ((first | refine brP_t (by assumption) ?_ | refine brP_f (by assumption) ?_ | refine brP_t (decide_eq_true (by omega)) ?_ | refine brP_f (decide_eq_false (by omega)) ?_ | refine brP_t (nd_t (by omega)) ?_ | refine brP_f (nd_f (by omega)) ?_ | refine brP_t (decide_eq_true rfl) ?_ | refine wpfS_seq1 ?_ | refine wpfS_go ?_ | fail) <;> conv => whnf)
  (first | refine callK_p c2 ?_ | refine callM_p c2 rfl ?_ | refine callK_pf rfl c2 ?_ | refine callK_pk rfl c2 ?_)
  conv => whnf
  repeat' ((first | refine brP_t (by assumption) ?_ | refine brP_f (by assumption) ?_ | refine brP_t (decide_eq_true (by omega)) ?_ | refine brP_f (decide_eq_false (by omega)) ?_ | refine brP_t (nd_t (by omega)) ?_ | refine brP_f (nd_f (by omega)) ?_ | refine brP_t (decide_eq_true rfl) ?_ | refine wpfS_seq1 ?_ | refine wpfS_go ?_ | fail) <;> conv => whnf)
  (first | refine callK_p c3 ?_ | refine callM_p c3 rfl ?_ | refine callK_pf rfl c3 ?_ | refine callK_pk rfl c3 ?_)
  conv => whnf
  repeat' ((first | refine brP_t (by assumption) ?_ | refine brP_f (by assumption) ?_ | refine brP_t (decide_eq_true (by omega)) ?_ | refine brP_f (decide_eq_false (by omega)) ?_ | refine brP_t (nd_t (by omega)) ?_ | refine brP_f (nd_f (by omega)) ?_ | refine brP_t (decide_eq_true rfl) ?_ | refine wpfS_seq1 ?_ | refine wpfS_go ?_ | fail) <;> conv => whnf)
  (first | refine callK_p c4 ?_ | refine callM_p c4 rfl ?_ | refine callK_pf rfl c4 ?_ | refine callK_pk rfl c4 ?_)
  conv => whnf
  repeat' ((first | refine brP_t (by assumption) ?_ | refine brP_f (by assumption) ?_ | refine brP_t (decide_eq_true (by omega)) ?_ | refine brP_f (decide_eq_false (by omega)) ?_ | refine brP_t (nd_t (by omega)) ?_ | refine brP_f (nd_f (by omega)) ?_ | refine brP_t (decide_eq_true rfl) ?_ | refine wpfS_seq1 ?_ | refine wpfS_go ?_ | fail) <;> conv => whnf)
  (first | refine callK_p c5 ?_ | refine callM_p c5 rfl ?_ | refine callK_pf rfl c5 ?_ | refine callK_pk rfl c5 ?_)
  conv => whnf
  repeat' ((first | refine brP_t (by assumption) ?_ | refine brP_f (by assumption) ?_ | refine brP_t (decide_eq_true (by omega)) ?_ | refine brP_f (decide_eq_false (by omega)) ?_ | refine brP_t (nd_t (by omega)) ?_ | refine brP_f (nd_f (by omega)) ?_ | refine brP_t (decide_eq_true rfl) ?_ | refine wpfS_seq1 ?_ | refine wpfS_go ?_ | fail) <;> conv => whnf)
  (first | refine callK_p c6 ?_ | refine callM_p c6 rfl ?_ | refine callK_pf rfl c6 ?_ | refine callK_pk rfl c6 ?_)
  conv => whnf
  repeat' ((first | refine brP_t (by assumption) ?_ | refine brP_f (by assumption) ?_ | refine brP_t (decide_eq_true (by omega)) ?_ | refine brP_f (decide_eq_false (by omega)) ?_ | refine brP_t (nd_t (by omega)) ?_ | refine brP_f (nd_f (by omega)) ?_ | refine brP_t (decide_eq_true rfl) ?_ | refine wpfS_seq1 ?_ | refine wpfS_go ?_ | fail) <;> conv => whnf)
  (first | refine callK_p c7 ?_ | refine callM_p c7 rfl ?_ | refine callK_pf rfl c7 ?_ | refine callK_pk rfl c7 ?_)
  conv => whnf
  repeat' ((first | refine brP_t (by assumption) ?_ | refine brP_f (by assumption) ?_ | refine brP_t (decide_eq_true (by omega)) ?_ | refine brP_f (decide_eq_false (by omega)) ?_ | refine brP_t (nd_t (by omega)) ?_ | refine brP_f (nd_f (by omega)) ?_ | refine brP_t (decide_eq_true rfl) ?_ | refine wpfS_seq1 ?_ | refine wpfS_go ?_ | fail) <;> conv => whnf)
  (first | refine callK_p c8 ?_ | refine callM_p c8 rfl ?_ | refine callK_pf rfl c8 ?_ | refine callK_pk rfl c8 ?_)
  conv => whnf
  repeat' ((first | refine brP_t (by assumption) ?_ | refine brP_f (by assumption) ?_ | refine brP_t (decide_eq_true (by omega)) ?_ | refine brP_f (decide_eq_false (by omega)) ?_ | refine brP_t (nd_t (by omega)) ?_ | refine brP_f (nd_f (by omega)) ?_ | refine brP_t (decide_eq_true rfl) ?_ | refine wpfS_seq1 ?_ | refine wpfS_go ?_ | fail) <;> conv => whnf)
  (first | refine callK_p c9 ?_ | refine callM_p c9 rfl ?_ | refine callK_pf rfl c9 ?_ | refine callK_pk rfl c9 ?_)
  conv => whnf
  repeat' ((first | refine brP_t (by assumption) ?_ | refine brP_f (by assumption) ?_ | refine brP_t (decide_eq_true (by omega)) ?_ | refine brP_f (decide_eq_false (by omega)) ?_ | refine brP_t (nd_t (by omega)) ?_ | refine brP_f (nd_f (by omega)) ?_ | refine brP_t (decide_eq_true rfl) ?_ | refine wpfS_seq1 ?_ | refine wpfS_go ?_ | fail) <;> conv => whnf)
  rfl
/-! ### ReleaseKeeps -/
/-! ### ReleaseLets -/
end Go.Ab.S
