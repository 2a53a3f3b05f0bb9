/- Objects that are made; whole lists of objects compared. No condition. -/
import Derived.Test.YtmohadlgjokgmaaBxOA
set_option linter.unusedSimpArgs false
set_option linter.unusedVariables false
namespace Go.Ab.S
open Go Go.Ab Go.Proofs
attribute [local irreducible] SemS
set_option maxRecDepth 100000
def thing (s i : Nat) (k n stamp : Int) (ls li : Nat) : Ob := ⟨s, i, k, n, ls, li, stamp, false, 0, 0, 0, [], false, Bx.emp⟩
def procO (s i : Nat) (k n stamp role : Int) (ls li : Nat) (held : List UInt8) : Ob := { thing s i k n stamp ls li with role := role, buf := held }
theorem object_Thing_ok (s i : Nat) (k n stamp : Int) (ls li : Nat) : EvP PR G f_object_Thing [idv s i k n, iv stamp, lab ls li] (.agg (thing s i k n stamp ls li).row) := by
  refine EvP.of_wpf false hm c_object_Thing rfl ?_
  conv => whnf
  repeat' ((first | refine brP_t (by assumption) ?_ | refine brP_f (by assumption) ?_ | refine brP_t (decide_eq_true (by omega)) ?_ | refine brP_f (decide_eq_false (by omega)) ?_ | refine brP_t (nd_t (by omega)) ?_ | refine brP_f (nd_f (by omega)) ?_ | refine wpfS_seq1 ?_ | refine wpfS_go ?_ | fail) <;> conv => whnf)
  rfl
theorem object_Process_ok (s i : Nat) (k n stamp role : Int) (ls li : Nat) (held : List UInt8) : EvP PR G f_object_Process [idv s i k n, iv stamp, iv role, lab ls li, .c (.p (.str held))] (.agg (procO s i k n stamp role ls li held).row) := by
  have c1 := object_Thing_ok s i k n stamp ls li
  refine EvP.of_wpf false hm c_object_Process rfl ?_
  conv => whnf
  repeat' ((first | refine brP_t (by assumption) ?_ | refine brP_f (by assumption) ?_ | refine brP_t (decide_eq_true (by omega)) ?_ | refine brP_f (decide_eq_false (by omega)) ?_ | refine brP_t (nd_t (by omega)) ?_ | refine brP_f (nd_f (by omega)) ?_ | refine callK_p c1 ?_ | refine callM_p c1 rfl ?_ | refine callK_pf rfl c1 ?_ | refine wpfS_seq1 ?_ | refine wpfS_go ?_ | fail) <;> conv => whnf)
  rfl
theorem lab_self' (a b : Nat) : (decide ((a : Int) = a) && (decide ((b : Int) = b) && true)) = true := by simp
theorem id_self (a b : Nat) (k n : Int) : (decide ((a : Int) = a) && (decide ((b : Int) = b) && (decide (k = k) && (decide (n = n) && true)))) = true := by simp
theorem thing_fine {s i : Nat} {k n stamp : Int} {ls li : Nat} (hk : k = 2 ∨ k = 3) (hn : 0 ≤ n ∧ n < 4) (hs : 0 ≤ stamp ∧ stamp ≤ 255) : (thing s i k n stamp ls li).fine = true := by
  have h1 : idB k n = true := idB_iff.2 ⟨by omega, by omega, hn.1, hn.2⟩
  unfold Ob.fine
  simp only [Bool.and_eq_true, decide_eq_true_eq]
  refine ⟨h1, hs.1, hs.2, rfl, ?_⟩
  unfold Ob.kindB
  rcases hk with rfl | rfl
  · rfl
  · rfl
theorem proc_fine {s i : Nat} {n stamp role : Int} {ls li : Nat} {held : List UInt8} (hn : 0 ≤ n ∧ n < 4) (hs : 0 ≤ stamp ∧ stamp ≤ 255) (hr : 0 ≤ role ∧ role ≤ 15) (hh : held.length ≤ 32) : (procO s i 1 n stamp role ls li held).fine = true := by
  have h1 : idB 1 n = true := idB_iff.2 ⟨by omega, by omega, hn.1, hn.2⟩
  unfold Ob.fine
  simp only [Bool.and_eq_true, decide_eq_true_eq]
  refine ⟨h1, hs.1, hs.2, rfl, ?_⟩
  unfold Ob.kindB
  rw [if_pos (show (procO s i 1 n stamp role ls li held).k = 1 from rfl)]
  simp only [Bool.and_eq_true, decide_eq_true_eq]
  exact ⟨hr.1, hr.2, hh, rfl, rfl⟩
set_option maxHeartbeats 8000000 in
theorem objectMakes_ok (s i : Nat) (k n : Int) (st ro : Nat) (hst : st < 256) (hro : ro < 256) (ls li : Nat) (held : List UInt8) : EvP PR G f_L25_ObjectMakes [.agg [.int .u16 s, .int .u16 i, .int .i64 k, .int .i64 n, .int .u8 st, .int .u8 ro, .int .u16 ls, .int .u16 li, .str held]] (bv true) := by
  refine EvP.of_wpf false hm c_L25_ObjectMakes rfl ?_
  refine wpf_seq1 ?_
  conv => whnf
  by_cases h32 : 32 < held.length
  · repeat' ((first | refine brP_t (by assumption) ?_ | refine brP_f (by assumption) ?_ | refine brP_t (decide_eq_true (by omega)) ?_ | refine brP_f (decide_eq_false (by omega)) ?_ | refine brP_t (nd_t (by omega)) ?_ | refine brP_f (nd_f (by omega)) ?_ | refine callK_p L25_alive_ok ?_ | refine callM_p L25_alive_ok rfl ?_ | refine callK_pf rfl L25_alive_ok ?_ | refine wpfS_seq1 ?_ | refine wpfS_go ?_ | fail) <;> conv => whnf)
    rfl
  have hw1 : IntKind.i64.wrap (st : Int) = (st : Int) := wrap64 (by omega)
  have hw2 : IntKind.i64.wrap (ro : Int) = (ro : Int) := wrap64 (by omega)
  have hr : 0 ≤ (ro : Int).tmod 16 ∧ (ro : Int).tmod 16 ≤ 15 := by rw [Int.tmod_eq_emod_of_nonneg (Int.natCast_nonneg ro)]; omega
  have hr2 : (ro : Int).tmod 2 = 0 ∨ (ro : Int).tmod 2 = 1 := by rw [Int.tmod_eq_emod_of_nonneg (Int.natCast_nonneg ro)]; omega
  have hw3 : IntKind.i64.wrap ((ro : Int).tmod 16) = (ro : Int).tmod 16 := wrap64 (by omega)
  have hw4 : IntKind.i64.wrap (2 + (ro : Int).tmod 2) = 2 + (ro : Int).tmod 2 := wrap64 (by omega)
  have hk : 2 + (ro : Int).tmod 2 = 2 ∨ 2 + (ro : Int).tmod 2 = 3 := by omega
  have c1 : EvP PR G f_object_Process [idv s i 1 3, iv st, iv ((ro : Int).tmod 16), lab ls li, .c (.p (.str held))] (.agg [.int .u16 s, .int .u16 i, .int .i64 1, .int .i64 3, .int .u16 ls, .int .u16 li, .int .i64 st, .bool false, .int .u16 0, .int .u16 0, .int .i64 ((ro : Int).tmod 16), .str held, .bool false, .int .i64 0, .sl [], .sl [], .sl []]) := object_Process_ok s i 1 3 st ((ro : Int).tmod 16) ls li held
  have c2 : EvP PR G f_object_Thing [idv s i (2 + (ro : Int).tmod 2) 3, iv st, lab ls li] (.agg [.int .u16 s, .int .u16 i, .int .i64 (2 + (ro : Int).tmod 2), .int .i64 3, .int .u16 ls, .int .u16 li, .int .i64 st, .bool false, .int .u16 0, .int .u16 0, .int .i64 0, .str [], .bool false, .int .i64 0, .sl [], .sl [], .sl []]) := object_Thing_ok s i (2 + (ro : Int).tmod 2) 3 st ls li
  have f1 := proc_fine (s := s) (i := i) (n := 3) (stamp := st) (role := (ro : Int).tmod 16) (ls := ls) (li := li) (held := held) (by omega) (by omega) hr (by omega)
  have f2 := thing_fine (s := s) (i := i) (n := 3) (stamp := st) (ls := ls) (li := li) hk (by omega) (by omega)
  have c3 := object_Fine_ok (procO s i 1 3 st ((ro : Int).tmod 16) ls li held) ⟨by show (0 : Nat) < 2 ^ 61; decide, by show held.length < _; omega⟩
  have c4 := object_Fine_ok (thing s i (2 + (ro : Int).tmod 2) 3 st ls li) ⟨by show (0 : Nat) < 2 ^ 61; decide, by show (0 : Nat) < 2 ^ 62; decide⟩
  rw [f1] at c3
  rw [f2] at c4
  have c5 := R25_Same_ok (thing s i (2 + (ro : Int).tmod 2) 3 st ls li) (thing s i (2 + (ro : Int).tmod 2) 3 st ls li) ⟨by show (0 : Nat) < 2 ^ 61; decide, by show (0 : Nat) < 2 ^ 62; decide⟩
  rw [decide_eq_true rfl] at c5
  have e1 := lab_self' ls li
  have e2 := id_self s i (2 + (ro : Int).tmod 2) 3
  clear f1 f2
  repeat' ((first | refine brP_t (by assumption) ?_ | refine brP_f (by assumption) ?_ | refine brP_t (decide_eq_true (by omega)) ?_ | refine brP_f (decide_eq_false (by omega)) ?_ | refine brP_t (nd_t (by omega)) ?_ | refine brP_f (nd_f (by omega)) ?_ | ((rw [hw1])) | ((rw [hw2])) | ((rw [hw3])) | ((rw [hw4])) | refine callK_p c1 ?_ | refine callM_p c1 rfl ?_ | refine callK_pf rfl c1 ?_ | refine callK_p c2 ?_ | refine callM_p c2 rfl ?_ | refine callK_pf rfl c2 ?_ | refine callK_p c3 ?_ | refine callM_p c3 rfl ?_ | refine callK_pf rfl c3 ?_ | refine callK_p c4 ?_ | refine callM_p c4 rfl ?_ | refine callK_pf rfl c4 ?_ | refine callK_p c5 ?_ | refine callM_p c5 rfl ?_ | refine callK_pf rfl c5 ?_ | refine callK_pk rfl c5 ?_ | ((rw [e1])) | ((rw [e2])) | refine brP_f (nd_f rfl) ?_ | refine brP_t (decide_eq_true rfl) ?_ | refine callK_p L25_alive_ok ?_ | refine callM_p L25_alive_ok rfl ?_ | refine callK_pf rfl L25_alive_ok ?_ | refine wpfS_seq1 ?_ | refine wpfS_go ?_ | fail) <;> conv => whnf)
  rfl
end Go.Ab.S
