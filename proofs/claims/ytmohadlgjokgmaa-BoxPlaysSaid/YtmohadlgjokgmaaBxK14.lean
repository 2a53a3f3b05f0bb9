/- An act at a mailbox: the program's, and the document's. No condition. -/
import Derived.Test.YtmohadlgjokgmaaBxK13
set_option linter.unusedSimpArgs false
set_option linter.unusedVariables false
namespace Go.Ab.S
open Go Go.Ab Go.Proofs
attribute [local irreducible] SemS
set_option maxRecDepth 100000
structure Act where
  kind : Nat
  n : Int
  m : Msg
def Act.row (a : Act) : List PV := .int .u8 a.kind :: .int .i64 a.n :: a.m.row
def putD (b : Bx) (m : Msg) : Bx × Msg × Int := if 8 ≤ b.len ∨ 2147483647 ≤ b.next then (b, msg0, 12) else (b.put m, msg0, 0)
def takeD (b : Bx) : Bx × Msg × Int := if b.q = [] then (b, msg0, 13) else (b.take, b.q.headD msg0, 0)
def doR (b : Bx) (a : Act) : Bx × Msg × Int :=
  if a.kind % 7 = 0 then putD b a.m
  else if a.kind % 7 = 1 then takeD b
  else if a.kind % 7 = 2 then (b.aside, msg0, 0)
  else if a.kind % 7 = 3 then (b.letK fun m => decide (m.role = a.n), msg0, 0)
  else if a.kind % 7 = 4 then (b.restore, msg0, 0)
  else if a.kind % 7 = 5 then (b.forget, msg0, 0)
  else (b.each (epM a.n), msg0, 0)
def resD (r : Bx × Msg × Int) : AV := .tup [.agg r.1.row, .agg r.2.1.row, iv r.2.2]
theorem do_1_ok (m : Msg) (a : Act) : EvR PR G f_L23_do_1 [.agg m.row, .c (.ptr (.par 0) 0)] ⟨[.row a.row], []⟩ (bv (decide (m.role = a.n))) ⟨[.row a.row], []⟩ := by
  obtain ⟨no, ep, s, i', role, used, data⟩ := m
  obtain ⟨k, n, no2, ep2, s2, i2, role2, used2, data2⟩ := a
  refine EvR.of_wpfC false true hm c_L23_do_1 rfl rfl ?_
  conv => whnf
  repeat' ((first | refine brP_t (by assumption) ?_ | refine brP_f (by assumption) ?_ | refine brP_t (decide_eq_true (by omega)) ?_ | refine brP_f (decide_eq_false (by omega)) ?_ | refine brP_t (nd_t (by omega)) ?_ | refine brP_f (nd_f (by omega)) ?_ | refine wpfS_seq1 ?_ | refine wpfS_go ?_ | fail) <;> conv => whnf)
  exact ⟨rfl, rfl⟩
theorem do_2_ok (m : Msg) (a : Act) : EvR PR G f_L23_do_2 [.agg m.row, .c (.ptr (.par 0) 0)] ⟨[.row a.row], []⟩ (.agg (epM a.n m).row) ⟨[.row a.row], []⟩ := by
  obtain ⟨no, ep, s, i', role, used, data⟩ := m
  obtain ⟨k, n, no2, ep2, s2, i2, role2, used2, data2⟩ := a
  refine EvR.of_wpfC false true hm c_L23_do_2 rfl rfl ?_
  conv => whnf
  repeat' ((first | refine brP_t (by assumption) ?_ | refine brP_f (by assumption) ?_ | refine brP_t (decide_eq_true (by omega)) ?_ | refine brP_f (decide_eq_false (by omega)) ?_ | refine brP_t (nd_t (by omega)) ?_ | refine brP_f (nd_f (by omega)) ?_ | refine wpfS_seq1 ?_ | refine wpfS_go ?_ | fail) <;> conv => whnf)
  exact ⟨rfl, rfl⟩
theorem tmod7 (k : Nat) : (k : Int).tmod 7 = ((k % 7 : Nat) : Int) := by rw [Int.tmod_eq_emod_of_nonneg (Int.natCast_nonneg k)]; omega
theorem lt7 (k : Nat) : k % 7 = 0 ∨ k % 7 = 1 ∨ k % 7 = 2 ∨ k % 7 = 3 ∨ k % 7 = 4 ∨ k % 7 = 5 ∨ k % 7 = 6 := by omega
set_option maxHeartbeats 4000000 in
theorem L23_do_ok (b : Bx) (a : Act) (hg : b.Good) : EvP PR G f_L23_do [.agg b.row, .agg a.row] (resD (doR b a)) := by
  have hl := hg.len
  have hlen : b.len = b.q.length + b.a.length + b.h.length := rfl
  have c1 := box_Put_ok b a.m (by omega) ⟨by have := hg.lo; omega, by have := hg.hi; omega⟩
  have c2 := box_Take_ok b (by omega)
  have c3 := box_SetAside_ok b (by omega)
  have c4 : EvR PR G f_box_Let [.agg b.row, .c (.fn f_L23_do_1 [.par 0])] ⟨[.row a.row], []⟩ (.agg (b.letK fun m => decide (m.role = a.n)).row) ⟨[.row a.row], []⟩ :=
    box_Let_ok f_L23_do_1 [.par 0] (fun _ => [.row a.row]) (fun _ => rfl) (fun _ _ => rfl) (fun m => decide (m.role = a.n)) b (by omega) (fnK1 fun m _ => do_1_ok m a)
  have c5 := box_Restore_ok b (by omega)
  have c6 := box_Forget_ok b
  have c7 : EvR PR G f_box_Each [.agg b.row, .c (.fn f_L23_do_2 [.par 0])] ⟨[.row a.row], []⟩ (.agg (b.each (epM a.n)).row) ⟨[.row a.row], []⟩ :=
    box_Each_ok f_L23_do_2 [.par 0] [.row a.row] (fun _ => rfl) (fun _ => rfl) (epM a.n) b (by omega) fun m _ => fnM1 (do_2_ok m a)
  have hput : putR b a.m = if 8 ≤ b.len ∨ 2147483647 ≤ b.next then (Bx.emp, 12) else (b.put a.m, 0) := rfl
  have hputD : putD b a.m = if 8 ≤ b.len ∨ 2147483647 ≤ b.next then (b, msg0, 12) else (b.put a.m, msg0, 0) := rfl
  have htake : takeR b = if b.q = [] then Bx.emp else b.take := rfl
  have htakeD : takeD b = if b.q = [] then (b, msg0, 13) else (b.take, b.q.headD msg0, 0) := rfl
  have hhd : b.q = [] → b.q.headD msg0 = msg0 := fun h => by rw [h]; rfl
  have hdo : doR b a = if a.kind % 7 = 0 then putD b a.m
    else if a.kind % 7 = 1 then takeD b
    else if a.kind % 7 = 2 then (b.aside, msg0, 0)
    else if a.kind % 7 = 3 then (b.letK fun m => decide (m.role = a.n), msg0, 0)
    else if a.kind % 7 = 4 then (b.restore, msg0, 0)
    else if a.kind % 7 = 5 then (b.forget, msg0, 0)
    else (b.each (epM a.n), msg0, 0) := rfl
  rw [hdo]
  have hk := tmod7 a.kind
  have h7 := lt7 a.kind
  generalize a.kind % 7 = r at *
  generalize b.put a.m = x1 at *
  generalize b.take = x2 at *
  generalize b.aside = x3 at *
  generalize (b.letK fun m => decide (m.role = a.n)) = x4 at *
  generalize b.restore = x5 at *
  generalize b.forget = x6 at *
  generalize b.each (epM a.n) = x7 at *
  generalize b.q.headD msg0 = hd at *
  refine EvP.of_wpf false hm c_L23_do rfl ?_
  show wpf _ _ _ _ _ (argsT 0 [.agg b.row, .agg (.int .u8 a.kind :: .int .i64 a.n :: a.m.row)]) _ _
  refine wpf_seq1 ?_
  conv => whnf
  rcases h7 with rfl | rfl | rfl | rfl | rfl | rfl | rfl
  · by_cases hf : 8 ≤ b.len ∨ 2147483647 ≤ b.next
    · rw [if_pos hf] at hput hputD
      rw [hput] at c1
      rw [if_pos rfl, hputD]
      repeat' ((first | refine brP_t (by assumption) ?_ | refine brP_f (by assumption) ?_ | refine brP_t (decide_eq_true (by omega)) ?_ | refine brP_f (decide_eq_false (by omega)) ?_ | refine brP_t (nd_t (by omega)) ?_ | refine brP_f (nd_f (by omega)) ?_ | ((rw [hk])) | refine callK_p c1 ?_ | refine callM_p c1 rfl ?_ | refine callK_pf rfl c1 ?_ | refine wpfS_seq1 ?_ | refine wpfS_go ?_ | fail) <;> conv => whnf)
      rfl
    · rw [if_neg hf] at hput hputD
      rw [hput] at c1
      rw [if_pos rfl, hputD]
      repeat' ((first | refine brP_t (by assumption) ?_ | refine brP_f (by assumption) ?_ | refine brP_t (decide_eq_true (by omega)) ?_ | refine brP_f (decide_eq_false (by omega)) ?_ | refine brP_t (nd_t (by omega)) ?_ | refine brP_f (nd_f (by omega)) ?_ | ((rw [hk])) | refine callK_p c1 ?_ | refine callM_p c1 rfl ?_ | refine callK_pf rfl c1 ?_ | refine wpfS_seq1 ?_ | refine wpfS_go ?_ | fail) <;> conv => whnf)
      rfl
  · by_cases hf : b.q = []
    · rw [if_pos hf] at htake htakeD c2
      rw [htake] at c2
      rw [if_neg (by decide), if_pos rfl, htakeD]
      rw [hhd hf] at c2
      repeat' ((first | refine brP_t (by assumption) ?_ | refine brP_f (by assumption) ?_ | refine brP_t (decide_eq_true (by omega)) ?_ | refine brP_f (decide_eq_false (by omega)) ?_ | refine brP_t (nd_t (by omega)) ?_ | refine brP_f (nd_f (by omega)) ?_ | ((rw [hk])) | refine callK_p c2 ?_ | refine callM_p c2 rfl ?_ | refine callK_pf rfl c2 ?_ | refine wpfS_seq1 ?_ | refine wpfS_go ?_ | fail) <;> conv => whnf)
      rfl
    · rw [if_neg hf] at htake htakeD c2
      rw [htake] at c2
      rw [if_neg (by decide), if_pos rfl, htakeD]
      repeat' ((first | refine brP_t (by assumption) ?_ | refine brP_f (by assumption) ?_ | refine brP_t (decide_eq_true (by omega)) ?_ | refine brP_f (decide_eq_false (by omega)) ?_ | refine brP_t (nd_t (by omega)) ?_ | refine brP_f (nd_f (by omega)) ?_ | ((rw [hk])) | refine callK_p c2 ?_ | refine callM_p c2 rfl ?_ | refine callK_pf rfl c2 ?_ | refine wpfS_seq1 ?_ | refine wpfS_go ?_ | fail) <;> conv => whnf)
      rfl
  · rw [if_neg (by decide), if_neg (by decide), if_pos rfl]
    repeat' ((first | refine brP_t (by assumption) ?_ | refine brP_f (by assumption) ?_ | refine brP_t (decide_eq_true (by omega)) ?_ | refine brP_f (decide_eq_false (by omega)) ?_ | refine brP_t (nd_t (by omega)) ?_ | refine brP_f (nd_f (by omega)) ?_ | ((rw [hk])) | refine callK_p c3 ?_ | refine callM_p c3 rfl ?_ | refine callK_pf rfl c3 ?_ | refine wpfS_seq1 ?_ | refine wpfS_go ?_ | fail) <;> conv => whnf)
    rfl
  · rw [if_neg (by decide), if_neg (by decide), if_neg (by decide), if_pos rfl]
    repeat' ((first | refine brP_t (by assumption) ?_ | refine brP_f (by assumption) ?_ | refine brP_t (decide_eq_true (by omega)) ?_ | refine brP_f (decide_eq_false (by omega)) ?_ | refine brP_t (nd_t (by omega)) ?_ | refine brP_f (nd_f (by omega)) ?_ | ((rw [hk])) | refine callK_r (EvR.fr [_] c4 rfl rfl ⟨rfl, trivial⟩ rfl) ?_ | refine callM_l (LEv.fr [_] c4 rfl rfl ⟨rfl, trivial⟩ rfl rfl) ?_ | refine callK_rt (EvR.fr [_] c4 rfl rfl ⟨rfl, trivial⟩ rfl) ?_ | refine callK_rf rfl (EvR.fr [_] c4 rfl rfl ⟨rfl, trivial⟩ rfl) ?_ | refine callK_rft rfl (EvR.fr [_] c4 rfl rfl ⟨rfl, trivial⟩ rfl) ?_ | refine wpfS_seq1 ?_ | refine wpfS_go ?_ | fail) <;> conv => whnf)
    rfl
  · rw [if_neg (by decide), if_neg (by decide), if_neg (by decide), if_neg (by decide), if_pos rfl]
    repeat' ((first | refine brP_t (by assumption) ?_ | refine brP_f (by assumption) ?_ | refine brP_t (decide_eq_true (by omega)) ?_ | refine brP_f (decide_eq_false (by omega)) ?_ | refine brP_t (nd_t (by omega)) ?_ | refine brP_f (nd_f (by omega)) ?_ | ((rw [hk])) | refine callK_p c5 ?_ | refine callM_p c5 rfl ?_ | refine callK_pf rfl c5 ?_ | refine wpfS_seq1 ?_ | refine wpfS_go ?_ | fail) <;> conv => whnf)
    rfl
  · rw [if_neg (by decide), if_neg (by decide), if_neg (by decide), if_neg (by decide), if_neg (by decide), if_pos rfl]
    repeat' ((first | refine brP_t (by assumption) ?_ | refine brP_f (by assumption) ?_ | refine brP_t (decide_eq_true (by omega)) ?_ | refine brP_f (decide_eq_false (by omega)) ?_ | refine brP_t (nd_t (by omega)) ?_ | refine brP_f (nd_f (by omega)) ?_ | ((rw [hk])) | refine callK_p c6 ?_ | refine callM_p c6 rfl ?_ | refine callK_pf rfl c6 ?_ | refine wpfS_seq1 ?_ | refine wpfS_go ?_ | fail) <;> conv => whnf)
    rfl
  · rw [if_neg (by decide), if_neg (by decide), if_neg (by decide), if_neg (by decide), if_neg (by decide), if_neg (by decide)]
    repeat' ((first | refine brP_t (by assumption) ?_ | refine brP_f (by assumption) ?_ | refine brP_t (decide_eq_true (by omega)) ?_ | refine brP_f (decide_eq_false (by omega)) ?_ | refine brP_t (nd_t (by omega)) ?_ | refine brP_f (nd_f (by omega)) ?_ | ((rw [hk])) | refine callK_r (EvR.fr [_] c7 rfl rfl ⟨rfl, trivial⟩ rfl) ?_ | refine callM_l (LEv.fr [_] c7 rfl rfl ⟨rfl, trivial⟩ rfl rfl) ?_ | refine callK_rt (EvR.fr [_] c7 rfl rfl ⟨rfl, trivial⟩ rfl) ?_ | refine callK_rf rfl (EvR.fr [_] c7 rfl rfl ⟨rfl, trivial⟩ rfl) ?_ | refine callK_rft rfl (EvR.fr [_] c7 rfl rfl ⟨rfl, trivial⟩ rfl) ?_ | refine wpfS_seq1 ?_ | refine wpfS_go ?_ | fail) <;> conv => whnf)
    rfl
set_option maxHeartbeats 4000000 in
theorem R23_Done_ok (b : Bx) (a : Act) (hg : b.Good) : EvP PR G f_R23_Done [.agg b.row, .agg a.row] (resD (doR b a)) := by
  have hl := hg.len
  have hlen : b.len = b.q.length + b.a.length + b.h.length := rfl
  have c1 := R23_Put_ok b a.m hg
  have c2 := R23_Take_ok b (by omega)
  have c3 := R23_SetAside_ok b hg
  have c4 := R23_Let_ok b (fun m => decide (m.role = a.n)) hg
  have c8 := R23_Roles_ok b a.n (by omega)
  have c5 := R23_Restore_ok b hg
  have c6 : EvP PR G f_R23_Forget [.agg b.row] (.agg b.forget.row) := R23_Forget_ok b
  have c7 := R23_Each_ok b a.n (by omega)
  have hput : putR b a.m = if 8 ≤ b.len ∨ 2147483647 ≤ b.next then (Bx.emp, 12) else (b.put a.m, 0) := rfl
  have hputD : putD b a.m = if 8 ≤ b.len ∨ 2147483647 ≤ b.next then (b, msg0, 12) else (b.put a.m, msg0, 0) := rfl
  have htake : takeR b = if b.q = [] then Bx.emp else b.take := rfl
  have htakeD : takeD b = if b.q = [] then (b, msg0, 13) else (b.take, b.q.headD msg0, 0) := rfl
  have hhd : b.q = [] → b.q.headD msg0 = msg0 := fun h => by rw [h]; rfl
  have hdo : doR b a = if a.kind % 7 = 0 then putD b a.m
    else if a.kind % 7 = 1 then takeD b
    else if a.kind % 7 = 2 then (b.aside, msg0, 0)
    else if a.kind % 7 = 3 then (b.letK fun m => decide (m.role = a.n), msg0, 0)
    else if a.kind % 7 = 4 then (b.restore, msg0, 0)
    else if a.kind % 7 = 5 then (b.forget, msg0, 0)
    else (b.each (epM a.n), msg0, 0) := rfl
  rw [hdo]
  have hk := tmod7 a.kind
  have h7 := lt7 a.kind
  generalize a.kind % 7 = r at *
  generalize b.put a.m = x1 at *
  generalize b.take = x2 at *
  generalize b.aside = x3 at *
  generalize (b.letK fun m => decide (m.role = a.n)) = x4 at *
  generalize b.restore = x5 at *
  generalize b.forget = x6 at *
  generalize b.each (epM a.n) = x7 at *
  generalize b.q.headD msg0 = hd at *
  refine EvP.of_wpf false hm c_R23_Done rfl ?_
  show wpf _ _ _ _ _ (argsT 0 [.agg b.row, .agg (.int .u8 a.kind :: .int .i64 a.n :: a.m.row)]) _ _
  refine wpf_seq1 ?_
  conv => whnf
  rcases h7 with rfl | rfl | rfl | rfl | rfl | rfl | rfl
  · by_cases hf : 8 ≤ b.len ∨ 2147483647 ≤ b.next
    · rw [if_pos hf] at hput hputD
      rw [hput] at c1
      rw [if_pos rfl, hputD]
      repeat' ((first | refine brP_t (by assumption) ?_ | refine brP_f (by assumption) ?_ | refine brP_t (decide_eq_true (by omega)) ?_ | refine brP_f (decide_eq_false (by omega)) ?_ | refine brP_t (nd_t (by omega)) ?_ | refine brP_f (nd_f (by omega)) ?_ | ((rw [hk])) | refine callK_p c1 ?_ | refine callM_p c1 rfl ?_ | refine callK_pf rfl c1 ?_ | refine wpfS_seq1 ?_ | refine wpfS_go ?_ | fail) <;> conv => whnf)
      rfl
    · rw [if_neg hf] at hput hputD
      rw [hput] at c1
      rw [if_pos rfl, hputD]
      repeat' ((first | refine brP_t (by assumption) ?_ | refine brP_f (by assumption) ?_ | refine brP_t (decide_eq_true (by omega)) ?_ | refine brP_f (decide_eq_false (by omega)) ?_ | refine brP_t (nd_t (by omega)) ?_ | refine brP_f (nd_f (by omega)) ?_ | ((rw [hk])) | refine callK_p c1 ?_ | refine callM_p c1 rfl ?_ | refine callK_pf rfl c1 ?_ | refine wpfS_seq1 ?_ | refine wpfS_go ?_ | fail) <;> conv => whnf)
      rfl
  · by_cases hf : b.q = []
    · rw [if_pos hf] at htake htakeD c2
      rw [htake] at c2
      rw [if_neg (by decide), if_pos rfl, htakeD]
      rw [hhd hf] at c2
      repeat' ((first | refine brP_t (by assumption) ?_ | refine brP_f (by assumption) ?_ | refine brP_t (decide_eq_true (by omega)) ?_ | refine brP_f (decide_eq_false (by omega)) ?_ | refine brP_t (nd_t (by omega)) ?_ | refine brP_f (nd_f (by omega)) ?_ | ((rw [hk])) | refine callK_p c2 ?_ | refine callM_p c2 rfl ?_ | refine callK_pf rfl c2 ?_ | refine wpfS_seq1 ?_ | refine wpfS_go ?_ | fail) <;> conv => whnf)
      rfl
    · rw [if_neg hf] at htake htakeD c2
      rw [htake] at c2
      rw [if_neg (by decide), if_pos rfl, htakeD]
      repeat' ((first | refine brP_t (by assumption) ?_ | refine brP_f (by assumption) ?_ | refine brP_t (decide_eq_true (by omega)) ?_ | refine brP_f (decide_eq_false (by omega)) ?_ | refine brP_t (nd_t (by omega)) ?_ | refine brP_f (nd_f (by omega)) ?_ | ((rw [hk])) | refine callK_p c2 ?_ | refine callM_p c2 rfl ?_ | refine callK_pf rfl c2 ?_ | refine wpfS_seq1 ?_ | refine wpfS_go ?_ | fail) <;> conv => whnf)
      rfl
  · rw [if_neg (by decide), if_neg (by decide), if_pos rfl]
    repeat' ((first | refine brP_t (by assumption) ?_ | refine brP_f (by assumption) ?_ | refine brP_t (decide_eq_true (by omega)) ?_ | refine brP_f (decide_eq_false (by omega)) ?_ | refine brP_t (nd_t (by omega)) ?_ | refine brP_f (nd_f (by omega)) ?_ | ((rw [hk])) | refine callK_p c3 ?_ | refine callM_p c3 rfl ?_ | refine callK_pf rfl c3 ?_ | refine wpfS_seq1 ?_ | refine wpfS_go ?_ | fail) <;> conv => whnf)
    rfl
  · rw [if_neg (by decide), if_neg (by decide), if_neg (by decide), if_pos rfl]
    repeat' ((first | refine brP_t (by assumption) ?_ | refine brP_f (by assumption) ?_ | refine brP_t (decide_eq_true (by omega)) ?_ | refine brP_f (decide_eq_false (by omega)) ?_ | refine brP_t (nd_t (by omega)) ?_ | refine brP_f (nd_f (by omega)) ?_ | ((rw [hk])) | refine callK_p c4 ?_ | refine callM_p c4 rfl ?_ | refine callK_pf rfl c4 ?_ | refine callK_p c8 ?_ | refine callM_p c8 rfl ?_ | refine callK_pf rfl c8 ?_ | refine wpfS_seq1 ?_ | refine wpfS_go ?_ | fail) <;> conv => whnf)
    rfl
  · rw [if_neg (by decide), if_neg (by decide), if_neg (by decide), if_neg (by decide), if_pos rfl]
    repeat' ((first | refine brP_t (by assumption) ?_ | refine brP_f (by assumption) ?_ | refine brP_t (decide_eq_true (by omega)) ?_ | refine brP_f (decide_eq_false (by omega)) ?_ | refine brP_t (nd_t (by omega)) ?_ | refine brP_f (nd_f (by omega)) ?_ | ((rw [hk])) | refine callK_p c5 ?_ | refine callM_p c5 rfl ?_ | refine callK_pf rfl c5 ?_ | refine wpfS_seq1 ?_ | refine wpfS_go ?_ | fail) <;> conv => whnf)
    rfl
  · rw [if_neg (by decide), if_neg (by decide), if_neg (by decide), if_neg (by decide), if_neg (by decide), if_pos rfl]
    repeat' ((first | refine brP_t (by assumption) ?_ | refine brP_f (by assumption) ?_ | refine brP_t (decide_eq_true (by omega)) ?_ | refine brP_f (decide_eq_false (by omega)) ?_ | refine brP_t (nd_t (by omega)) ?_ | refine brP_f (nd_f (by omega)) ?_ | ((rw [hk])) | refine callK_p c6 ?_ | refine callM_p c6 rfl ?_ | refine callK_pf rfl c6 ?_ | refine wpfS_seq1 ?_ | refine wpfS_go ?_ | fail) <;> conv => whnf)
    rfl
  · rw [if_neg (by decide), if_neg (by decide), if_neg (by decide), if_neg (by decide), if_neg (by decide), if_neg (by decide)]
    repeat' ((first | refine brP_t (by assumption) ?_ | refine brP_f (by assumption) ?_ | refine brP_t (decide_eq_true (by omega)) ?_ | refine brP_f (decide_eq_false (by omega)) ?_ | refine brP_t (nd_t (by omega)) ?_ | refine brP_f (nd_f (by omega)) ?_ | ((rw [hk])) | refine callK_p c7 ?_ | refine callM_p c7 rfl ?_ | refine callK_pf rfl c7 ?_ | refine wpfS_seq1 ?_ | refine wpfS_go ?_ | fail) <;> conv => whnf)
    rfl
end Go.Ab.S
