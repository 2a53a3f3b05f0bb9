/- What the program does with mailboxes: putting, taking, each. No condition. -/
import Derived.Test.YtmohadlgjokgmaaBxK5
import Derived.Test.YtmohadlgjokgmaaFwH
set_option linter.unusedSimpArgs false
set_option linter.unusedVariables false
namespace Go.Ab.S
open Go Go.Ab Go.Proofs
attribute [local irreducible] SemS
set_option maxRecDepth 100000
theorem cloneM_ok (l : List Msg) (hl : l.length ≤ 2 ^ 30) : EvR PR G f_slices_Clone_api_Message [slv (msgs l)] ⟨[], []⟩ (.c (.os (.loc 0) (msgs l).length)) ⟨[], [.arr 7 false (msgs l)]⟩ :=
  clone_ok (P := PR) (G := G) hm (sz := 7) (bytes := 56) c_slices_Clone_api_Message (by omega) ⟨by rw [msgs_len]; omega, by rw [msgs_len]; omega⟩ (msgs_all l)
def putR (b : Bx) (m : Msg) : Bx × Int := if 8 ≤ b.len ∨ 2147483647 ≤ b.next then (Bx.emp, 12) else (b.put m, 0)
set_option maxHeartbeats 1000000 in
theorem box_Put_ok (b : Bx) (m : Msg) (hb : b.len < 2 ^ 60) (hn : in64 b.next) : EvP PR G f_box_Put [.agg b.row, .agg m.row] (.tup [.agg (putR b m).1.row, iv (putR b m).2]) := by
  have c0 := box_Len_ok b (by omega)
  have hlen : b.len = b.q.length + b.a.length + b.h.length := rfl
  have hput : putR b m = if 8 ≤ b.len ∨ 2147483647 ≤ b.next then (Bx.emp, 12) else (b.put m, 0) := rfl
  obtain ⟨n, q, a, h⟩ := b
  obtain ⟨no, ep, s, i', role, used, data⟩ := m
  obtain ⟨hn1, hn2⟩ := hn
  dsimp only at *
  have hql := msgs_len (l := q)
  have hqa : q.length ≤ (Bx.mk n q a h).len := by rw [hlen]; omega
  have c1 : (Bx.mk n q a h).len < 8 → _ := fun h => cloneM_ok q (by omega)
  have hall := msgs_all q
  generalize (Bx.mk n q a h).len = L at *
  rw [hput]
  refine EvP.of_wpf false hm c_box_Put rfl ?_
  show wpf _ _ _ _ _ (argsT 0 [.agg [.int .i64 n, .sl (msgs q), .sl (msgs a), .sl (msgs h)], .agg [.int .i64 no, .int .i64 ep, .int .u16 s, .int .u16 i', .int .i64 role, .int .u16 used, .str data]]) _ _
  conv => whnf
  by_cases h1 : 8 ≤ L
  · rw [if_pos (.inl h1)]
    repeat' ((first | refine brP_t (by assumption) ?_ | refine brP_f (by assumption) ?_ | refine brP_t (decide_eq_true (by omega)) ?_ | refine brP_f (decide_eq_false (by omega)) ?_ | refine brP_t (nd_t (by omega)) ?_ | refine brP_f (nd_f (by omega)) ?_ | refine callK_p c0 ?_ | refine callM_p c0 rfl ?_ | refine callK_pf rfl c0 ?_ | refine wpfS_seq1 ?_ | refine wpfS_go ?_ | fail) <;> conv => whnf)
    rfl
  · by_cases h2 : 2147483647 ≤ n
    · rw [if_pos (.inr h2)]
      repeat' ((first | refine brP_t (by assumption) ?_ | refine brP_f (by assumption) ?_ | refine brP_t (decide_eq_true (by omega)) ?_ | refine brP_f (decide_eq_false (by omega)) ?_ | refine brP_t (nd_t (by omega)) ?_ | refine brP_f (nd_f (by omega)) ?_ | refine callK_p c0 ?_ | refine callM_p c0 rfl ?_ | refine callK_pf rfl c0 ?_ | refine wpfS_seq1 ?_ | refine wpfS_go ?_ | fail) <;> conv => whnf)
      rfl
    · rw [if_neg (by omega)]
      have c1 := c1 (by omega)
      have hw : IntKind.i64.wrap (n + 1) = n + 1 := wrap64 (by omega)
      repeat' ((first | refine brP_t (by assumption) ?_ | refine brP_f (by assumption) ?_ | refine brP_t (decide_eq_true (by omega)) ?_ | refine brP_f (decide_eq_false (by omega)) ?_ | refine brP_t (nd_t (by omega)) ?_ | refine brP_f (nd_f (by omega)) ?_ | refine callK_p c0 ?_ | refine callM_p c0 rfl ?_ | refine callK_pf rfl c0 ?_ | refine callM_own 4 rfl (OwnNew.of c1 rfl rfl) rfl ?_ | ((rw [hw])) | (refine gd_mk ?_ ?_; focus (rw [Bool.and_eq_true, Bool.and_eq_true]; exact ⟨⟨rfl, decide_eq_true ⟨rfl, rfl, by rw [hql]; show (q.length + 1) * 56 ≤ _; omega, by rw [hql]; show q.length + 1 < _; omega⟩⟩, rfl⟩; done)) | (refine gd_mk ?_ ?_; focus (simp; done)) | refine wpfS_seq1 ?_ | refine wpfS_go ?_ | fail) <;> conv => whnf)
      show _ = AV.tup [.agg [.int .i64 (n + 1), .sl (msgs (q ++ [⟨n, ep, s, i', role, used, data⟩])), .sl (msgs a), .sl (msgs h)], iv 0]
      rw [msgs_app]
      rfl
def takeR (b : Bx) : Bx := if b.q = [] then Bx.emp else b.take
set_option maxHeartbeats 1000000 in
theorem box_Take_ok (b : Bx) (hb : b.q.length ≤ 1000) : EvP PR G f_box_Take [.agg b.row] (.tup [.agg (takeR b).row, .agg (b.q.headD msg0).row, iv (if b.q = [] then 13 else 0)]) := by
  have c0 := box_First_ok b
  obtain ⟨n, q, a, h⟩ := b
  cases q with
  | nil =>
    refine EvP.of_wpf false hm c_box_Take rfl ?_
    conv => whnf
    repeat' ((first | refine brP_t (by assumption) ?_ | refine brP_f (by assumption) ?_ | refine brP_t (decide_eq_true (by omega)) ?_ | refine brP_f (decide_eq_false (by omega)) ?_ | refine brP_t (nd_t (by omega)) ?_ | refine brP_f (nd_f (by omega)) ?_ | refine callK_p c0 ?_ | refine callM_p c0 rfl ?_ | refine callK_pf rfl c0 ?_ | refine wpfS_seq1 ?_ | refine wpfS_go ?_ | fail) <;> conv => whnf)
    rfl
  | cons m q =>
    have hb : q.length + 1 ≤ 1000 := hb
    have c1 := cloneM_ok q (by omega)
    have e0 : (if m :: q = [] then (13 : Int) else 0) = 0 := if_neg (by simp)
    dsimp only at c0
    rw [e0] at c0
    show EvP _ _ _ [.agg [.int .i64 n, .sl (msgs (m :: q)), .sl (msgs a), .sl (msgs h)]] (.tup [_, _, iv (if m :: q = [] then (13 : Int) else 0)])
    rw [e0]
    refine EvP.of_wpf false hm c_box_Take rfl ?_
    conv => whnf
    have hd : List.drop (Int.toNat 1) (List.take (msgs (m :: q)).length (msgs (m :: q))) = msgs q := by rw [List.take_length]; rfl
    have hml : (msgs (m :: q)).length = q.length + 1 := msgs_len
    repeat' ((first | refine brP_t (by assumption) ?_ | refine brP_f (by assumption) ?_ | refine brP_t (decide_eq_true (by omega)) ?_ | refine brP_f (decide_eq_false (by omega)) ?_ | refine brP_t (nd_t (by omega)) ?_ | refine brP_f (nd_f (by omega)) ?_ | refine callK_p c0 ?_ | refine callM_p c0 rfl ?_ | refine callK_pf rfl c0 ?_ | (refine gd_mk ?_ ?_; focus (rw [msgs_all, hml]; simp; done)) | ((rw [hd])) | refine callK_r (EvR.fr [] c1 rfl rfl trivial rfl) ?_ | refine callM_l (LEv.fr [] c1 rfl rfl trivial rfl rfl) ?_ | refine callK_rt (EvR.fr [] c1 rfl rfl trivial rfl) ?_ | refine callK_rf rfl (EvR.fr [] c1 rfl rfl trivial rfl) ?_ | refine callK_rft rfl (EvR.fr [] c1 rfl rfl trivial rfl) ?_ | (refine gd_mk ?_ ?_; focus (simp; done)) | refine wpfS_seq1 ?_ | refine wpfS_go ?_ | fail) <;> conv => whnf)
    rfl
theorem get_at {A B : List Msg} {m : Msg} {i : Nat} (h : A.length = i) : (msgs (A ++ m :: B))[i]? = some m.row := by subst h; exact get_mid
theorem set_at {A B : List Msg} {m x : Msg} {i : Nat} (h : A.length = i) : (msgs (A ++ m :: B)).set i x.row = msgs (A ++ x :: B) := by subst h; exact set_mid
/-- Some messages done, the others as they were. -/
def part (f : Msg → Msg) (q : List Msg) (i : Nat) : List Msg := (q.take i).map f ++ q.drop i
theorem part_len {f : Msg → Msg} {q : List Msg} {i : Nat} : (part f q i).length = q.length := by simp only [part, List.length_append, List.length_map, List.length_take, List.length_drop]; omega
theorem part_at {f : Msg → Msg} {q : List Msg} {i : Nat} (h : i < q.length) : ∃ A B, A.length = i ∧ part f q i = A ++ q[i] :: B ∧ part f q (i + 1) = A ++ f q[i] :: B := by
  refine ⟨(q.take i).map f, q.drop (i + 1), by simp; omega, ?_, ?_⟩
  · rw [part, List.drop_eq_getElem_cons h]
  · rw [part, List.take_succ_eq_append_getElem h, List.map_append, List.append_assoc]; rfl
/-- A function value that is handed over: what it does to a message, its own blocks left as they are. -/
def FnM (g : FuncId) (caps : List Id) (bs : List Blk) (m : Msg) (v : AV) : Prop := ∀ ls, EvR PR G g ([.agg m.row] ++ caps.map fun i => .c (.ptr i 0)) ⟨bs, ls⟩ v ⟨bs, ls⟩
end Go.Ab.S
