/- What the program does with mailboxes: putting, taking, each. No condition. What the program does with mailboxes: letting go. No condition. -/
import Derived.Test.YtidmpmdhgiopgaaDoorLK5
import Derived.Test.YtidmpmdhgiopgaaDoorFwH
set_option linter.unusedSimpArgs false
set_option linter.unusedVariables false
namespace Go.Ab.S
open Go Go.Ab Go.Proofs
attribute [local irreducible] SemS
set_option maxRecDepth 100000
theorem cloneM_ok (l : List Msg) (hl : l.length ≤ 2 ^ 30) : EvR PR G f_slices_Clone_api_Message [slv (msgs l)] ⟨[], []⟩ (.c (.os (.loc 0) (msgs l).length)) ⟨[], [.arr 7 false (msgs l)]⟩ :=
  clone_ok (P := PR) (G := G) hm (sz := 7) (bytes := 56) c_slices_Clone_api_Message (by omega) ⟨by rw [msgs_len]; omega, by rw [msgs_len]; omega⟩ (msgs_all l)
def putR (b : Bx) (m : Msg) : Bx × Int := if 8 ≤ b.len ∨ 2147483647 ≤ b.next then (Bx.emp, 12) else (b.put m, 0)
def takeR (b : Bx) : Bx := if b.q = [] then Bx.emp else b.take
theorem get_at {A B : List Msg} {m : Msg} {i : Nat} (h : A.length = i) : (msgs (A ++ m :: B))[i]? = some m.row := by subst h; exact get_mid
theorem set_at {A B : List Msg} {m x : Msg} {i : Nat} (h : A.length = i) : (msgs (A ++ m :: B)).set i x.row = msgs (A ++ x :: B) := by subst h; exact set_mid
/-- Some messages done, the others as they were. -/
def part (f : Msg → Msg) (q : List Msg) (i : Nat) : List Msg := (q.take i).map f ++ q.drop i
theorem part_len {f : Msg → Msg} {q : List Msg} {i : Nat} : (part f q i).length = q.length := by simp only [part, List.length_append, List.length_map, List.length_take, List.length_drop]; omega
theorem part_at {f : Msg → Msg} {q : List Msg} {i : Nat} (h : i < q.length) : ∃ A B, A.length = i ∧ part f q i = A ++ q[i] :: B ∧ part f q (i + 1) = A ++ f q[i] :: B := by
  refine ⟨(q.take i).map f, q.drop (i + 1), by simp; omega, ?_, ?_⟩
  · rw [part, List.drop_eq_getElem_cons h]
  · rw [part, List.take_succ_eq_append_getElem h, List.map_append, List.append_assoc]; rfl
/-- A function value that is handed over: what it does to a message, its own blocks left as they are. -/
def FnM (g : FuncId) (caps : List Id) (bs : List Blk) (m : Msg) (v : AV) : Prop := ∀ ls, EvR PR G g ([.agg m.row] ++ caps.map fun i => .c (.ptr i 0)) ⟨bs, ls⟩ v ⟨bs, ls⟩
set_option maxHeartbeats 1000000 in
theorem box_Each_ok (g : FuncId) (caps : List Id) (bs : List Blk) (hcp : ∀ n, caps.all (underI n) = true) (hbs : ∀ n, bs.all (underB n) = true) (f : Msg → Msg) (b : Bx) (hl : b.q.length ≤ 1000) (hf : ∀ m ∈ b.q, FnM g caps bs m (.agg (f m).row)) :
    EvR PR G f_box_Each [.agg b.row, .c (.fn g caps)] ⟨bs, []⟩ (.agg (b.each f).row) ⟨bs, []⟩ := by
  obtain ⟨n, q, a, h⟩ := b
  dsimp only at hl hf
  have c1 := cloneM_ok q (by omega)
  have hml := msgs_len (l := q)
  show EvR _ _ _ [.agg [.int .i64 n, .sl (msgs q), .sl (msgs a), .sl (msgs h)], _] _ _ _
  refine EvR.of_wpfC false true hm c_box_Each rfl (by show (true && (bs.all (underB 0) && true)) = true; rw [hbs]; rfl) ?_
  refine wpf_seq1 ?_
  conv => whnf
  repeat' ((first | refine brP_t (by assumption) ?_ | refine brP_f (by assumption) ?_ | refine brP_t (decide_eq_true (by omega)) ?_ | refine brP_f (decide_eq_false (by omega)) ?_ | refine brP_t (nd_t (by omega)) ?_ | refine brP_f (nd_f (by omega)) ?_ | refine fBs_mk ?_ | refine callK_r (EvR.fr [] c1 rfl rfl trivial rfl) ?_ | refine callM_l (LEv.fr [] c1 rfl rfl trivial rfl rfl) ?_ | refine callK_rt (EvR.fr [] c1 rfl rfl trivial rfl) ?_ | refine callK_rf rfl (EvR.fr [] c1 rfl rfl trivial rfl) ?_ | refine callK_rft rfl (EvR.fr [] c1 rfl rfl trivial rfl) ?_ | (refine gd_mk ?_ ?_; focus (exact decide_eq_true rfl; done)) | refine wpfS_seq1 ?_ | refine wpfS_go ?_ | fail) <;> conv => whnf)
  refine SemS.loopC false hm (σ := Nat) (fun i => [(13, iv i), (12, iv q.length), (11, .c (.os (.loc 2) q.length)), (5, .c (.os (.loc 2) q.length)), (4, .c (.ptr (.loc 1) 0)), (2, .c (.ptr (.loc 0) 0)), (1, .c (.fn g caps))])
    (fun i => ⟨bs, [.row [.int .i64 n, .sl (msgs q), .sl (msgs a), .sl (msgs h)], .mrow [.p (.int .i64 0), .nils, .nils, .nils], .arr 7 false (msgs (part f q i))]⟩) (fun i => q.length - i) (fun i => i ≤ q.length) 0 (Nat.zero_le _) ⟨rfl, by show iv _ = iv _; rw [hml], by show AV.c (.os _ _) = AV.c (.os _ _); rw [hml], by show AV.c (.os _ _) = AV.c (.os _ _); rw [hml], rfl, rfl, rfl, trivial⟩ rfl ?_
  intro i hi
  refine wpf_seq1 ?_
  conv => whnf
  try (refine wpfS_seq1 ?_; conv => whnf)
  refine brP_mk (fun h => ?_) (fun h => ?_)
  · have hi' : i < q.length := by have := of_decide_eq_true h; omega
    clear h
    have hw2 : IntKind.i64.wrap ((i : Int) + 1) = ((i + 1 : Nat) : Int) := by rw [wrap64 (by omega)]; rfl
    have hpl := part_len (f := f) (q := q) (i := i)
    obtain ⟨A, B, hA, hp, hp1⟩ := part_at (f := f) hi'
    have hfm := hf q[i] (List.getElem_mem hi')
    have hg := get_at (B := B) (m := q[i]) hA
    have hs := set_at (B := B) (m := q[i]) (x := f q[i]) hA
    have hel : (msgs (A ++ q[i] :: B)).length = q.length := by rw [← hp, msgs_len, hpl]
    rw [hp]
    generalize q[i] = m at *
    generalize msgs (A ++ m :: B) = ES at *
    repeat' ((first | refine brP_t (by assumption) ?_ | refine brP_f (by assumption) ?_ | refine brP_t (decide_eq_true (by omega)) ?_ | refine brP_f (decide_eq_false (by omega)) ?_ | refine brP_t (nd_t (by omega)) ?_ | refine brP_f (nd_f (by omega)) ?_ | refine fBs_mk ?_ | ((conv in (opS _ _ _ _) => whnf); rw [Int.toNat_natCast, hg]) | ((conv in (opM _ _ _ _ _) => whnf); (conv in (opS _ _ _ _) => whnf); rw [Int.toNat_natCast, hg]) | (refine gd_mk ?_ ?_; focus (exact decide_eq_true ⟨by omega, by omega, rfl, hel.symm⟩; done)) | (refine gd_mk ?_ ?_; focus (exact decide_eq_true ⟨rfl, Nat.le_refl 7, hel.symm⟩; done)) | refine callK_r (hfm _) ?_ | refine wpfS_seq1 ?_ | refine wpfS_go ?_ | fail) <;> conv => whnf)
    rw [hw2]
    refine ⟨i + 1, 3, hi', (show q.length - (i + 1) < q.length - i by omega), ⟨rfl, rfl, rfl, rfl, rfl, rfl, rfl, trivial⟩, Nat.le_refl _, ?_, ?_, ?_⟩
    · show (⟨bs, [_, _, .arr 7 false (ES.set i (f m).row)]⟩ : Hp) = ⟨bs, [_, _, .arr 7 false (msgs (part f q (i + 1)))]⟩
      rw [hs, hp1]
    · show (true && (true && (true && (true && (true && (true && (caps.all (underI 3) && true))))))) = true
      rw [hcp]; rfl
    · show (bs.all (underB 3) && true) = true
      rw [hbs]; rfl
  · have hi' : i = q.length := by have := of_decide_eq_false h; omega
    subst hi'
    clear h
    have hpf : part f q q.length = q.map f := by simp [part]
    repeat' ((first | refine brP_t (by assumption) ?_ | refine brP_f (by assumption) ?_ | refine brP_t (decide_eq_true (by omega)) ?_ | refine brP_f (decide_eq_false (by omega)) ?_ | refine brP_t (nd_t (by omega)) ?_ | refine brP_f (nd_f (by omega)) ?_ | refine fBs_mk ?_ | (refine gd_mk ?_ ?_; focus (rw [msgs_len, part_len]; simp; done)) | refine wpfS_seq1 ?_ | refine wpfS_go ?_ | fail) <;> conv => whnf)
    refine ⟨?_, rfl⟩
    show AV.agg [_, .sl (msgs (part f q q.length)), _, _] = AV.agg [_, .sl (msgs (q.map f)), _, _]
    rw [hpf]
    rfl
end Go.Ab.S

namespace Go.Ab.S
open Go Go.Ab Go.Proofs
attribute [local irreducible] SemS
set_option maxRecDepth 100000
/-- A function value that tells which messages are kept; its own blocks may turn with each. -/
def FnK (g : FuncId) (caps : List Id) (bs : Nat → List Blk) (a : List Msg) (k : Msg → Bool) : Prop := ∀ i (h : i < a.length), ∀ ls, EvR PR G g ([.agg a[i].row] ++ caps.map fun i => .c (.ptr i 0)) ⟨bs i, ls⟩ (bv (k a[i])) ⟨bs (i + 1), ls⟩
def letH (g : FuncId) (caps : List Id) (bs : List Blk) (n : Int) (q a h l1 l2 : List Msg) : Hp :=
  ⟨bs, [.row [.int .i64 n, .sl (msgs q), .sl (msgs a), .sl (msgs h)], .mrow [.fn g caps], .mrow [.p (.int .i64 0), .nils, .nils, .nils], .mrow [.os (.loc 5) l1.length], .mrow [.os (.loc 6) l2.length], .arr 7 false (msgs l1), .arr 7 false (msgs l2)]⟩
end Go.Ab.S
