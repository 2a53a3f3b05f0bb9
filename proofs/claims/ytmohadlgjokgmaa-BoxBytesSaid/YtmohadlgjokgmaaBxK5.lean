/- What the program does with mailboxes: rising rows, which may be, putting, taking, each. No condition. -/
import Derived.Test.YtmohadlgjokgmaaBxK4
set_option linter.unusedSimpArgs false
set_option linter.unusedVariables false
namespace Go.Ab.S
open Go Go.Ab Go.Proofs
attribute [local irreducible] SemS
set_option maxRecDepth 100000
theorem rising_app (next : Int) : ∀ (l r : List Msg) (last : Int), risingB next last (l ++ r) = (risingB next last l && risingB next (l.getLastD ⟨last, 0, 0, 0, 0, 0, []⟩).no r)
  | [], r, last => rfl
  | m :: l, r, last => by
    simp only [List.cons_append, risingB, rising_app next l r m.no, Bool.and_assoc]
    cases l <;> rfl
def lastNo (l : List Msg) : Int := (l.getLastD ⟨-1, 0, 0, 0, 0, 0, []⟩).no
theorem lastNo_snoc {l : List Msg} {m : Msg} : lastNo (l ++ [m]) = m.no := by simp [lastNo]
theorem rising_take {next : Int} {l : List Msg} {i : Nat} (h : i < l.length) : risingB next (-1) (l.take (i + 1)) = (risingB next (-1) (l.take i) && (l[i].fine && (decide (lastNo (l.take i) < l[i].no) && decide (l[i].no < next)))) := by
  rw [List.take_succ_eq_append_getElem h, rising_app]
  simp only [risingB, Bool.and_true]
  rfl
theorem rising_false {next : Int} {l : List Msg} (i : Nat) (h : risingB next (-1) (l.take i) = false) : risingB next (-1) l = false := by
  rw [← List.take_append_drop i l, rising_app, h, Bool.false_and]
set_option maxHeartbeats 1000000 in
theorem box_rising_ok (next : Int) (l : List Msg) (hl : l.length < 2 ^ 62) : EvP PR G f_box_rising [iv next, slv (msgs l)] (bv (risingB next (-1) l)) := by
  have hml := msgs_len (l := l)
  refine EvP.of_wpf false hm c_box_rising rfl ?_
  refine wpf_seq1 ?_
  conv => whnf
  repeat' ((first | refine brP_t (by assumption) ?_ | refine brP_f (by assumption) ?_ | refine brP_t (decide_eq_true (by omega)) ?_ | refine brP_f (decide_eq_false (by omega)) ?_ | refine brP_t (nd_t (by omega)) ?_ | refine brP_f (nd_f (by omega)) ?_ | ((rw [hml])) | refine wpfS_seq1 ?_ | refine wpfS_go ?_ | fail) <;> conv => whnf)
  refine SemS.loopC false hm (σ := Nat) (fun i => [(10, iv i), (5, iv (lastNo (l.take i))), (9, iv l.length), (8, slv (msgs l)), (0, iv next)]) (fun _ => ⟨[], []⟩) (fun i => l.length - i) (fun i => i ≤ l.length ∧ risingB next (-1) (l.take i) = true) 0 ⟨Nat.zero_le _, rfl⟩ ⟨rfl, rfl, rfl, rfl, rfl, trivial⟩ rfl ?_
  rintro i ⟨hi, hr⟩
  refine wpf_seq1 ?_
  conv => whnf
  try (refine wpfS_seq1 ?_; conv => whnf)
  refine brP_mk (fun h => ?_) (fun h => ?_)
  · have hi' : i < l.length := by have := of_decide_eq_true h; omega
    clear h
    have hget := msgs_get hi'
    have hw2 : IntKind.i64.wrap ((i : Int) + 1) = ((i + 1 : Nat) : Int) := by rw [wrap64 (by omega)]; rfl
    have hf := message_Fine_ok l[i]
    have hst := rising_take (next := next) hi'
    have hlast : lastNo (l.take (i + 1)) = l[i].no := by rw [List.take_succ_eq_append_getElem hi', lastNo_snoc]
    rw [hr, Bool.true_and] at hst
    have hff := rising_false (next := next) (l := l) (i + 1)
    generalize l[i] = m at *
    generalize lastNo (l.take i) = last at *
    obtain ⟨no, ep, s, i', role, used, data⟩ := m
    generalize hfm : (Msg.mk no ep s i' role used data).fine = fm at *
    dsimp only at hst hlast
    have hget : (msgs l)[i]? = some [.int .i64 no, .int .i64 ep, .int .u16 s, .int .u16 i', .int .i64 role, .int .u16 used, .str data] := hget
    cases fm with
    | false =>
      repeat' ((first | refine brP_t (by assumption) ?_ | refine brP_f (by assumption) ?_ | refine brP_t (decide_eq_true (by omega)) ?_ | refine brP_f (decide_eq_false (by omega)) ?_ | refine brP_t (nd_t (by omega)) ?_ | refine brP_f (nd_f (by omega)) ?_ | ((conv in (opS _ _ _ _) => whnf); rw [Int.toNat_natCast, hget]) | ((conv in (opM _ _ _ _ _) => whnf); (conv in (opS _ _ _ _) => whnf); rw [Int.toNat_natCast, hget]) | refine callK_p hf ?_ | refine callM_p hf rfl ?_ | refine callK_pf rfl hf ?_ | refine wpfS_seq1 ?_ | refine wpfS_go ?_ | fail) <;> conv => whnf)
      rw [hff (by rw [hst]; rfl)]
      rfl
    | true =>
      by_cases h1 : last < no
      · by_cases h2 : no < next
        · repeat' ((first | refine brP_t (by assumption) ?_ | refine brP_f (by assumption) ?_ | refine brP_t (decide_eq_true (by omega)) ?_ | refine brP_f (decide_eq_false (by omega)) ?_ | refine brP_t (nd_t (by omega)) ?_ | refine brP_f (nd_f (by omega)) ?_ | ((conv in (opS _ _ _ _) => whnf); rw [Int.toNat_natCast, hget]) | ((conv in (opM _ _ _ _ _) => whnf); (conv in (opS _ _ _ _) => whnf); rw [Int.toNat_natCast, hget]) | refine callK_p hf ?_ | refine callM_p hf rfl ?_ | refine callK_pf rfl hf ?_ | refine wpfS_seq1 ?_ | refine wpfS_go ?_ | fail) <;> conv => whnf)
          rw [hw2]
          exact ⟨i + 1, 0, ⟨hi', by rw [hst, decide_eq_true h1, decide_eq_true h2]; rfl⟩, (show l.length - (i + 1) < l.length - i by omega), ⟨rfl, by show iv _ = iv _; rw [hlast], rfl, rfl, rfl, trivial⟩, Nat.le_refl _, rfl, rfl, rfl⟩
        · repeat' ((first | refine brP_t (by assumption) ?_ | refine brP_f (by assumption) ?_ | refine brP_t (decide_eq_true (by omega)) ?_ | refine brP_f (decide_eq_false (by omega)) ?_ | refine brP_t (nd_t (by omega)) ?_ | refine brP_f (nd_f (by omega)) ?_ | ((conv in (opS _ _ _ _) => whnf); rw [Int.toNat_natCast, hget]) | ((conv in (opM _ _ _ _ _) => whnf); (conv in (opS _ _ _ _) => whnf); rw [Int.toNat_natCast, hget]) | refine callK_p hf ?_ | refine callM_p hf rfl ?_ | refine callK_pf rfl hf ?_ | refine wpfS_seq1 ?_ | refine wpfS_go ?_ | fail) <;> conv => whnf)
          rw [hff (by rw [hst, decide_eq_false h2]; simp)]
          rfl
      · repeat' ((first | refine brP_t (by assumption) ?_ | refine brP_f (by assumption) ?_ | refine brP_t (decide_eq_true (by omega)) ?_ | refine brP_f (decide_eq_false (by omega)) ?_ | refine brP_t (nd_t (by omega)) ?_ | refine brP_f (nd_f (by omega)) ?_ | ((conv in (opS _ _ _ _) => whnf); rw [Int.toNat_natCast, hget]) | ((conv in (opM _ _ _ _ _) => whnf); (conv in (opS _ _ _ _) => whnf); rw [Int.toNat_natCast, hget]) | refine callK_p hf ?_ | refine callM_p hf rfl ?_ | refine callK_pf rfl hf ?_ | refine wpfS_seq1 ?_ | refine wpfS_go ?_ | fail) <;> conv => whnf)
        rw [hff (by rw [hst, decide_eq_false h1]; rfl)]
        rfl
  · have hi' : i = l.length := by have := of_decide_eq_false h; omega
    subst hi'
    clear h
    rw [List.take_length] at hr
    repeat' ((first | refine brP_t (by assumption) ?_ | refine brP_f (by assumption) ?_ | refine brP_t (decide_eq_true (by omega)) ?_ | refine brP_f (decide_eq_false (by omega)) ?_ | refine brP_t (nd_t (by omega)) ?_ | refine brP_f (nd_f (by omega)) ?_ | refine wpfS_seq1 ?_ | refine wpfS_go ?_ | fail) <;> conv => whnf)
    rw [hr]
    rfl
set_option maxHeartbeats 1000000 in
theorem box_Fine_ok (b : Bx) (hb : b.len < 2 ^ 61) : EvP PR G f_box_Fine [.agg b.row] (bv b.fine) := by
  have c0 := box_Len_ok b (by omega)
  have hlen : b.len = b.q.length + b.a.length + b.h.length := rfl
  have c1 := box_rising_ok b.next b.q (by omega)
  have c2 := box_rising_ok b.next b.a (by omega)
  have c3 := box_rising_ok b.next b.h (by omega)
  have hfin : b.fine = (decide (b.len ≤ 8) && (decide (0 ≤ b.next) && (decide (b.next ≤ 2147483647) && (risingB b.next (-1) b.q && (risingB b.next (-1) b.a && (risingB b.next (-1) b.h && risingB b.next (-1) (isort b.all))))))) := rfl
  rw [hfin]
  have c4 : b.len ≤ 8 → EvP PR G f_box_merge [slv [[.sl (msgs b.q)], [.sl (msgs b.a)], [.sl (msgs b.h)]]] (slv (msgs (isort b.all))) := fun h => merge3_ok b.q b.a b.h (by omega)
  have hil : b.len ≤ 8 → (isort b.all).length < 2 ^ 62 := fun h => by rw [(isort_perm _).length_eq, b.all_len]; omega
  have c5 : b.len ≤ 8 → EvP PR G f_box_rising [iv b.next, slv (msgs (isort b.all))] (bv (risingB b.next (-1) (isort b.all))) := fun h => box_rising_ok _ _ (hil h)
  generalize isort b.all = X at *
  obtain ⟨n, q, a, h⟩ := b
  dsimp only at *
  generalize (Bx.mk n q a h).len = L at *
  generalize risingB n (-1) q = r1 at *
  generalize risingB n (-1) a = r2 at *
  generalize risingB n (-1) h = r3 at *
  generalize risingB n (-1) X = r4 at *
  show EvP PR G f_box_Fine [.agg [.int .i64 n, .sl (msgs q), .sl (msgs a), .sl (msgs h)]] _
  refine EvP.of_wpf false hm c_box_Fine rfl ?_
  refine wpf_seq1 ?_
  conv => whnf
  by_cases h1 : L ≤ 8
  · have c4 := c4 h1
    have c5 := c5 h1
    rw [decide_eq_true h1]
    by_cases h2 : 0 ≤ n
    · rw [decide_eq_true h2]
      by_cases h3 : n ≤ 2147483647
      · rw [decide_eq_true h3]
        cases r1 with
        | false =>
          repeat' ((first | refine brP_t (by assumption) ?_ | refine brP_f (by assumption) ?_ | refine brP_t (decide_eq_true (by omega)) ?_ | refine brP_f (decide_eq_false (by omega)) ?_ | refine brP_t (nd_t (by omega)) ?_ | refine brP_f (nd_f (by omega)) ?_ | refine callK_p c0 ?_ | refine callM_p c0 rfl ?_ | refine callK_pf rfl c0 ?_ | refine callK_p c1 ?_ | refine callM_p c1 rfl ?_ | refine callK_pf rfl c1 ?_ | refine wpfS_seq1 ?_ | refine wpfS_go ?_ | fail) <;> conv => whnf)
          rfl
        | true =>
          cases r2 with
          | false =>
            repeat' ((first | refine brP_t (by assumption) ?_ | refine brP_f (by assumption) ?_ | refine brP_t (decide_eq_true (by omega)) ?_ | refine brP_f (decide_eq_false (by omega)) ?_ | refine brP_t (nd_t (by omega)) ?_ | refine brP_f (nd_f (by omega)) ?_ | refine callK_p c0 ?_ | refine callM_p c0 rfl ?_ | refine callK_pf rfl c0 ?_ | refine callK_p c1 ?_ | refine callM_p c1 rfl ?_ | refine callK_pf rfl c1 ?_ | refine callK_p c2 ?_ | refine callM_p c2 rfl ?_ | refine callK_pf rfl c2 ?_ | refine wpfS_seq1 ?_ | refine wpfS_go ?_ | fail) <;> conv => whnf)
            rfl
          | true =>
            cases r3 with
            | false =>
              repeat' ((first | refine brP_t (by assumption) ?_ | refine brP_f (by assumption) ?_ | refine brP_t (decide_eq_true (by omega)) ?_ | refine brP_f (decide_eq_false (by omega)) ?_ | refine brP_t (nd_t (by omega)) ?_ | refine brP_f (nd_f (by omega)) ?_ | refine callK_p c0 ?_ | refine callM_p c0 rfl ?_ | refine callK_pf rfl c0 ?_ | refine callK_p c1 ?_ | refine callM_p c1 rfl ?_ | refine callK_pf rfl c1 ?_ | refine callK_p c2 ?_ | refine callM_p c2 rfl ?_ | refine callK_pf rfl c2 ?_ | refine callK_p c3 ?_ | refine callM_p c3 rfl ?_ | refine callK_pf rfl c3 ?_ | refine wpfS_seq1 ?_ | refine wpfS_go ?_ | fail) <;> conv => whnf)
              rfl
            | true =>
              repeat' ((first | refine brP_t (by assumption) ?_ | refine brP_f (by assumption) ?_ | refine brP_t (decide_eq_true (by omega)) ?_ | refine brP_f (decide_eq_false (by omega)) ?_ | refine brP_t (nd_t (by omega)) ?_ | refine brP_f (nd_f (by omega)) ?_ | refine callK_p c0 ?_ | refine callM_p c0 rfl ?_ | refine callK_pf rfl c0 ?_ | refine callK_p c1 ?_ | refine callM_p c1 rfl ?_ | refine callK_pf rfl c1 ?_ | refine callK_p c2 ?_ | refine callM_p c2 rfl ?_ | refine callK_pf rfl c2 ?_ | refine callK_p c3 ?_ | refine callM_p c3 rfl ?_ | refine callK_pf rfl c3 ?_ | refine callK_p c4 ?_ | refine callM_p c4 rfl ?_ | refine callK_pf rfl c4 ?_ | refine callK_p c5 ?_ | refine callM_p c5 rfl ?_ | refine callK_pf rfl c5 ?_ | refine wpfS_seq1 ?_ | refine wpfS_go ?_ | fail) <;> conv => whnf)
              rfl
      · rw [decide_eq_false h3]
        repeat' ((first | refine brP_t (by assumption) ?_ | refine brP_f (by assumption) ?_ | refine brP_t (decide_eq_true (by omega)) ?_ | refine brP_f (decide_eq_false (by omega)) ?_ | refine brP_t (nd_t (by omega)) ?_ | refine brP_f (nd_f (by omega)) ?_ | refine callK_p c0 ?_ | refine callM_p c0 rfl ?_ | refine callK_pf rfl c0 ?_ | refine wpfS_seq1 ?_ | refine wpfS_go ?_ | fail) <;> conv => whnf)
        rfl
    · rw [decide_eq_false h2]
      repeat' ((first | refine brP_t (by assumption) ?_ | refine brP_f (by assumption) ?_ | refine brP_t (decide_eq_true (by omega)) ?_ | refine brP_f (decide_eq_false (by omega)) ?_ | refine brP_t (nd_t (by omega)) ?_ | refine brP_f (nd_f (by omega)) ?_ | refine callK_p c0 ?_ | refine callM_p c0 rfl ?_ | refine callK_pf rfl c0 ?_ | refine wpfS_seq1 ?_ | refine wpfS_go ?_ | fail) <;> conv => whnf)
      rfl
  · rw [decide_eq_false h1]
    repeat' ((first | refine brP_t (by assumption) ?_ | refine brP_f (by assumption) ?_ | refine brP_t (decide_eq_true (by omega)) ?_ | refine brP_f (decide_eq_false (by omega)) ?_ | refine brP_t (nd_t (by omega)) ?_ | refine brP_f (nd_f (by omega)) ?_ | refine callK_p c0 ?_ | refine callM_p c0 rfl ?_ | refine callK_pf rfl c0 ?_ | refine wpfS_seq1 ?_ | refine wpfS_go ?_ | fail) <;> conv => whnf)
    rfl
end Go.Ab.S
