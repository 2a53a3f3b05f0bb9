/- The document's mailboxes: which may be, letting go, each. No condition. -/
import Derived.Test.YtidmpmdhgiopgaaDoorLK12
set_option linter.unusedSimpArgs false
set_option linter.unusedVariables false
namespace Go.Ab.S
open Go Go.Ab Go.Proofs
attribute [local irreducible] SemS
set_option maxRecDepth 100000
theorem lastNo_take {l : List Msg} {i : Nat} (h : i < l.length) : lastNo (l.take (i + 1)) = l[i].no := by rw [List.take_succ_eq_append_getElem h, lastNo_snoc]
set_option maxHeartbeats 2000000 in
theorem R23_row_ok (next : Int) (l : List Msg) (hl : l.length < 2 ^ 62) : EvP PR G f_R23_row [slv (msgs l), iv next] (bv (risingB next (-1) l)) := by
  have hml := msgs_len (l := l)
  refine EvP.of_wpf false hm c_R23_row rfl ?_
  refine wpf_seq1 ?_
  conv => whnf
  repeat' ((first | refine brP_t (by assumption) ?_ | refine brP_f (by assumption) ?_ | refine brP_t (decide_eq_true (by omega)) ?_ | refine brP_f (decide_eq_false (by omega)) ?_ | refine brP_t (nd_t (by omega)) ?_ | refine brP_f (nd_f (by omega)) ?_ | refine wpfS_seq1 ?_ | refine wpfS_go ?_ | fail) <;> conv => whnf)
  refine SemS.loopF false hm (σ := Nat) (fun i => [(5, iv i), (0, slv (msgs l)), (1, iv next)]) (fun _ => ⟨[], []⟩) (fun i => l.length - i) (fun i => i ≤ l.length ∧ risingB next (-1) (l.take i) = true) 0 ⟨Nat.zero_le _, rfl⟩ ⟨rfl, rfl, rfl, trivial⟩ rfl ?_
  rintro i ⟨hi, hr⟩
  refine wpf_seq1 ?_
  conv => whnf
  rw [hml]
  refine brP_mk (fun h => ?_) (fun h => ?_)
  · have hi' : i < l.length := by have := of_decide_eq_true h; omega
    clear h
    have hget := msgs_get hi'
    have hw2 : IntKind.i64.wrap ((i : Int) + 1) = ((i + 1 : Nat) : Int) := by rw [wrap64 (by omega)]; rfl
    have hf := R22_Fine_ok l[i]
    have hst := rising_take (next := next) hi'
    rw [hr, Bool.true_and] at hst
    have hff := rising_false (next := next) (l := l) (i + 1)
    have hprev : ∀ j, i = j + 1 → ∃ x : Msg, (msgs l)[j]? = some x.row ∧ lastNo (l.take i) = x.no := by
      rintro j rfl
      exact ⟨l[j], msgs_get (by omega), lastNo_take (by omega)⟩
    have h0 : i = 0 → lastNo (l.take i) = -1 := by rintro rfl; rfl
    have hno : l[i].fine = true → 0 ≤ l[i].no := fun h => (Msg.fine_iff.1 h).1
    generalize l[i] = m at *
    generalize lastNo (l.take i) = last at *
    obtain ⟨no, ep, s, i', role, used, data⟩ := m
    generalize hfm : (Msg.mk no ep s i' role used data).fine = fm at *
    dsimp only at hst hno
    have hget : (msgs l)[i]? = some [.int .i64 no, .int .i64 ep, .int .u16 s, .int .u16 i', .int .i64 role, .int .u16 used, .str data] := hget
    cases fm with
    | false =>
      repeat' ((first | refine brP_t (by assumption) ?_ | refine brP_f (by assumption) ?_ | refine brP_t (decide_eq_true (by omega)) ?_ | refine brP_f (decide_eq_false (by omega)) ?_ | refine brP_t (nd_t (by omega)) ?_ | refine brP_f (nd_f (by omega)) ?_ | ((conv in (opS _ _ _ _) => whnf); rw [Int.toNat_natCast, hget]) | ((conv in (opM _ _ _ _ _) => whnf); (conv in (opS _ _ _ _) => whnf); rw [Int.toNat_natCast, hget]) | refine callK_p hf ?_ | refine callM_p hf rfl ?_ | refine callK_pf rfl hf ?_ | refine wpfS_seq1 ?_ | refine wpfS_go ?_ | fail) <;> conv => whnf)
      rw [hff (by rw [hst]; rfl)]
      rfl
    | true =>
      have hno := hno rfl
      by_cases h2 : no < next
      · by_cases hi0 : i = 0
        · subst hi0
          have hl0 := h0 rfl
          repeat' ((first | refine brP_t (by assumption) ?_ | refine brP_f (by assumption) ?_ | refine brP_t (decide_eq_true (by omega)) ?_ | refine brP_f (decide_eq_false (by omega)) ?_ | refine brP_t (nd_t (by omega)) ?_ | refine brP_f (nd_f (by omega)) ?_ | ((conv in (opS _ _ _ _) => whnf); rw [Int.toNat_natCast, hget]) | ((conv in (opM _ _ _ _ _) => whnf); (conv in (opS _ _ _ _) => whnf); rw [Int.toNat_natCast, hget]) | refine callK_p hf ?_ | refine callM_p hf rfl ?_ | refine callK_pf rfl hf ?_ | refine wpfS_seq1 ?_ | refine wpfS_go ?_ | fail) <;> conv => whnf)
          rw [hw2]
          exact ⟨0 + 1, ⟨hi', by rw [hst, hl0, decide_eq_true (by omega), decide_eq_true h2]; rfl⟩, (show l.length - (0 + 1) < l.length - 0 by omega), ⟨rfl, rfl, rfl, trivial⟩, rfl⟩
        · obtain ⟨j, rfl⟩ : ∃ j, i = j + 1 := ⟨i - 1, by omega⟩
          obtain ⟨x, hx, hlx⟩ := hprev j rfl
          have hw3 : IntKind.i64.wrap (((j + 1 : Nat) : Int) - 1) = (j : Int) := by rw [wrap64 (by omega)]; omega
          obtain ⟨no2, ep2, s2, i2, role2, used2, data2⟩ := x
          have hx : (msgs l)[j]? = some [.int .i64 no2, .int .i64 ep2, .int .u16 s2, .int .u16 i2, .int .i64 role2, .int .u16 used2, .str data2] := hx
          dsimp only at hlx
          subst hlx
          by_cases h1 : last < no
          · repeat' ((first | refine brP_t (by assumption) ?_ | refine brP_f (by assumption) ?_ | refine brP_t (decide_eq_true (by omega)) ?_ | refine brP_f (decide_eq_false (by omega)) ?_ | refine brP_t (nd_t (by omega)) ?_ | refine brP_f (nd_f (by omega)) ?_ | ((conv in (opS _ _ _ _) => whnf); rw [Int.toNat_natCast, hget]) | ((conv in (opM _ _ _ _ _) => whnf); (conv in (opS _ _ _ _) => whnf); rw [Int.toNat_natCast, hget]) | refine callK_p hf ?_ | refine callM_p hf rfl ?_ | refine callK_pf rfl hf ?_ | ((rw [hw3])) | ((conv in (opS _ _ _ _) => whnf); rw [Int.toNat_natCast, hx]) | ((conv in (opM _ _ _ _ _) => whnf); (conv in (opS _ _ _ _) => whnf); rw [Int.toNat_natCast, hx]) | refine wpfS_seq1 ?_ | refine wpfS_go ?_ | fail) <;> conv => whnf)
            rw [hw2]
            exact ⟨j + 1 + 1, ⟨hi', by rw [hst, decide_eq_true h1, decide_eq_true h2]; rfl⟩, (show l.length - (j + 1 + 1) < l.length - (j + 1) by omega), ⟨rfl, rfl, rfl, trivial⟩, rfl⟩
          · repeat' ((first | refine brP_t (by assumption) ?_ | refine brP_f (by assumption) ?_ | refine brP_t (decide_eq_true (by omega)) ?_ | refine brP_f (decide_eq_false (by omega)) ?_ | refine brP_t (nd_t (by omega)) ?_ | refine brP_f (nd_f (by omega)) ?_ | ((conv in (opS _ _ _ _) => whnf); rw [Int.toNat_natCast, hget]) | ((conv in (opM _ _ _ _ _) => whnf); (conv in (opS _ _ _ _) => whnf); rw [Int.toNat_natCast, hget]) | refine callK_p hf ?_ | refine callM_p hf rfl ?_ | refine callK_pf rfl hf ?_ | ((rw [hw3])) | ((conv in (opS _ _ _ _) => whnf); rw [Int.toNat_natCast, hx]) | ((conv in (opM _ _ _ _ _) => whnf); (conv in (opS _ _ _ _) => whnf); rw [Int.toNat_natCast, hx]) | refine wpfS_seq1 ?_ | refine wpfS_go ?_ | fail) <;> conv => whnf)
            rw [hff (by rw [hst, decide_eq_false h1]; rfl)]
            rfl
      · repeat' ((first | refine brP_t (by assumption) ?_ | refine brP_f (by assumption) ?_ | refine brP_t (decide_eq_true (by omega)) ?_ | refine brP_f (decide_eq_false (by omega)) ?_ | refine brP_t (nd_t (by omega)) ?_ | refine brP_f (nd_f (by omega)) ?_ | ((conv in (opS _ _ _ _) => whnf); rw [Int.toNat_natCast, hget]) | ((conv in (opM _ _ _ _ _) => whnf); (conv in (opS _ _ _ _) => whnf); rw [Int.toNat_natCast, hget]) | refine callK_p hf ?_ | refine callM_p hf rfl ?_ | refine callK_pf rfl hf ?_ | refine wpfS_seq1 ?_ | refine wpfS_go ?_ | fail) <;> conv => whnf)
        rw [hff (by rw [hst, decide_eq_false h2]; simp)]
        rfl
  · have hi' : i = l.length := by have := of_decide_eq_false h; omega
    subst hi'
    clear h
    rw [List.take_length] at hr
    repeat' ((first | refine brP_t (by assumption) ?_ | refine brP_f (by assumption) ?_ | refine brP_t (decide_eq_true (by omega)) ?_ | refine brP_f (decide_eq_false (by omega)) ?_ | refine brP_t (nd_t (by omega)) ?_ | refine brP_f (nd_f (by omega)) ?_ | refine wpfS_seq1 ?_ | refine wpfS_go ?_ | fail) <;> conv => whnf)
    rw [hr]
    rfl
set_option maxHeartbeats 2000000 in
theorem R23_Fine_ok (b : Bx) (hb : b.len < 2 ^ 61) : EvP PR G f_R23_Fine [.agg b.row] (bv b.fine) := by
  have hlen : b.len = b.q.length + b.a.length + b.h.length := rfl
  have c1 := R23_row_ok b.next b.q (by omega)
  have c2 := R23_row_ok b.next b.a (by omega)
  have c3 := R23_row_ok b.next b.h (by omega)
  have hfin : b.fine = (decide (b.len ≤ 8) && (decide (0 ≤ b.next) && (decide (b.next ≤ 2147483647) && (risingB b.next (-1) b.q && (risingB b.next (-1) b.a && (risingB b.next (-1) b.h && risingB b.next (-1) (isort b.all))))))) := rfl
  rw [hfin]
  have hrb := Bx.fine_both (b := b)
  have c4 : b.len ≤ 8 → EvP PR G f_R23_Both [slv (msgs b.q), slv (msgs b.a)] (slv (msgs (both b.q b.a))) := fun h => R23_Both_ok b.q b.a (by omega)
  have c5 : b.len ≤ 8 → EvP PR G f_R23_Both [slv (msgs (both b.q b.a)), slv (msgs b.h)] (slv (msgs (both (both b.q b.a) b.h))) := fun h => R23_Both_ok _ _ (by rw [both_len]; omega)
  have c6 : b.len ≤ 8 → EvP PR G f_R23_row [slv (msgs (both (both b.q b.a) b.h)), iv b.next] (bv (risingB b.next (-1) (both (both b.q b.a) b.h))) := fun h => R23_row_ok _ _ (by rw [both_len, both_len]; omega)
  generalize isort b.all = X at *
  generalize both (both b.q b.a) b.h = Y at *
  generalize both b.q b.a = Z at *
  obtain ⟨n, q, a, h⟩ := b
  dsimp only at *
  have hql := msgs_len (l := q)
  have hal := msgs_len (l := a)
  have hhl := msgs_len (l := h)
  have w1 : IntKind.i64.wrap ((q.length : Int) + (a.length : Int)) = ((q.length + a.length : Nat) : Int) := by rw [wrap64 (by omega)]; rfl
  have w2 : IntKind.i64.wrap (((q.length + a.length : Nat) : Int) + (h.length : Int)) = ((q.length + a.length + h.length : Nat) : Int) := by rw [wrap64 (by omega)]; rfl
  have w3 : IntKind.i64.wrap (((q.length + a.length : Nat) : Int) + (h.length : Int)) = ((Bx.mk n q a h).len : Int) := by rw [w2, hlen]
  generalize (Bx.mk n q a h).len = L at *
  clear w2
  generalize risingB n (-1) q = r1 at *
  generalize risingB n (-1) a = r2 at *
  generalize risingB n (-1) h = r3 at *
  generalize risingB n (-1) X = r4 at *
  generalize risingB n (-1) Y = r5 at *
  show EvP PR G f_R23_Fine [.agg [.int .i64 n, .sl (msgs q), .sl (msgs a), .sl (msgs h)]] _
  refine EvP.of_wpf false hm c_R23_Fine rfl ?_
  refine wpf_seq1 ?_
  conv => whnf
  by_cases h1 : L ≤ 8
  · have c4 := c4 h1
    have c5 := c5 h1
    have c6 := c6 h1
    rw [decide_eq_true h1]
    by_cases h2 : 0 ≤ n
    · rw [decide_eq_true h2]
      by_cases h3 : n ≤ 2147483647
      · rw [decide_eq_true h3]
        cases r1 with
        | false =>
          repeat' ((first | refine brP_t (by assumption) ?_ | refine brP_f (by assumption) ?_ | refine brP_t (decide_eq_true (by omega)) ?_ | refine brP_f (decide_eq_false (by omega)) ?_ | refine brP_t (nd_t (by omega)) ?_ | refine brP_f (nd_f (by omega)) ?_ | ((rw [hql])) | ((rw [hal])) | ((rw [hhl])) | ((rw [w1])) | ((rw [w3])) | refine callK_p c1 ?_ | refine callM_p c1 rfl ?_ | refine callK_pf rfl c1 ?_ | refine wpfS_seq1 ?_ | refine wpfS_go ?_ | fail) <;> conv => whnf)
          rfl
        | true =>
          have hrb := hrb rfl
          subst hrb
          cases r2 with
          | false =>
            repeat' ((first | refine brP_t (by assumption) ?_ | refine brP_f (by assumption) ?_ | refine brP_t (decide_eq_true (by omega)) ?_ | refine brP_f (decide_eq_false (by omega)) ?_ | refine brP_t (nd_t (by omega)) ?_ | refine brP_f (nd_f (by omega)) ?_ | ((rw [hql])) | ((rw [hal])) | ((rw [hhl])) | ((rw [w1])) | ((rw [w3])) | refine callK_p c1 ?_ | refine callM_p c1 rfl ?_ | refine callK_pf rfl c1 ?_ | refine callK_p c2 ?_ | refine callM_p c2 rfl ?_ | refine callK_pf rfl c2 ?_ | refine wpfS_seq1 ?_ | refine wpfS_go ?_ | fail) <;> conv => whnf)
            rfl
          | true =>
            cases r3 with
            | false =>
              repeat' ((first | refine brP_t (by assumption) ?_ | refine brP_f (by assumption) ?_ | refine brP_t (decide_eq_true (by omega)) ?_ | refine brP_f (decide_eq_false (by omega)) ?_ | refine brP_t (nd_t (by omega)) ?_ | refine brP_f (nd_f (by omega)) ?_ | ((rw [hql])) | ((rw [hal])) | ((rw [hhl])) | ((rw [w1])) | ((rw [w3])) | refine callK_p c1 ?_ | refine callM_p c1 rfl ?_ | refine callK_pf rfl c1 ?_ | refine callK_p c2 ?_ | refine callM_p c2 rfl ?_ | refine callK_pf rfl c2 ?_ | refine callK_p c3 ?_ | refine callM_p c3 rfl ?_ | refine callK_pf rfl c3 ?_ | refine wpfS_seq1 ?_ | refine wpfS_go ?_ | fail) <;> conv => whnf)
              rfl
            | true =>
              repeat' ((first | refine brP_t (by assumption) ?_ | refine brP_f (by assumption) ?_ | refine brP_t (decide_eq_true (by omega)) ?_ | refine brP_f (decide_eq_false (by omega)) ?_ | refine brP_t (nd_t (by omega)) ?_ | refine brP_f (nd_f (by omega)) ?_ | ((rw [hql])) | ((rw [hal])) | ((rw [hhl])) | ((rw [w1])) | ((rw [w3])) | refine callK_p c1 ?_ | refine callM_p c1 rfl ?_ | refine callK_pf rfl c1 ?_ | refine callK_p c2 ?_ | refine callM_p c2 rfl ?_ | refine callK_pf rfl c2 ?_ | refine callK_p c3 ?_ | refine callM_p c3 rfl ?_ | refine callK_pf rfl c3 ?_ | refine callK_p c4 ?_ | refine callM_p c4 rfl ?_ | refine callK_pf rfl c4 ?_ | refine callK_p c5 ?_ | refine callM_p c5 rfl ?_ | refine callK_pf rfl c5 ?_ | refine callK_p c6 ?_ | refine callM_p c6 rfl ?_ | refine callK_pf rfl c6 ?_ | refine wpfS_seq1 ?_ | refine wpfS_go ?_ | fail) <;> conv => whnf)
              rfl
      · rw [decide_eq_false h3]
        repeat' ((first | refine brP_t (by assumption) ?_ | refine brP_f (by assumption) ?_ | refine brP_t (decide_eq_true (by omega)) ?_ | refine brP_f (decide_eq_false (by omega)) ?_ | refine brP_t (nd_t (by omega)) ?_ | refine brP_f (nd_f (by omega)) ?_ | ((rw [hql])) | ((rw [hal])) | ((rw [hhl])) | ((rw [w1])) | ((rw [w3])) | refine wpfS_seq1 ?_ | refine wpfS_go ?_ | fail) <;> conv => whnf)
        rfl
    · rw [decide_eq_false h2]
      repeat' ((first | refine brP_t (by assumption) ?_ | refine brP_f (by assumption) ?_ | refine brP_t (decide_eq_true (by omega)) ?_ | refine brP_f (decide_eq_false (by omega)) ?_ | refine brP_t (nd_t (by omega)) ?_ | refine brP_f (nd_f (by omega)) ?_ | ((rw [hql])) | ((rw [hal])) | ((rw [hhl])) | ((rw [w1])) | ((rw [w3])) | refine wpfS_seq1 ?_ | refine wpfS_go ?_ | fail) <;> conv => whnf)
      rfl
  · rw [decide_eq_false h1]
    repeat' ((first | refine brP_t (by assumption) ?_ | refine brP_f (by assumption) ?_ | refine brP_t (decide_eq_true (by omega)) ?_ | refine brP_f (decide_eq_false (by omega)) ?_ | refine brP_t (nd_t (by omega)) ?_ | refine brP_f (nd_f (by omega)) ?_ | ((rw [hql])) | ((rw [hal])) | ((rw [hhl])) | ((rw [w1])) | ((rw [w3])) | refine wpfS_seq1 ?_ | refine wpfS_go ?_ | fail) <;> conv => whnf)
    rfl
def boolsR (l : List Bool) : List (List PV) := l.map fun b => [.bool b]
def epM (e : Int) (m : Msg) : Msg := { m with ep := e }
end Go.Ab.S
