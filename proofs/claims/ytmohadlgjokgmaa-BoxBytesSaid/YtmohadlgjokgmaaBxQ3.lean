/- Mailboxes that are not too long to be looked at; BoxBytes. No condition. -/
import Derived.Test.YtmohadlgjokgmaaBxQ2
import Derived.Test.YtmohadlgjokgmaaBxK9
set_option linter.unusedSimpArgs false
set_option linter.unusedVariables false
namespace Go.Ab.S
open Go Go.Ab Go.Proofs
attribute [local irreducible] SemS
set_option maxRecDepth 100000
def longB (m : Msg) : Bool := decide (100 < m.data.length)
def rowFarB (l : List Msg) : Bool := decide (20 < l.length) || l.any longB
def rowB (o : Bx) : Nat → List Msg
  | 0 => o.q
  | 1 => o.a
  | _ => o.h
def farX (o : Bx) : Bool := rowFarB o.q || (rowFarB o.a || rowFarB o.h)
def rowsB (o : Bx) : List (List PV) := [[.sl (msgs o.q)], [.sl (msgs o.a)], [.sl (msgs o.h)]]
theorem rowsB_get (o : Bx) {i : Nat} (h : i < 3) : (rowsB o)[i]? = some [.sl (msgs (rowB o i))] := by
  have : i = 0 ∨ i = 1 ∨ i = 2 := by omega
  rcases this with rfl | rfl | rfl <;> rfl
theorem far_ofB {o : Bx} {i : Nat} (h : i < 3) (hf : rowFarB (rowB o i) = true) : farX o = true := by
  unfold farX
  have : i = 0 ∨ i = 1 ∨ i = 2 := by omega
  rcases this with rfl | rfl | rfl
  · rw [show rowFarB o.q = true from hf]; rfl
  · rw [show rowFarB o.a = true from hf]; simp
  · rw [show rowFarB o.h = true from hf]; simp
theorem far_notB {o : Bx} (h : ∀ j, j < 3 → rowFarB (rowB o j) = false) : farX o = false := by
  unfold farX
  rw [show rowFarB o.q = false from h 0 (by omega), show rowFarB o.a = false from h 1 (by omega), show rowFarB o.h = false from h 2 (by omega)]
  rfl
set_option maxHeartbeats 2000000 in
theorem L23_far_ok (o : Bx) (hl : o.len < 2 ^ 61) : EvP PR G f_L23_far [.agg o.row] (bv (farX o)) := by
  have hrl : ∀ i, (rowB o i).length < 2 ^ 61 := fun i => by
    have hlen : o.len = o.q.length + o.a.length + o.h.length := rfl
    unfold rowB
    split <;> omega
  refine EvP.of_wpf false hm c_L23_far rfl ?_
  refine wpf_seq1 ?_
  conv => whnf
  repeat' ((first | refine brP_t (by assumption) ?_ | refine brP_f (by assumption) ?_ | refine brP_t (decide_eq_true (by omega)) ?_ | refine brP_f (decide_eq_false (by omega)) ?_ | refine brP_t (nd_t (by omega)) ?_ | refine brP_f (nd_f (by omega)) ?_ | refine wpfS_seq1 ?_ | refine wpfS_go ?_ | fail) <;> conv => whnf)
  refine SemS.loopF false hm (σ := Nat) (fun i => [(4, iv i), (3, .c (.ti (rowsB o))), (1, .c (.ptr (.loc 0) 0))]) (fun _ => ⟨[], [.row o.row]⟩) (fun i => 3 - i) (fun i => i ≤ 3 ∧ ∀ j, j < i → rowFarB (rowB o j) = false) 0 ⟨Nat.zero_le _, fun j hj => absurd hj (Nat.not_lt_zero j)⟩ ⟨rfl, rfl, rfl, trivial⟩ rfl ?_
  rintro i ⟨hi, hall⟩
  refine wpf_seq1 ?_
  conv => whnf
  try (refine wpfS_seq1 ?_; conv => whnf)
  refine brP_mk (fun h => ?_) (fun h => ?_)
  · have hi' : i < 3 := by have := of_decide_eq_true h; omega
    clear h
    have hrow := rowsB_get o hi'
    have hfar := far_ofB (o := o) hi'
    have hll := hrl i
    have hw2 : IntKind.i64.wrap ((i : Int) + 1) = ((i + 1 : Nat) : Int) := by rw [wrap64 (by omega)]; rfl
    have hnext : rowFarB (rowB o i) = false → ∀ j, j < i + 1 → rowFarB (rowB o j) = false := fun h j hj => by
      by_cases e : j = i
      · subst e; exact h
      · exact hall j (by omega)
    generalize rowB o i = l at *
    have hml := msgs_len (l := l)
    have hrf : rowFarB l = (decide (20 < l.length) || l.any longB) := rfl
    by_cases h20 : 20 < l.length
    · rw [hfar (by rw [hrf, decide_eq_true h20]; rfl)]
      repeat' ((first | refine brP_t (by assumption) ?_ | refine brP_f (by assumption) ?_ | refine brP_t (decide_eq_true (by omega)) ?_ | refine brP_f (decide_eq_false (by omega)) ?_ | refine brP_t (nd_t (by omega)) ?_ | refine brP_f (nd_f (by omega)) ?_ | ((conv in (opS _ _ _ _) => whnf); rw [Int.toNat_natCast, hrow]) | ((conv in (opM _ _ _ _ _) => whnf); (conv in (opS _ _ _ _) => whnf); rw [Int.toNat_natCast, hrow]) | ((rw [hml])) | refine wpfS_seq1 ?_ | refine wpfS_go ?_ | fail) <;> conv => whnf)
      rfl
    rw [decide_eq_false h20, Bool.false_or] at hrf
    repeat' ((first | refine brP_t (by assumption) ?_ | refine brP_f (by assumption) ?_ | refine brP_t (decide_eq_true (by omega)) ?_ | refine brP_f (decide_eq_false (by omega)) ?_ | refine brP_t (nd_t (by omega)) ?_ | refine brP_f (nd_f (by omega)) ?_ | ((conv in (opS _ _ _ _) => whnf); rw [Int.toNat_natCast, hrow]) | ((conv in (opM _ _ _ _ _) => whnf); (conv in (opS _ _ _ _) => whnf); rw [Int.toNat_natCast, hrow]) | ((rw [hml])) | refine wpfS_seq1 ?_ | refine wpfS_go ?_ | fail) <;> conv => whnf)
    refine SemS.loopF false hm (σ := Nat) (fun k => [(5, iv k), (4, iv i), (3, .c (.ti (rowsB o))), (1, .c (.ptr (.loc 0) 0))]) (fun _ => ⟨[], [.row o.row]⟩) (fun k => l.length - k) (fun k => k ≤ l.length ∧ (l.take k).any longB = false) 0 ⟨Nat.zero_le _, rfl⟩ ⟨rfl, rfl, rfl, rfl, trivial⟩ rfl ?_
    rintro k ⟨hk, hany⟩
    refine wpf_seq1 ?_
    conv => whnf
    by_cases hk' : k < l.length
    · have hget := msgs_get hk'
      have hw3 : IntKind.i64.wrap ((k : Int) + 1) = ((k + 1 : Nat) : Int) := by rw [wrap64 (by omega)]; rfl
      have hst : (l.take (k + 1)).any longB = ((l.take k).any longB || longB l[k]) := by
        rw [List.take_succ_eq_append_getElem hk', List.any_append]; simp
      have hmem : longB l[k] = true → l.any longB = true := fun h => List.any_eq_true.2 ⟨_, List.getElem_mem hk', h⟩
      generalize l[k] = m at *
      by_cases h100 : 100 < m.data.length
      · have hlm : longB m = true := decide_eq_true h100
        rw [hfar (by rw [hrf]; exact hmem hlm)]
        repeat' ((first | refine brP_t (by assumption) ?_ | refine brP_f (by assumption) ?_ | refine brP_t (decide_eq_true (by omega)) ?_ | refine brP_f (decide_eq_false (by omega)) ?_ | refine brP_t (nd_t (by omega)) ?_ | refine brP_f (nd_f (by omega)) ?_ | ((conv in (opS _ _ _ _) => whnf); rw [Int.toNat_natCast, hrow]) | ((conv in (opM _ _ _ _ _) => whnf); (conv in (opS _ _ _ _) => whnf); rw [Int.toNat_natCast, hrow]) | ((rw [hml])) | ((conv in (opS _ _ _ _) => whnf); rw [Int.toNat_natCast, hget]) | ((conv in (opM _ _ _ _ _) => whnf); (conv in (opS _ _ _ _) => whnf); rw [Int.toNat_natCast, hget]) | refine wpfS_seq1 ?_ | refine wpfS_go ?_ | fail) <;> conv => whnf)
        rfl
      · have hlm : longB m = false := decide_eq_false h100
        repeat' ((first | refine brP_t (by assumption) ?_ | refine brP_f (by assumption) ?_ | refine brP_t (decide_eq_true (by omega)) ?_ | refine brP_f (decide_eq_false (by omega)) ?_ | refine brP_t (nd_t (by omega)) ?_ | refine brP_f (nd_f (by omega)) ?_ | ((conv in (opS _ _ _ _) => whnf); rw [Int.toNat_natCast, hrow]) | ((conv in (opM _ _ _ _ _) => whnf); (conv in (opS _ _ _ _) => whnf); rw [Int.toNat_natCast, hrow]) | ((rw [hml])) | ((conv in (opS _ _ _ _) => whnf); rw [Int.toNat_natCast, hget]) | ((conv in (opM _ _ _ _ _) => whnf); (conv in (opS _ _ _ _) => whnf); rw [Int.toNat_natCast, hget]) | ((rw [hw3])) | refine wpfS_seq1 ?_ | refine wpfS_go ?_ | fail) <;> conv => whnf)
        exact ⟨k + 1, ⟨hk', by rw [hst, hany, hlm]; rfl⟩, (show l.length - (k + 1) < l.length - k by omega), ⟨rfl, rfl, rfl, rfl, trivial⟩, rfl⟩
    · have hk2 : l.take k = l := List.take_of_length_le (by omega)
      rw [hk2] at hany
      repeat' ((first | refine brP_t (by assumption) ?_ | refine brP_f (by assumption) ?_ | refine brP_t (decide_eq_true (by omega)) ?_ | refine brP_f (decide_eq_false (by omega)) ?_ | refine brP_t (nd_t (by omega)) ?_ | refine brP_f (nd_f (by omega)) ?_ | ((conv in (opS _ _ _ _) => whnf); rw [Int.toNat_natCast, hrow]) | ((conv in (opM _ _ _ _ _) => whnf); (conv in (opS _ _ _ _) => whnf); rw [Int.toNat_natCast, hrow]) | ((rw [hml])) | ((rw [hw2])) | refine wpfS_seq1 ?_ | refine wpfS_go ?_ | fail) <;> conv => whnf)
      exact ⟨i + 1, ⟨hi', hnext (by rw [hrf]; exact hany)⟩, (show 3 - (i + 1) < 3 - i by omega), ⟨rfl, rfl, rfl, trivial⟩, rfl⟩
  · have hi' : i = 3 := by have := of_decide_eq_false h; omega
    subst hi'
    clear h
    rw [far_notB hall]
    repeat' ((first | refine brP_t (by assumption) ?_ | refine brP_f (by assumption) ?_ | refine brP_t (decide_eq_true (by omega)) ?_ | refine brP_f (decide_eq_false (by omega)) ?_ | refine brP_t (nd_t (by omega)) ?_ | refine brP_f (nd_f (by omega)) ?_ | refine wpfS_seq1 ?_ | refine wpfS_go ?_ | fail) <;> conv => whnf)
    rfl
theorem farX_len {b : Bx} (h : farX b = false) : b.q.length ≤ 20 ∧ b.a.length ≤ 20 ∧ b.h.length ≤ 20 := by
  unfold farX rowFarB at h
  simp only [Bool.or_eq_false_iff, decide_eq_false_iff_not] at h
  omega
set_option maxHeartbeats 4000000 in
theorem boxBytes_ok (b : Bx) (hb : b.len < 2 ^ 61) (ho : b.Ok) (B : List UInt8) : EvP PR G f_L23_BoxBytes [.agg b.row, slv (bytesOf B)] (bv true) := by
  have hBl := bytesOf_len B
  have c0 := L23_far_ok b hb
  have hX := farX_len (b := b)
  refine EvP.of_wpf false hm c_L23_BoxBytes rfl ?_
  refine wpf_seq1 ?_
  conv => whnf
  cases hfx : farX b with
  | true =>
    rw [hfx] at c0
    repeat' ((first | refine brP_t (by assumption) ?_ | refine brP_f (by assumption) ?_ | refine brP_t (decide_eq_true (by omega)) ?_ | refine brP_f (decide_eq_false (by omega)) ?_ | refine brP_t (nd_t (by omega)) ?_ | refine brP_f (nd_f (by omega)) ?_ | refine callK_pk rfl c0 ?_ | refine callK_p c0 ?_ | refine callM_p c0 rfl ?_ | refine callK_pf rfl c0 ?_ | refine callK_p L23_alive_ok ?_ | refine callM_p L23_alive_ok rfl ?_ | refine callK_pf rfl L23_alive_ok ?_ | refine wpfS_seq1 ?_ | refine wpfS_go ?_ | fail) <;> conv => whnf)
    rfl
  | false =>
  rw [hfx] at c0
  obtain ⟨x1, x2, x3⟩ := hX hfx
  by_cases hB : 1000 < B.length
  · repeat' ((first | refine brP_t (by assumption) ?_ | refine brP_f (by assumption) ?_ | refine brP_t (decide_eq_true (by omega)) ?_ | refine brP_f (decide_eq_false (by omega)) ?_ | refine brP_t (nd_t (by omega)) ?_ | refine brP_f (nd_f (by omega)) ?_ | ((rw [hBl])) | refine callK_pk rfl c0 ?_ | refine callK_p c0 ?_ | refine callM_p c0 rfl ?_ | refine callK_pf rfl c0 ?_ | refine callK_p L23_alive_ok ?_ | refine callM_p L23_alive_ok rfl ?_ | refine callK_pf rfl L23_alive_ok ?_ | refine wpfS_seq1 ?_ | refine wpfS_go ?_ | fail) <;> conv => whnf)
    rfl
  have c1 := NewReader_ok B
  have c2 := box_Read_ok ⟨0, B⟩
  have c3 := R23_Read_ok B (by omega) ⟨0, B⟩ (Suf.refl B)
  obtain ⟨k1, k2⟩ := Bx.rd_same (SameS.refl ⟨0, B⟩)
  have k3 := Bx.rd_len true ⟨0, B⟩
  have k4 := Bx.rd_suf (s := ⟨0, B⟩) (Suf.refl B)
  rw [← k1] at c3
  generalize (Bx.rd true ⟨0, B⟩).1 = r at *
  generalize (Bx.rd true ⟨0, B⟩).2 = s at *
  generalize (Bx.rd false ⟨0, B⟩).2 = s' at *
  clear k1
  have hlen : r.len = r.q.length + r.a.length + r.h.length := rfl
  have c4 := box_Same_ok r r (by omega) (by omega) (by omega)
  rw [decide_eq_true rfl] at c4
  have c5 := pr_err s
  have c6 := pr_left s
  have c7 := px_left k4 (by omega)
  rw [← k2.left] at c7
  have he := k2.e
  obtain ⟨e, y⟩ := s
  obtain ⟨e', y'⟩ := s'
  have he : e = e' := he
  subst he
  have hpx : (St.mk 0 B).px B = [Blk.row [.sl (bytesOf B), .int .i64 0, .int .i64 0]] := by
    show [Blk.row [.sl (bytesOf B), .int .i64 ((B.length - B.length : Nat) : Int), .int .i64 0]] = _
    rw [Nat.sub_self]; rfl
  rw [hpx] at c3
  generalize leftR (St.mk e y).e (St.mk e y).b = lf at *
  have f0 := R23_Fine_ok b hb
  cases hf : b.fine with
  | false =>
    rw [hf] at f0
    repeat' ((first | refine brP_t (by assumption) ?_ | refine brP_f (by assumption) ?_ | refine brP_t (decide_eq_true (by omega)) ?_ | refine brP_f (decide_eq_false (by omega)) ?_ | refine brP_t (nd_t (by omega)) ?_ | refine brP_f (nd_f (by omega)) ?_ | ((rw [hBl])) | refine callK_pk rfl c0 ?_ | refine callK_p c0 ?_ | refine callM_p c0 rfl ?_ | refine callK_pf rfl c0 ?_ | refine callK_r (EvR.fr [] c1 rfl rfl trivial rfl) ?_ | refine callM_l (LEv.fr [] c1 rfl rfl trivial rfl rfl) ?_ | refine callK_rt (EvR.fr [] c1 rfl rfl trivial rfl) ?_ | refine callK_rf rfl (EvR.fr [] c1 rfl rfl trivial rfl) ?_ | refine callK_rft rfl (EvR.fr [] c1 rfl rfl trivial rfl) ?_ | refine callK_r (EvR.fr [_] c2 rfl rfl ⟨rfl, trivial⟩ rfl) ?_ | refine callM_l (LEv.fr [_] c2 rfl rfl ⟨rfl, trivial⟩ rfl rfl) ?_ | refine callK_rt (EvR.fr [_] c2 rfl rfl ⟨rfl, trivial⟩ rfl) ?_ | refine callK_rf rfl (EvR.fr [_] c2 rfl rfl ⟨rfl, trivial⟩ rfl) ?_ | refine callK_rft rfl (EvR.fr [_] c2 rfl rfl ⟨rfl, trivial⟩ rfl) ?_ | refine callK_r (EvR.fr [_] c3 rfl rfl ⟨rfl, trivial⟩ rfl) ?_ | refine callM_l (LEv.fr [_] c3 rfl rfl ⟨rfl, trivial⟩ rfl rfl) ?_ | refine callK_rt (EvR.fr [_] c3 rfl rfl ⟨rfl, trivial⟩ rfl) ?_ | refine callK_rf rfl (EvR.fr [_] c3 rfl rfl ⟨rfl, trivial⟩ rfl) ?_ | refine callK_rft rfl (EvR.fr [_] c3 rfl rfl ⟨rfl, trivial⟩ rfl) ?_ | refine callM_p c4 rfl ?_ | refine callK_r (EvR.fr [_] c5 rfl rfl ⟨rfl, trivial⟩ rfl) ?_ | refine callM_l (LEv.fr [_] c5 rfl rfl ⟨rfl, trivial⟩ rfl rfl) ?_ | refine callK_rt (EvR.fr [_] c5 rfl rfl ⟨rfl, trivial⟩ rfl) ?_ | refine callK_rf rfl (EvR.fr [_] c5 rfl rfl ⟨rfl, trivial⟩ rfl) ?_ | refine callK_rft rfl (EvR.fr [_] c5 rfl rfl ⟨rfl, trivial⟩ rfl) ?_ | refine callK_r (EvR.fr [_] c6 rfl rfl ⟨rfl, trivial⟩ rfl) ?_ | refine callM_l (LEv.fr [_] c6 rfl rfl ⟨rfl, trivial⟩ rfl rfl) ?_ | refine callK_rt (EvR.fr [_] c6 rfl rfl ⟨rfl, trivial⟩ rfl) ?_ | refine callK_rf rfl (EvR.fr [_] c6 rfl rfl ⟨rfl, trivial⟩ rfl) ?_ | refine callK_rft rfl (EvR.fr [_] c6 rfl rfl ⟨rfl, trivial⟩ rfl) ?_ | refine callK_r (EvR.fr [_] c7 rfl rfl ⟨rfl, trivial⟩ rfl) ?_ | refine callM_l (LEv.fr [_] c7 rfl rfl ⟨rfl, trivial⟩ rfl rfl) ?_ | refine callK_rt (EvR.fr [_] c7 rfl rfl ⟨rfl, trivial⟩ rfl) ?_ | refine callK_rf rfl (EvR.fr [_] c7 rfl rfl ⟨rfl, trivial⟩ rfl) ?_ | refine callK_rft rfl (EvR.fr [_] c7 rfl rfl ⟨rfl, trivial⟩ rfl) ?_ | refine brP_f (nd_f rfl) ?_ | refine callK_pk rfl f0 ?_ | refine callK_p f0 ?_ | refine callM_p f0 rfl ?_ | refine callK_pf rfl f0 ?_ | refine callK_p L23_alive_ok ?_ | refine callM_p L23_alive_ok rfl ?_ | refine callK_pf rfl L23_alive_ok ?_ | refine wpfS_seq1 ?_ | refine wpfS_go ?_ | fail) <;> conv => whnf)
    rfl
  | true =>
    rw [hf] at f0
    have hg : b.Good := Bx.fine_iff.1 hf
    have d1 := box_Write_ok 0 [] (by simp) b hg ho
    have d2 := R23_Write_ok 0 [] (by simp) b hg ho
    rw [List.nil_append] at d1 d2
    have d1 := fresh_w d1 rfl rfl rfl
    have d2 := fresh_rw d2 rfl rfl rfl
    have hbl : b.bytes.length ≤ 2 ^ 40 := Nat.le_trans hg.bytes_len (by decide)
    have d3 := w_done_ok b.bytes hbl
    have d4 := NewReader_ok b.bytes
    have hrb := Bx.rd_back true b [] hg ho
    rw [List.append_nil] at hrb
    have d5 := box_Read_ok ⟨0, b.bytes⟩
    rw [hrb] at d5
    dsimp only at d5
    have d6 := R23_Same_ok b b (by omega) (by omega) (by omega)
    rw [decide_eq_true rfl] at d6
    have d7 := pr_err ⟨0, []⟩
    have d8 := pr_left ⟨0, []⟩
    have hbl2 := bytesOf_len b.bytes
    generalize b.bytes = W at *
    clear hrb
    repeat' ((first | refine brP_t (by assumption) ?_ | refine brP_f (by assumption) ?_ | refine brP_t (decide_eq_true (by omega)) ?_ | refine brP_f (decide_eq_false (by omega)) ?_ | refine brP_t (nd_t (by omega)) ?_ | refine brP_f (nd_f (by omega)) ?_ | ((rw [hBl])) | refine callK_pk rfl c0 ?_ | refine callK_p c0 ?_ | refine callM_p c0 rfl ?_ | refine callK_pf rfl c0 ?_ | refine callK_r (EvR.fr [] c1 rfl rfl trivial rfl) ?_ | refine callM_l (LEv.fr [] c1 rfl rfl trivial rfl rfl) ?_ | refine callK_rt (EvR.fr [] c1 rfl rfl trivial rfl) ?_ | refine callK_rf rfl (EvR.fr [] c1 rfl rfl trivial rfl) ?_ | refine callK_rft rfl (EvR.fr [] c1 rfl rfl trivial rfl) ?_ | refine callK_r (EvR.fr [_] c2 rfl rfl ⟨rfl, trivial⟩ rfl) ?_ | refine callM_l (LEv.fr [_] c2 rfl rfl ⟨rfl, trivial⟩ rfl rfl) ?_ | refine callK_rt (EvR.fr [_] c2 rfl rfl ⟨rfl, trivial⟩ rfl) ?_ | refine callK_rf rfl (EvR.fr [_] c2 rfl rfl ⟨rfl, trivial⟩ rfl) ?_ | refine callK_rft rfl (EvR.fr [_] c2 rfl rfl ⟨rfl, trivial⟩ rfl) ?_ | refine callK_r (EvR.fr [_] c3 rfl rfl ⟨rfl, trivial⟩ rfl) ?_ | refine callM_l (LEv.fr [_] c3 rfl rfl ⟨rfl, trivial⟩ rfl rfl) ?_ | refine callK_rt (EvR.fr [_] c3 rfl rfl ⟨rfl, trivial⟩ rfl) ?_ | refine callK_rf rfl (EvR.fr [_] c3 rfl rfl ⟨rfl, trivial⟩ rfl) ?_ | refine callK_rft rfl (EvR.fr [_] c3 rfl rfl ⟨rfl, trivial⟩ rfl) ?_ | refine callM_p c4 rfl ?_ | refine callK_r (EvR.fr [_] c5 rfl rfl ⟨rfl, trivial⟩ rfl) ?_ | refine callM_l (LEv.fr [_] c5 rfl rfl ⟨rfl, trivial⟩ rfl rfl) ?_ | refine callK_rt (EvR.fr [_] c5 rfl rfl ⟨rfl, trivial⟩ rfl) ?_ | refine callK_rf rfl (EvR.fr [_] c5 rfl rfl ⟨rfl, trivial⟩ rfl) ?_ | refine callK_rft rfl (EvR.fr [_] c5 rfl rfl ⟨rfl, trivial⟩ rfl) ?_ | refine callK_r (EvR.fr [_] c6 rfl rfl ⟨rfl, trivial⟩ rfl) ?_ | refine callM_l (LEv.fr [_] c6 rfl rfl ⟨rfl, trivial⟩ rfl rfl) ?_ | refine callK_rt (EvR.fr [_] c6 rfl rfl ⟨rfl, trivial⟩ rfl) ?_ | refine callK_rf rfl (EvR.fr [_] c6 rfl rfl ⟨rfl, trivial⟩ rfl) ?_ | refine callK_rft rfl (EvR.fr [_] c6 rfl rfl ⟨rfl, trivial⟩ rfl) ?_ | refine callK_r (EvR.fr [_] c7 rfl rfl ⟨rfl, trivial⟩ rfl) ?_ | refine callM_l (LEv.fr [_] c7 rfl rfl ⟨rfl, trivial⟩ rfl rfl) ?_ | refine callK_rt (EvR.fr [_] c7 rfl rfl ⟨rfl, trivial⟩ rfl) ?_ | refine callK_rf rfl (EvR.fr [_] c7 rfl rfl ⟨rfl, trivial⟩ rfl) ?_ | refine callK_rft rfl (EvR.fr [_] c7 rfl rfl ⟨rfl, trivial⟩ rfl) ?_ | refine brP_f (nd_f rfl) ?_ | refine callK_pk rfl f0 ?_ | refine callK_p f0 ?_ | refine callM_p f0 rfl ?_ | refine callK_pf rfl f0 ?_ | refine callK_r (EvR.fr [_] d1 rfl rfl ⟨rfl, trivial⟩ rfl) ?_ | refine callM_l (LEv.fr [_] d1 rfl rfl ⟨rfl, trivial⟩ rfl rfl) ?_ | refine callK_rt (EvR.fr [_] d1 rfl rfl ⟨rfl, trivial⟩ rfl) ?_ | refine callK_rf rfl (EvR.fr [_] d1 rfl rfl ⟨rfl, trivial⟩ rfl) ?_ | refine callK_rft rfl (EvR.fr [_] d1 rfl rfl ⟨rfl, trivial⟩ rfl) ?_ | refine callK_r (EvR.fr [_] d2 rfl rfl ⟨rfl, trivial⟩ rfl) ?_ | refine callM_l (LEv.fr [_] d2 rfl rfl ⟨rfl, trivial⟩ rfl rfl) ?_ | refine callK_rt (EvR.fr [_] d2 rfl rfl ⟨rfl, trivial⟩ rfl) ?_ | refine callK_rf rfl (EvR.fr [_] d2 rfl rfl ⟨rfl, trivial⟩ rfl) ?_ | refine callK_rft rfl (EvR.fr [_] d2 rfl rfl ⟨rfl, trivial⟩ rfl) ?_ | refine callK_r (EvR.fr [_, _] d3 rfl rfl ⟨rfl, rfl, trivial⟩ rfl) ?_ | refine callM_l (LEv.fr [_, _] d3 rfl rfl ⟨rfl, rfl, trivial⟩ rfl rfl) ?_ | refine callK_rt (EvR.fr [_, _] d3 rfl rfl ⟨rfl, rfl, trivial⟩ rfl) ?_ | refine callK_rf rfl (EvR.fr [_, _] d3 rfl rfl ⟨rfl, rfl, trivial⟩ rfl) ?_ | refine callK_rft rfl (EvR.fr [_, _] d3 rfl rfl ⟨rfl, rfl, trivial⟩ rfl) ?_ | refine callK_r (EvR.fr [] d4 rfl rfl trivial rfl) ?_ | refine callM_l (LEv.fr [] d4 rfl rfl trivial rfl rfl) ?_ | refine callK_rt (EvR.fr [] d4 rfl rfl trivial rfl) ?_ | refine callK_rf rfl (EvR.fr [] d4 rfl rfl trivial rfl) ?_ | refine callK_rft rfl (EvR.fr [] d4 rfl rfl trivial rfl) ?_ | refine callK_r (EvR.fr [_] d5 rfl rfl ⟨rfl, trivial⟩ rfl) ?_ | refine callM_l (LEv.fr [_] d5 rfl rfl ⟨rfl, trivial⟩ rfl rfl) ?_ | refine callK_rt (EvR.fr [_] d5 rfl rfl ⟨rfl, trivial⟩ rfl) ?_ | refine callK_rf rfl (EvR.fr [_] d5 rfl rfl ⟨rfl, trivial⟩ rfl) ?_ | refine callK_rft rfl (EvR.fr [_] d5 rfl rfl ⟨rfl, trivial⟩ rfl) ?_ | refine callM_p d6 rfl ?_ | refine callK_r (EvR.fr [_] d7 rfl rfl ⟨rfl, trivial⟩ rfl) ?_ | refine callM_l (LEv.fr [_] d7 rfl rfl ⟨rfl, trivial⟩ rfl rfl) ?_ | refine callK_rt (EvR.fr [_] d7 rfl rfl ⟨rfl, trivial⟩ rfl) ?_ | refine callK_rf rfl (EvR.fr [_] d7 rfl rfl ⟨rfl, trivial⟩ rfl) ?_ | refine callK_rft rfl (EvR.fr [_] d7 rfl rfl ⟨rfl, trivial⟩ rfl) ?_ | refine callK_r (EvR.fr [_] d8 rfl rfl ⟨rfl, trivial⟩ rfl) ?_ | refine callM_l (LEv.fr [_] d8 rfl rfl ⟨rfl, trivial⟩ rfl rfl) ?_ | refine callK_rt (EvR.fr [_] d8 rfl rfl ⟨rfl, trivial⟩ rfl) ?_ | refine callK_rf rfl (EvR.fr [_] d8 rfl rfl ⟨rfl, trivial⟩ rfl) ?_ | refine callK_rft rfl (EvR.fr [_] d8 rfl rfl ⟨rfl, trivial⟩ rfl) ?_ | ((conv in (opS _ _ _ _) => whnf); rw [bytesS_sl]) | ((conv in (opM _ _ _ _ _) => whnf); (conv in (opS _ _ _ _) => whnf); rw [bytesS_sl]) | ((conv in (opS _ _ _ _) => whnf); rw [bytesS_os (s := W) rfl]) | ((conv in (opM _ _ _ _ _) => whnf); (conv in (opS _ _ _ _) => whnf); rw [bytesS_os (s := W) rfl]) | (refine gd_mk ?_ ?_; focus (rw [hbl2]; simp; done)) | refine brP_t (decide_eq_true rfl) ?_ | refine callM_p L23_alive_ok rfl ?_ | refine callK_p L23_alive_ok ?_ | refine callM_p L23_alive_ok rfl ?_ | refine callK_pf rfl L23_alive_ok ?_ | refine wpfS_seq1 ?_ | refine wpfS_go ?_ | fail) <;> conv => whnf)
    rfl
theorem bx_limQ {cs : List PV} (h : wt shBx cs) : ∀ b : Bx, cs = b.row → b.len < 2 ^ 61 := by
  obtain ⟨a, _, rfl, -, ⟨next, rfl, hn⟩, b, _, rfl, -, ⟨q, rfl, hql, -, hq⟩, c, _, rfl, -, ⟨x, rfl, hxl, -, hx⟩, d, _, rfl, -, ⟨y, rfl, hyl, -, hy⟩, rfl⟩ := h
  intro b hb
  obtain ⟨n, q', x', y'⟩ := b
  have hb : [PV.int .i64 next, .sl q, .sl x, .sl y] = [.int .i64 n, .sl (msgs q'), .sl (msgs x'), .sl (msgs y')] := hb
  simp only [List.cons.injEq, PV.sl.injEq, and_true] at hb
  obtain ⟨-, rfl, rfl, rfl⟩ := hb
  rw [msgs_len] at hql hxl hyl
  have h1 : q'.length * 56 ≤ 0x7ffffffff000 := hql
  have h2 : x'.length * 56 ≤ 0x7ffffffff000 := hxl
  have h3 : y'.length * 56 ≤ 0x7ffffffff000 := hyl
  show q'.length + x'.length + y'.length < _
  omega
theorem law_boxBytes (pvss : List (List PV)) (hw : wts [shBx, .sl 1 1 (.int .u8)] pvss) : EvP PR G f_L23_BoxBytes (argAVs [shBx, .sl 1 1 (.int .u8)] pvss) (.c (.p (.bool true))) := by
  obtain ⟨a, _, rfl, ha, hw⟩ := wts_cons hw
  obtain ⟨b, _, rfl, hb, hw⟩ := wts_cons hw
  cases wts_nil hw
  have hl := bx_limQ ha
  obtain ⟨x, rfl, hx⟩ := bx_of ha
  obtain ⟨es, rfl, -, -, hes⟩ := hb
  obtain ⟨B, rfl⟩ := bytes_of hes
  exact boxBytes_ok x (hl x rfl) hx B
end Go.Ab.S
