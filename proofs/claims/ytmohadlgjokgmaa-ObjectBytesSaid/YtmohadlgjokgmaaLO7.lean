/- ObjectTells. No condition. ObjectTells. No condition. -/
import Derived.Test.YtmohadlgjokgmaaLO5
set_option linter.unusedSimpArgs false
set_option linter.unusedVariables false
namespace Go.Ab.S
open Go Go.Ab Go.Proofs
attribute [local irreducible] SemS
set_option maxRecDepth 100000
def longM (m : Msg) : Bool := decide (100 < m.data.length)
def rowFar (l : List Msg) : Bool := decide (20 < l.length) || l.any longM
def rowO (o : Ob) : Nat → List Msg
  | 0 => o.bx.q
  | 1 => o.bx.a
  | _ => o.bx.h
def farB (o : Ob) : Bool := rowFar o.bx.q || (rowFar o.bx.a || (rowFar o.bx.h || decide (200 < o.buf.length)))
def rowsO (o : Ob) : List (List PV) := [[.sl (msgs o.bx.q)], [.sl (msgs o.bx.a)], [.sl (msgs o.bx.h)]]
theorem rowsO_get (o : Ob) {i : Nat} (h : i < 3) : (rowsO o)[i]? = some [.sl (msgs (rowO o i))] := by
  have : i = 0 ∨ i = 1 ∨ i = 2 := by omega
  rcases this with rfl | rfl | rfl <;> rfl
theorem far_of {o : Ob} {i : Nat} (h : i < 3) (hf : rowFar (rowO o i) = true) : farB o = true := by
  unfold farB
  have : i = 0 ∨ i = 1 ∨ i = 2 := by omega
  rcases this with rfl | rfl | rfl
  · rw [show rowFar o.bx.q = true from hf]; rfl
  · rw [show rowFar o.bx.a = true from hf]; simp
  · rw [show rowFar o.bx.h = true from hf]; simp
theorem far_not {o : Ob} (h : ∀ j, j < 3 → rowFar (rowO o j) = false) : farB o = decide (200 < o.buf.length) := by
  unfold farB
  rw [show rowFar o.bx.q = false from h 0 (by omega), show rowFar o.bx.a = false from h 1 (by omega), show rowFar o.bx.h = false from h 2 (by omega)]
  rfl
set_option maxHeartbeats 2000000 in
theorem L25_Far_ok (o : Ob) (hl : o.Lim) : EvP PR G f_L25_Far [.agg o.row] (bv (farB o)) := by
  have hrl : ∀ i, (rowO o i).length < 2 ^ 61 := fun i => by
    have := hl.bx
    have hlen : o.bx.len = o.bx.q.length + o.bx.a.length + o.bx.h.length := rfl
    unfold rowO
    split <;> omega
  have hbuf := hl.buf
  refine EvP.of_wpf false hm c_L25_Far rfl ?_
  refine wpf_seq1 ?_
  conv => whnf
  repeat' ((first | refine brP_t (by assumption) ?_ | refine brP_f (by assumption) ?_ | refine brP_t (decide_eq_true (by omega)) ?_ | refine brP_f (decide_eq_false (by omega)) ?_ | refine brP_t (nd_t (by omega)) ?_ | refine brP_f (nd_f (by omega)) ?_ | refine wpfS_seq1 ?_ | refine wpfS_go ?_ | fail) <;> conv => whnf)
  refine SemS.loopF false hm (σ := Nat) (fun i => [(4, iv i), (3, .c (.ti (rowsO o))), (1, .c (.ptr (.loc 0) 0))]) (fun _ => ⟨[], [.row o.row]⟩) (fun i => 3 - i) (fun i => i ≤ 3 ∧ ∀ j, j < i → rowFar (rowO o j) = false) 0 ⟨Nat.zero_le _, fun j hj => absurd hj (Nat.not_lt_zero j)⟩ ⟨rfl, rfl, rfl, trivial⟩ rfl ?_
  rintro i ⟨hi, hall⟩
  refine wpf_seq1 ?_
  conv => whnf
  try (refine wpfS_seq1 ?_; conv => whnf)
  refine brP_mk (fun h => ?_) (fun h => ?_)
  · have hi' : i < 3 := by have := of_decide_eq_true h; omega
    clear h
    have hrow := rowsO_get o hi'
    have hfar := far_of (o := o) hi'
    have hll := hrl i
    have hw2 : IntKind.i64.wrap ((i : Int) + 1) = ((i + 1 : Nat) : Int) := by rw [wrap64 (by omega)]; rfl
    have hnext : rowFar (rowO o i) = false → ∀ j, j < i + 1 → rowFar (rowO o j) = false := fun h j hj => by
      by_cases e : j = i
      · subst e; exact h
      · exact hall j (by omega)
    generalize rowO o i = l at *
    have hml := msgs_len (l := l)
    have hrf : rowFar l = (decide (20 < l.length) || l.any longM) := rfl
    by_cases h20 : 20 < l.length
    · rw [hfar (by rw [hrf, decide_eq_true h20]; rfl)]
      repeat' ((first | refine brP_t (by assumption) ?_ | refine brP_f (by assumption) ?_ | refine brP_t (decide_eq_true (by omega)) ?_ | refine brP_f (decide_eq_false (by omega)) ?_ | refine brP_t (nd_t (by omega)) ?_ | refine brP_f (nd_f (by omega)) ?_ | ((conv in (opS _ _ _ _) => whnf); rw [Int.toNat_natCast, hrow]) | ((conv in (opM _ _ _ _ _) => whnf); (conv in (opS _ _ _ _) => whnf); rw [Int.toNat_natCast, hrow]) | ((rw [hml])) | refine wpfS_seq1 ?_ | refine wpfS_go ?_ | fail) <;> conv => whnf)
      rfl
    rw [decide_eq_false h20, Bool.false_or] at hrf
    repeat' ((first | refine brP_t (by assumption) ?_ | refine brP_f (by assumption) ?_ | refine brP_t (decide_eq_true (by omega)) ?_ | refine brP_f (decide_eq_false (by omega)) ?_ | refine brP_t (nd_t (by omega)) ?_ | refine brP_f (nd_f (by omega)) ?_ | ((conv in (opS _ _ _ _) => whnf); rw [Int.toNat_natCast, hrow]) | ((conv in (opM _ _ _ _ _) => whnf); (conv in (opS _ _ _ _) => whnf); rw [Int.toNat_natCast, hrow]) | ((rw [hml])) | refine wpfS_seq1 ?_ | refine wpfS_go ?_ | fail) <;> conv => whnf)
    refine SemS.loopF false hm (σ := Nat) (fun k => [(5, iv k), (4, iv i), (3, .c (.ti (rowsO o))), (1, .c (.ptr (.loc 0) 0))]) (fun _ => ⟨[], [.row o.row]⟩) (fun k => l.length - k) (fun k => k ≤ l.length ∧ (l.take k).any longM = false) 0 ⟨Nat.zero_le _, rfl⟩ ⟨rfl, rfl, rfl, rfl, trivial⟩ rfl ?_
    rintro k ⟨hk, hany⟩
    refine wpf_seq1 ?_
    conv => whnf
    by_cases hk' : k < l.length
    · have hget := msgs_get hk'
      have hw3 : IntKind.i64.wrap ((k : Int) + 1) = ((k + 1 : Nat) : Int) := by rw [wrap64 (by omega)]; rfl
      have hst : (l.take (k + 1)).any longM = ((l.take k).any longM || longM l[k]) := by
        rw [List.take_succ_eq_append_getElem hk', List.any_append]; simp
      have hmem : longM l[k] = true → l.any longM = true := fun h => List.any_eq_true.2 ⟨_, List.getElem_mem hk', h⟩
      generalize l[k] = m at *
      by_cases h100 : 100 < m.data.length
      · have hlm : longM m = true := decide_eq_true h100
        rw [hfar (by rw [hrf]; exact hmem hlm)]
        repeat' ((first | refine brP_t (by assumption) ?_ | refine brP_f (by assumption) ?_ | refine brP_t (decide_eq_true (by omega)) ?_ | refine brP_f (decide_eq_false (by omega)) ?_ | refine brP_t (nd_t (by omega)) ?_ | refine brP_f (nd_f (by omega)) ?_ | ((conv in (opS _ _ _ _) => whnf); rw [Int.toNat_natCast, hrow]) | ((conv in (opM _ _ _ _ _) => whnf); (conv in (opS _ _ _ _) => whnf); rw [Int.toNat_natCast, hrow]) | ((rw [hml])) | ((conv in (opS _ _ _ _) => whnf); rw [Int.toNat_natCast, hget]) | ((conv in (opM _ _ _ _ _) => whnf); (conv in (opS _ _ _ _) => whnf); rw [Int.toNat_natCast, hget]) | refine wpfS_seq1 ?_ | refine wpfS_go ?_ | fail) <;> conv => whnf)
        rfl
      · have hlm : longM m = false := decide_eq_false h100
        repeat' ((first | refine brP_t (by assumption) ?_ | refine brP_f (by assumption) ?_ | refine brP_t (decide_eq_true (by omega)) ?_ | refine brP_f (decide_eq_false (by omega)) ?_ | refine brP_t (nd_t (by omega)) ?_ | refine brP_f (nd_f (by omega)) ?_ | ((conv in (opS _ _ _ _) => whnf); rw [Int.toNat_natCast, hrow]) | ((conv in (opM _ _ _ _ _) => whnf); (conv in (opS _ _ _ _) => whnf); rw [Int.toNat_natCast, hrow]) | ((rw [hml])) | ((conv in (opS _ _ _ _) => whnf); rw [Int.toNat_natCast, hget]) | ((conv in (opM _ _ _ _ _) => whnf); (conv in (opS _ _ _ _) => whnf); rw [Int.toNat_natCast, hget]) | ((rw [hw3])) | refine wpfS_seq1 ?_ | refine wpfS_go ?_ | fail) <;> conv => whnf)
        exact ⟨k + 1, ⟨hk', by rw [hst, hany, hlm]; rfl⟩, (show l.length - (k + 1) < l.length - k by omega), ⟨rfl, rfl, rfl, rfl, trivial⟩, rfl⟩
    · have hk2 : l.take k = l := List.take_of_length_le (by omega)
      rw [hk2] at hany
      repeat' ((first | refine brP_t (by assumption) ?_ | refine brP_f (by assumption) ?_ | refine brP_t (decide_eq_true (by omega)) ?_ | refine brP_f (decide_eq_false (by omega)) ?_ | refine brP_t (nd_t (by omega)) ?_ | refine brP_f (nd_f (by omega)) ?_ | ((conv in (opS _ _ _ _) => whnf); rw [Int.toNat_natCast, hrow]) | ((conv in (opM _ _ _ _ _) => whnf); (conv in (opS _ _ _ _) => whnf); rw [Int.toNat_natCast, hrow]) | ((rw [hml])) | ((rw [hw2])) | refine wpfS_seq1 ?_ | refine wpfS_go ?_ | fail) <;> conv => whnf)
      exact ⟨i + 1, ⟨hi', hnext (by rw [hrf]; exact hany)⟩, (show 3 - (i + 1) < 3 - i by omega), ⟨rfl, rfl, rfl, trivial⟩, rfl⟩
  · have hi' : i = 3 := by have := of_decide_eq_false h; omega
    subst hi'
    clear h
    rw [far_not hall]
    repeat' ((first | refine brP_t (by assumption) ?_ | refine brP_f (by assumption) ?_ | refine brP_t (decide_eq_true (by omega)) ?_ | refine brP_f (decide_eq_false (by omega)) ?_ | refine brP_t (nd_t (by omega)) ?_ | refine brP_f (nd_f (by omega)) ?_ | refine wpfS_seq1 ?_ | refine wpfS_go ?_ | fail) <;> conv => whnf)
    show bv (decide ((o.buf.length : Int) > 200)) = _
    exact congrArg bv (decide_eq_decide.2 (by omega))
end Go.Ab.S

namespace Go.Ab.S
open Go Go.Ab Go.Proofs
attribute [local irreducible] SemS
set_option maxRecDepth 100000
theorem bx_limO {cs : List PV} (h : wt shBx cs) : ∀ b : Bx, cs = b.row → b.len < 2 ^ 61 := by
  obtain ⟨a, _, rfl, -, ⟨next, rfl, hn⟩, b, _, rfl, -, ⟨q, rfl, hql, -, hq⟩, c, _, rfl, -, ⟨x, rfl, hxl, -, hx⟩, d, _, rfl, -, ⟨y, rfl, hyl, -, hy⟩, rfl⟩ := h
  intro b hb
  obtain ⟨n, q', x', y'⟩ := b
  have hb : [PV.int .i64 next, .sl q, .sl x, .sl y] = [.int .i64 n, .sl (msgs q'), .sl (msgs x'), .sl (msgs y')] := hb
  simp only [List.cons.injEq, PV.sl.injEq, and_true] at hb
  obtain ⟨-, rfl, rfl, rfl⟩ := hb
  rw [msgs_len] at hql hxl hyl
  have h1 : q'.length * 56 ≤ 0x7ffffffff000 := hql
  have h2 : x'.length * 56 ≤ 0x7ffffffff000 := hxl
  have h3 : y'.length * 56 ≤ 0x7ffffffff000 := hyl
  show q'.length + x'.length + y'.length < _
  omega
theorem ob_limO {cs : List PV} (h : wt shOb cs) : ∃ o : Ob, cs = o.row ∧ o.Ok ∧ o.Lim := by
  obtain ⟨a, _, rfl, -, hid, b, _, rfl, -, hl, c, _, rfl, -, ⟨st, rfl, hst⟩, d, _, rfl, -, ⟨sw, rfl⟩, e, _, rfl, -, hw, f, _, rfl, -, ⟨role, rfl, hrole⟩, g, _, rfl, -, ⟨buf, rfl, hbuf⟩, h', _, rfl, -, ⟨dead, rfl⟩, j, _, rfl, -, hbx, rfl⟩ := h
  obtain ⟨ids, idi, k, n, rfl, h1, h2, h3, h4⟩ := id_of hid
  obtain ⟨ls, li, rfl, h5, h6⟩ := lab_of hl
  obtain ⟨ws, wi, rfl, h7, h8⟩ := lab_of hw
  have hbl := bx_limO hbx
  obtain ⟨bx, rfl, hb⟩ := bx_of hbx
  exact ⟨⟨ids, idi, k, n, ls, li, st, sw, ws, wi, role, buf, dead, bx⟩, rfl, ⟨h1, h2, h3, h4, h5, h6, i64_of hst, h7, h8, i64_of hrole, hb⟩, ⟨hbl bx rfl, by have : buf.length ≤ 0x7ffffffff000 := hbuf; show buf.length < _; omega⟩⟩
end Go.Ab.S
