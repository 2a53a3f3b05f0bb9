/- A mailbox answers every call, in every order, as the document says. No condition. -/
import Derived.Test.YtmohadlgjokgmaaBxK14
set_option linter.unusedSimpArgs false
set_option linter.unusedVariables false
namespace Go.Ab.S
open Go Go.Ab Go.Proofs
attribute [local irreducible] SemS
set_option maxRecDepth 100000
theorem epM_fine {e : Int} (h : 0 ≤ e ∧ e ≤ 255) {m : Msg} (hm : m.fine = true) : (epM e m).fine = true := by
  rw [Msg.fine_iff] at hm ⊢
  obtain ⟨h1, h2, -, -, h5⟩ := hm
  exact ⟨h1, h2, h.1, h.2, h5⟩
theorem doR_good {b : Bx} (hg : b.Good) (a : Act) (h0 : a.kind % 7 = 0 → a.m.fine = true) (h6 : a.kind % 7 = 6 → 0 ≤ a.n ∧ a.n ≤ 255) : (doR b a).1.Good := by
  unfold doR
  split
  · rename_i h
    unfold putD
    split
    · exact hg
    · rename_i hf
      exact hg.put (h0 h) (by omega) (by omega)
  split
  · unfold takeD
    split
    · exact hg
    · exact hg.take
  split
  · exact hg.aside
  split
  · exact hg.letK _
  split
  · exact hg.restore
  split
  · exact hg.forget
  · have hk : a.kind % 7 = 6 := by omega
    exact hg.each (fun _ => rfl) fun m hm => epM_fine (h6 hk) (hg.ms m (by simp [Bx.all, hm])).1
def actsR (l : List Act) : List (List PV) := l.map Act.row
theorem actsR_len {l : List Act} : (actsR l).length = l.length := by simp [actsR]
theorem actsR_get {l : List Act} {i : Nat} (h : i < l.length) : (actsR l)[i]? = some l[i].row := by rw [actsR, List.getElem?_map, List.getElem?_eq_getElem h]; rfl
set_option maxHeartbeats 16000000 in
theorem boxPlays_ok (l : List Act) (hl63 : l.length < 2 ^ 63) : EvP PR G f_L23_BoxPlays [slv (actsR l)] (bv true) := by
  have hlen := actsR_len (l := l)
  refine EvP.of_wpf false hm c_L23_BoxPlays rfl ?_
  refine wpf_seq1 ?_
  conv => whnf
  by_cases h60 : 60 < l.length
  · repeat' ((first | refine brP_t (by assumption) ?_ | refine brP_f (by assumption) ?_ | refine brP_t (decide_eq_true (by omega)) ?_ | refine brP_f (decide_eq_false (by omega)) ?_ | refine brP_t (nd_t (by omega)) ?_ | refine brP_f (nd_f (by omega)) ?_ | ((rw [hlen])) | refine callK_p L23_alive_ok ?_ | refine callM_p L23_alive_ok rfl ?_ | refine callK_pf rfl L23_alive_ok ?_ | refine wpfS_seq1 ?_ | refine wpfS_go ?_ | fail) <;> conv => whnf)
    rfl
  repeat' ((first | refine brP_t (by assumption) ?_ | refine brP_f (by assumption) ?_ | refine brP_t (decide_eq_true (by omega)) ?_ | refine brP_f (decide_eq_false (by omega)) ?_ | refine brP_t (nd_t (by omega)) ?_ | refine brP_f (nd_f (by omega)) ?_ | ((rw [hlen])) | refine wpfS_seq1 ?_ | refine wpfS_go ?_ | fail) <;> conv => whnf)
  refine SemS.weak (weak_bx0 _ (.loc 0) rfl) ?_
  refine SemS.weak (weak_bx0 _ (.loc 1) rfl) ?_
  refine SemS.loopC false hm (σ := Nat × Bx) (fun s => [(5, iv s.1), (3, .c (.ptr (.loc 0) 0)), (4, .c (.ptr (.loc 1) 0)), (0, slv (actsR l))]) (fun s => ⟨[], [bxr s.2, bxr s.2]⟩) (fun s => l.length - s.1) (fun s => s.1 ≤ l.length ∧ s.2.Good) (0, Bx.emp) ⟨Nat.zero_le _, Bx.fine_iff.1 rfl⟩ ⟨rfl, rfl, rfl, rfl, trivial⟩ rfl ?_
  rintro ⟨i, b⟩ ⟨hi, hg⟩
  dsimp only at hi hg ⊢
  unfold bxr
  refine wpf_seq1 ?_
  conv => whnf
  rw [hlen]
  refine brP_mk (fun h => ?_) (fun h => ?_)
  · have hi' : i < l.length := by have := of_decide_eq_true h; omega
    clear h
    have hget := actsR_get hi'
    have hw2 : IntKind.i64.wrap ((i : Int) + 1) = ((i + 1 : Nat) : Int) := by rw [wrap64 (by omega)]; rfl
    generalize l[i] = a at *
    have cd := L23_do_ok b a hg
    have cD := R23_Done_ok b a hg
    have hfi := R22_Fine_ok a.m
    have hgd := doR_good hg a
    have hk := tmod7 a.kind
    by_cases hok : (a.kind % 7 = 0 → a.m.fine = true) ∧ (a.kind % 7 = 6 → 0 ≤ a.n ∧ a.n ≤ 255)
    · have hg' := hgd hok.1 hok.2
      clear hgd
      generalize doR b a = R at *
      obtain ⟨b', m', e'⟩ := R
      dsimp only [resD] at cd cD hg'
      have he : _ = true := (msg_eq m' m').trans (decide_eq_true rfl)
      have hl := hg'.len
      have hlen' : b'.len = b'.q.length + b'.a.length + b'.h.length := rfl
      have c1 := R23_Same_ok b' b' (by omega) (by omega) (by omega)
      rw [decide_eq_true rfl] at c1
      have c2 := box_Fine_ok b' (by omega)
      rw [Bx.fine_iff.2 hg'] at c2
      have c3 := box_Len_ok b' (by omega)
      obtain ⟨n', q', a', h'⟩ := b'
      dsimp only at *
      have hql := msgs_len (l := q')
      have hal := msgs_len (l := a')
      have hhl := msgs_len (l := h')
      have w1 : IntKind.i64.wrap ((q'.length : Int) + (a'.length : Int)) = ((q'.length + a'.length : Nat) : Int) := by rw [wrap64 (by omega)]; rfl
      have w2 : IntKind.i64.wrap (((q'.length + a'.length : Nat) : Int) + (h'.length : Int)) = ((q'.length + a'.length + h'.length : Nat) : Int) := by rw [wrap64 (by omega)]; rfl
      have w3 : IntKind.i64.wrap (((q'.length + a'.length : Nat) : Int) + (h'.length : Int)) = ((Bx.mk n' q' a' h').len : Int) := by rw [w2, hlen']
      clear w2
      obtain ⟨kd, an, am⟩ := a
      dsimp only at hok hk hfi
      have hget : (actsR l)[i]? = some (.int .u8 kd :: .int .i64 an :: am.row) := hget
      cases q' with
      | nil =>
        have c4 : EvP PR G f_box_First [.agg (Bx.mk n' [] a' h').row] (.tup [.agg msg0.row, iv 13]) := box_First_ok ⟨n', [], a', h'⟩
        by_cases e0 : kd % 7 = 0
        · have hff := hok.1 e0
          rw [hff] at hfi
          rw [e0] at hk
          repeat' ((first | refine brP_t (by assumption) ?_ | refine brP_f (by assumption) ?_ | refine brP_t (decide_eq_true (by omega)) ?_ | refine brP_f (decide_eq_false (by omega)) ?_ | refine brP_t (nd_t (by omega)) ?_ | refine brP_f (nd_f (by omega)) ?_ | ((conv in (opS _ _ _ _) => whnf); rw [Int.toNat_natCast, hget]) | ((conv in (opM _ _ _ _ _) => whnf); (conv in (opS _ _ _ _) => whnf); rw [Int.toNat_natCast, hget]) | refine callK_p hfi ?_ | refine callM_p hfi rfl ?_ | refine callK_pf rfl hfi ?_ | ((rw [hk])) | refine callK_p cd ?_ | refine callM_p cd rfl ?_ | refine callK_pf rfl cd ?_ | refine callK_p cD ?_ | refine callM_p cD rfl ?_ | refine callK_pf rfl cD ?_ | ((rw [he])) | refine brP_f rfl ?_ | refine callK_p c1 ?_ | refine callM_p c1 rfl ?_ | refine callK_pf rfl c1 ?_ | refine callK_p c2 ?_ | refine callM_p c2 rfl ?_ | refine callK_pf rfl c2 ?_ | refine callK_p c3 ?_ | refine callM_p c3 rfl ?_ | refine callK_pf rfl c3 ?_ | refine callK_p c4 ?_ | refine callM_p c4 rfl ?_ | refine callK_pf rfl c4 ?_ | ((rw [hql])) | ((rw [hal])) | ((rw [hhl])) | ((rw [w1])) | ((rw [w3])) | refine brP_f (nd_f rfl) ?_ | ((rw [hw2])) | refine wpfS_seq1 ?_ | refine wpfS_go ?_ | fail) <;> conv => whnf)
          exact ⟨(i + 1, ⟨n', [], a', h'⟩), 2, ⟨hi', hg'⟩, (show l.length - (i + 1) < l.length - i by omega), ⟨rfl, rfl, rfl, rfl, trivial⟩, Nat.le_refl _, rfl, rfl, rfl⟩
        · by_cases e6 : kd % 7 = 6
          · obtain ⟨z1, z2⟩ := hok.2 e6
            rw [e6] at hk
            repeat' ((first | refine brP_t (by assumption) ?_ | refine brP_f (by assumption) ?_ | refine brP_t (decide_eq_true (by omega)) ?_ | refine brP_f (decide_eq_false (by omega)) ?_ | refine brP_t (nd_t (by omega)) ?_ | refine brP_f (nd_f (by omega)) ?_ | ((conv in (opS _ _ _ _) => whnf); rw [Int.toNat_natCast, hget]) | ((conv in (opM _ _ _ _ _) => whnf); (conv in (opS _ _ _ _) => whnf); rw [Int.toNat_natCast, hget]) | refine callK_p hfi ?_ | refine callM_p hfi rfl ?_ | refine callK_pf rfl hfi ?_ | ((rw [hk])) | refine callK_p cd ?_ | refine callM_p cd rfl ?_ | refine callK_pf rfl cd ?_ | refine callK_p cD ?_ | refine callM_p cD rfl ?_ | refine callK_pf rfl cD ?_ | ((rw [he])) | refine brP_f rfl ?_ | refine callK_p c1 ?_ | refine callM_p c1 rfl ?_ | refine callK_pf rfl c1 ?_ | refine callK_p c2 ?_ | refine callM_p c2 rfl ?_ | refine callK_pf rfl c2 ?_ | refine callK_p c3 ?_ | refine callM_p c3 rfl ?_ | refine callK_pf rfl c3 ?_ | refine callK_p c4 ?_ | refine callM_p c4 rfl ?_ | refine callK_pf rfl c4 ?_ | ((rw [hql])) | ((rw [hal])) | ((rw [hhl])) | ((rw [w1])) | ((rw [w3])) | refine brP_f (nd_f rfl) ?_ | ((rw [hw2])) | refine wpfS_seq1 ?_ | refine wpfS_go ?_ | fail) <;> conv => whnf)
            exact ⟨(i + 1, ⟨n', [], a', h'⟩), 2, ⟨hi', hg'⟩, (show l.length - (i + 1) < l.length - i by omega), ⟨rfl, rfl, rfl, rfl, trivial⟩, Nat.le_refl _, rfl, rfl, rfl⟩
          · have z0 : ¬ ((kd % 7 : Nat) : Int) = 0 := by omega
            have z6 : ¬ ((kd % 7 : Nat) : Int) = 6 := by omega
            generalize ((kd % 7 : Nat) : Int) = kr at *
            repeat' ((first | refine brP_t (by assumption) ?_ | refine brP_f (by assumption) ?_ | refine brP_t (decide_eq_true (by omega)) ?_ | refine brP_f (decide_eq_false (by omega)) ?_ | refine brP_t (nd_t (by omega)) ?_ | refine brP_f (nd_f (by omega)) ?_ | ((conv in (opS _ _ _ _) => whnf); rw [Int.toNat_natCast, hget]) | ((conv in (opM _ _ _ _ _) => whnf); (conv in (opS _ _ _ _) => whnf); rw [Int.toNat_natCast, hget]) | refine callK_p hfi ?_ | refine callM_p hfi rfl ?_ | refine callK_pf rfl hfi ?_ | ((rw [hk])) | refine callK_p cd ?_ | refine callM_p cd rfl ?_ | refine callK_pf rfl cd ?_ | refine callK_p cD ?_ | refine callM_p cD rfl ?_ | refine callK_pf rfl cD ?_ | ((rw [he])) | refine brP_f rfl ?_ | refine callK_p c1 ?_ | refine callM_p c1 rfl ?_ | refine callK_pf rfl c1 ?_ | refine callK_p c2 ?_ | refine callM_p c2 rfl ?_ | refine callK_pf rfl c2 ?_ | refine callK_p c3 ?_ | refine callM_p c3 rfl ?_ | refine callK_pf rfl c3 ?_ | refine callK_p c4 ?_ | refine callM_p c4 rfl ?_ | refine callK_pf rfl c4 ?_ | ((rw [hql])) | ((rw [hal])) | ((rw [hhl])) | ((rw [w1])) | ((rw [w3])) | refine brP_f (nd_f rfl) ?_ | ((rw [hw2])) | refine wpfS_seq1 ?_ | refine wpfS_go ?_ | fail) <;> conv => whnf)
            exact ⟨(i + 1, ⟨n', [], a', h'⟩), 2, ⟨hi', hg'⟩, (show l.length - (i + 1) < l.length - i by omega), ⟨rfl, rfl, rfl, rfl, trivial⟩, Nat.le_refl _, rfl, rfl, rfl⟩
      | cons x q' =>
        have c4 : EvP PR G f_box_First [.agg (Bx.mk n' (x :: q') a' h').row] (.tup [.agg x.row, iv 0]) := by
          have := box_First_ok ⟨n', x :: q', a', h'⟩
          rw [show (if (Bx.mk n' (x :: q') a' h').q = [] then (13 : Int) else 0) = 0 from if_neg (by simp)] at this
          exact this
        have hx : _ = true := (msg_eq x x).trans (decide_eq_true rfl)
        have hq0 : decide (((x :: q').length : Int) > 0) = true := decide_eq_true (by simp)
        by_cases e0 : kd % 7 = 0
        · have hff := hok.1 e0
          rw [hff] at hfi
          rw [e0] at hk
          repeat' ((first | refine brP_t (by assumption) ?_ | refine brP_f (by assumption) ?_ | refine brP_t (decide_eq_true (by omega)) ?_ | refine brP_f (decide_eq_false (by omega)) ?_ | refine brP_t (nd_t (by omega)) ?_ | refine brP_f (nd_f (by omega)) ?_ | ((conv in (opS _ _ _ _) => whnf); rw [Int.toNat_natCast, hget]) | ((conv in (opM _ _ _ _ _) => whnf); (conv in (opS _ _ _ _) => whnf); rw [Int.toNat_natCast, hget]) | refine callK_p hfi ?_ | refine callM_p hfi rfl ?_ | refine callK_pf rfl hfi ?_ | ((rw [hk])) | refine callK_p cd ?_ | refine callM_p cd rfl ?_ | refine callK_pf rfl cd ?_ | refine callK_p cD ?_ | refine callM_p cD rfl ?_ | refine callK_pf rfl cD ?_ | ((rw [he])) | refine brP_f rfl ?_ | refine callK_p c1 ?_ | refine callM_p c1 rfl ?_ | refine callK_pf rfl c1 ?_ | refine callK_p c2 ?_ | refine callM_p c2 rfl ?_ | refine callK_pf rfl c2 ?_ | refine callK_p c3 ?_ | refine callM_p c3 rfl ?_ | refine callK_pf rfl c3 ?_ | refine callK_p c4 ?_ | refine callM_p c4 rfl ?_ | refine callK_pf rfl c4 ?_ | ((rw [hql])) | ((rw [hal])) | ((rw [hhl])) | ((rw [w1])) | ((rw [w3])) | refine brP_f (nd_f rfl) ?_ | ((rw [hq0])) | ((rw [hx])) | ((rw [hw2])) | refine wpfS_seq1 ?_ | refine wpfS_go ?_ | fail) <;> conv => whnf)
          exact ⟨(i + 1, ⟨n', x :: q', a', h'⟩), 2, ⟨hi', hg'⟩, (show l.length - (i + 1) < l.length - i by omega), ⟨rfl, rfl, rfl, rfl, trivial⟩, Nat.le_refl _, rfl, rfl, rfl⟩
        · by_cases e6 : kd % 7 = 6
          · obtain ⟨z1, z2⟩ := hok.2 e6
            rw [e6] at hk
            repeat' ((first | refine brP_t (by assumption) ?_ | refine brP_f (by assumption) ?_ | refine brP_t (decide_eq_true (by omega)) ?_ | refine brP_f (decide_eq_false (by omega)) ?_ | refine brP_t (nd_t (by omega)) ?_ | refine brP_f (nd_f (by omega)) ?_ | ((conv in (opS _ _ _ _) => whnf); rw [Int.toNat_natCast, hget]) | ((conv in (opM _ _ _ _ _) => whnf); (conv in (opS _ _ _ _) => whnf); rw [Int.toNat_natCast, hget]) | refine callK_p hfi ?_ | refine callM_p hfi rfl ?_ | refine callK_pf rfl hfi ?_ | ((rw [hk])) | refine callK_p cd ?_ | refine callM_p cd rfl ?_ | refine callK_pf rfl cd ?_ | refine callK_p cD ?_ | refine callM_p cD rfl ?_ | refine callK_pf rfl cD ?_ | ((rw [he])) | refine brP_f rfl ?_ | refine callK_p c1 ?_ | refine callM_p c1 rfl ?_ | refine callK_pf rfl c1 ?_ | refine callK_p c2 ?_ | refine callM_p c2 rfl ?_ | refine callK_pf rfl c2 ?_ | refine callK_p c3 ?_ | refine callM_p c3 rfl ?_ | refine callK_pf rfl c3 ?_ | refine callK_p c4 ?_ | refine callM_p c4 rfl ?_ | refine callK_pf rfl c4 ?_ | ((rw [hql])) | ((rw [hal])) | ((rw [hhl])) | ((rw [w1])) | ((rw [w3])) | refine brP_f (nd_f rfl) ?_ | ((rw [hq0])) | ((rw [hx])) | ((rw [hw2])) | refine wpfS_seq1 ?_ | refine wpfS_go ?_ | fail) <;> conv => whnf)
            exact ⟨(i + 1, ⟨n', x :: q', a', h'⟩), 2, ⟨hi', hg'⟩, (show l.length - (i + 1) < l.length - i by omega), ⟨rfl, rfl, rfl, rfl, trivial⟩, Nat.le_refl _, rfl, rfl, rfl⟩
          · have z0 : ¬ ((kd % 7 : Nat) : Int) = 0 := by omega
            have z6 : ¬ ((kd % 7 : Nat) : Int) = 6 := by omega
            generalize ((kd % 7 : Nat) : Int) = kr at *
            repeat' ((first | refine brP_t (by assumption) ?_ | refine brP_f (by assumption) ?_ | refine brP_t (decide_eq_true (by omega)) ?_ | refine brP_f (decide_eq_false (by omega)) ?_ | refine brP_t (nd_t (by omega)) ?_ | refine brP_f (nd_f (by omega)) ?_ | ((conv in (opS _ _ _ _) => whnf); rw [Int.toNat_natCast, hget]) | ((conv in (opM _ _ _ _ _) => whnf); (conv in (opS _ _ _ _) => whnf); rw [Int.toNat_natCast, hget]) | refine callK_p hfi ?_ | refine callM_p hfi rfl ?_ | refine callK_pf rfl hfi ?_ | ((rw [hk])) | refine callK_p cd ?_ | refine callM_p cd rfl ?_ | refine callK_pf rfl cd ?_ | refine callK_p cD ?_ | refine callM_p cD rfl ?_ | refine callK_pf rfl cD ?_ | ((rw [he])) | refine brP_f rfl ?_ | refine callK_p c1 ?_ | refine callM_p c1 rfl ?_ | refine callK_pf rfl c1 ?_ | refine callK_p c2 ?_ | refine callM_p c2 rfl ?_ | refine callK_pf rfl c2 ?_ | refine callK_p c3 ?_ | refine callM_p c3 rfl ?_ | refine callK_pf rfl c3 ?_ | refine callK_p c4 ?_ | refine callM_p c4 rfl ?_ | refine callK_pf rfl c4 ?_ | ((rw [hql])) | ((rw [hal])) | ((rw [hhl])) | ((rw [w1])) | ((rw [w3])) | refine brP_f (nd_f rfl) ?_ | ((rw [hq0])) | ((rw [hx])) | ((rw [hw2])) | refine wpfS_seq1 ?_ | refine wpfS_go ?_ | fail) <;> conv => whnf)
            exact ⟨(i + 1, ⟨n', x :: q', a', h'⟩), 2, ⟨hi', hg'⟩, (show l.length - (i + 1) < l.length - i by omega), ⟨rfl, rfl, rfl, rfl, trivial⟩, Nat.le_refl _, rfl, rfl, rfl⟩
    · obtain ⟨kd, an, am⟩ := a
      dsimp only at hok hk hfi
      have hget : (actsR l)[i]? = some (.int .u8 kd :: .int .i64 an :: am.row) := hget
      by_cases e0 : kd % 7 = 0
      · have hff : am.fine = false := by
          cases h : am.fine with
          | false => rfl
          | true => exact absurd ⟨fun _ => h, fun h6 => by omega⟩ hok
        rw [hff] at hfi
        rw [e0] at hk
        repeat' ((first | refine brP_t (by assumption) ?_ | refine brP_f (by assumption) ?_ | refine brP_t (decide_eq_true (by omega)) ?_ | refine brP_f (decide_eq_false (by omega)) ?_ | refine brP_t (nd_t (by omega)) ?_ | refine brP_f (nd_f (by omega)) ?_ | ((conv in (opS _ _ _ _) => whnf); rw [Int.toNat_natCast, hget]) | ((conv in (opM _ _ _ _ _) => whnf); (conv in (opS _ _ _ _) => whnf); rw [Int.toNat_natCast, hget]) | refine callK_p hfi ?_ | refine callM_p hfi rfl ?_ | refine callK_pf rfl hfi ?_ | ((rw [hk])) | ((rw [hw2])) | refine wpfS_seq1 ?_ | refine wpfS_go ?_ | fail) <;> conv => whnf)
        exact ⟨(i + 1, b), 2, ⟨hi', hg⟩, (show l.length - (i + 1) < l.length - i by omega), ⟨rfl, rfl, rfl, rfl, trivial⟩, Nat.le_refl _, rfl, rfl, rfl⟩
      · by_cases e6 : kd % 7 = 6
        · have hn : an < 0 ∨ 255 < an := by
            have := fun h : 0 ≤ an ∧ an ≤ 255 => hok ⟨fun h0 => absurd h0 e0, fun _ => h⟩
            omega
          rw [e6] at hk
          rcases hn with hn | hn
          · repeat' ((first | refine brP_t (by assumption) ?_ | refine brP_f (by assumption) ?_ | refine brP_t (decide_eq_true (by omega)) ?_ | refine brP_f (decide_eq_false (by omega)) ?_ | refine brP_t (nd_t (by omega)) ?_ | refine brP_f (nd_f (by omega)) ?_ | ((conv in (opS _ _ _ _) => whnf); rw [Int.toNat_natCast, hget]) | ((conv in (opM _ _ _ _ _) => whnf); (conv in (opS _ _ _ _) => whnf); rw [Int.toNat_natCast, hget]) | refine callK_p hfi ?_ | refine callM_p hfi rfl ?_ | refine callK_pf rfl hfi ?_ | ((rw [hk])) | ((rw [hw2])) | refine wpfS_seq1 ?_ | refine wpfS_go ?_ | fail) <;> conv => whnf)
            exact ⟨(i + 1, b), 2, ⟨hi', hg⟩, (show l.length - (i + 1) < l.length - i by omega), ⟨rfl, rfl, rfl, rfl, trivial⟩, Nat.le_refl _, rfl, rfl, rfl⟩
          · repeat' ((first | refine brP_t (by assumption) ?_ | refine brP_f (by assumption) ?_ | refine brP_t (decide_eq_true (by omega)) ?_ | refine brP_f (decide_eq_false (by omega)) ?_ | refine brP_t (nd_t (by omega)) ?_ | refine brP_f (nd_f (by omega)) ?_ | ((conv in (opS _ _ _ _) => whnf); rw [Int.toNat_natCast, hget]) | ((conv in (opM _ _ _ _ _) => whnf); (conv in (opS _ _ _ _) => whnf); rw [Int.toNat_natCast, hget]) | refine callK_p hfi ?_ | refine callM_p hfi rfl ?_ | refine callK_pf rfl hfi ?_ | ((rw [hk])) | ((rw [hw2])) | refine wpfS_seq1 ?_ | refine wpfS_go ?_ | fail) <;> conv => whnf)
            exact ⟨(i + 1, b), 2, ⟨hi', hg⟩, (show l.length - (i + 1) < l.length - i by omega), ⟨rfl, rfl, rfl, rfl, trivial⟩, Nat.le_refl _, rfl, rfl, rfl⟩
        · exact absurd ⟨fun h => absurd h e0, fun h => absurd h e6⟩ hok
  · have hi' : i = l.length := by have := of_decide_eq_false h; omega
    subst hi'
    clear h
    repeat' ((first | refine brP_t (by assumption) ?_ | refine brP_f (by assumption) ?_ | refine brP_t (decide_eq_true (by omega)) ?_ | refine brP_f (decide_eq_false (by omega)) ?_ | refine brP_t (nd_t (by omega)) ?_ | refine brP_f (nd_f (by omega)) ?_ | refine callK_p L23_alive_ok ?_ | refine callM_p L23_alive_ok rfl ?_ | refine callK_pf rfl L23_alive_ok ?_ | refine wpfS_seq1 ?_ | refine wpfS_go ?_ | fail) <;> conv => whnf)
    rfl
abbrev shAct : Sh := .st (.cons 1 (.int .u8) (.cons 1 (.int .i64) (.cons 7 shMsg .nil)))
theorem act_of {cs : List PV} (h : wt shAct cs) : ∃ a : Act, cs = a.row := by
  obtain ⟨c1, _, rfl, -, h1, h⟩ := h
  obtain ⟨c2, _, rfl, -, h2, h⟩ := h
  obtain ⟨c3, _, rfl, -, h3, h⟩ := h
  cases h
  obtain ⟨k, rfl, hk⟩ := h1
  obtain ⟨k, rfl, -⟩ := u8_of hk
  obtain ⟨n, rfl, -⟩ := h2
  obtain ⟨m, rfl, -⟩ := msg_of h3
  exact ⟨⟨k, n, m⟩, by simp [Act.row]⟩
theorem acts_of : ∀ {es : List (List PV)}, (∀ r ∈ es, r.length = 9 ∧ wt shAct r) → ∃ l : List Act, es = actsR l
  | [], _ => ⟨[], rfl⟩
  | r :: es, h => by
    obtain ⟨l, rfl⟩ := acts_of fun q hq => h q (List.mem_cons_of_mem _ hq)
    obtain ⟨a, rfl⟩ := act_of (h r List.mem_cons_self).2
    exact ⟨a :: l, rfl⟩
theorem law_boxPlays (pvss : List (List PV)) (hw : wts [.sl 9 72 shAct] pvss) : EvP PR G f_L23_BoxPlays (argAVs [.sl 9 72 shAct] pvss) (.c (.p (.bool true))) := by
  obtain ⟨a, _, rfl, ha, hw⟩ := wts_cons hw
  cases wts_nil hw
  obtain ⟨es, rfl, -, hl, hes⟩ := ha
  obtain ⟨l, rfl⟩ := acts_of hes
  rw [actsR_len] at hl
  exact boxPlays_ok l (len63 hl)
end Go.Ab.S
