/- Part of a proof; no condition. -/
import Derived.Test.YtjdkjlmcnpjohaaDoorPolP23
set_option linter.unusedSimpArgs false
set_option linter.unusedVariables false
namespace Go.Ab.S
open Go Go.Ab Go.Proofs
attribute [local irreducible] SemS
set_option maxRecDepth 100000
theorem bit_zero {s r : Nat} (hs : s < 65536) (hr : r < 16) (h : s.testBit r = false) : IntKind.u16.wrap ((BitVec.ofInt IntKind.u16.bits ((s : Int).fdiv (2 ^ (min (r : Int).toNat IntKind.u16.bits))) &&& BitVec.ofInt IntKind.u16.bits (1 : Int)).toNat : Int) = 0 := by
  have hb : IntKind.bits .u16 = 16 := rfl
  have e : ((s : Int).fdiv (2 ^ (min (r : Int).toNat IntKind.u16.bits))) = ((s / 2 ^ r : Nat) : Int) := by
    rw [hb, Int.toNat_natCast, Nat.min_eq_left (by omega), Int.fdiv_eq_ediv_of_nonneg _ (by exact Int.le_of_lt (Int.pow_pos (by omega)))]
    rw [Int.natCast_ediv, Int.natCast_pow]; rfl
  have hlt : s / 2 ^ r < 65536 := Nat.lt_of_le_of_lt (Nat.div_le_self _ _) hs
  rw [e]
  have := and16 (a := s / 2 ^ r) (b := 1) hlt (by omega)
  have this : IntKind.u16.wrap ((BitVec.ofInt IntKind.u16.bits ((s / 2 ^ r : Nat) : Int) &&& BitVec.ofInt IntKind.u16.bits (1 : Int)).toNat : Int) = ((s / 2 ^ r &&& 1 : Nat) : Int) := this
  rw [this, Nat.and_one_is_mod]
  rw [Nat.testBit_eq_decide_div_mod_eq] at h
  have := of_decide_eq_false h
  omega
theorem bit_one' {s r : Nat} (hs : s < 65536) (hr : r < 16) (h : s.testBit r = true) : IntKind.u16.wrap ((BitVec.ofInt IntKind.u16.bits ((s : Int).fdiv (2 ^ (min (r : Int).toNat IntKind.u16.bits))) &&& BitVec.ofInt IntKind.u16.bits (1 : Int)).toNat : Int) = 1 := of_decide_eq_true ((shr_bit s r hs hr).trans h)
set_option maxHeartbeats 4000000 in
theorem maps12_ok (p : Pol) (hp : p.Ok) (l : List (Int × Int)) (hl : l.length < 2 ^ 63) : EvP PR G f_L12_PolicyMaps [p.v, .c (.p (.sl (prows l)))] (bv true) := by
  have hlen : (prows l).length = l.length := by simp [prows]
  have c9 := L12_alive_ok
  refine EvP.of_wpf false hm c_L12_PolicyMaps rfl ?_
  refine wpf_seq1 ?_
  conv => whnf
  by_cases hbig : 30 < l.length
  · repeat' ((first | refine brP_t (by assumption) ?_ | refine brP_f (by assumption) ?_ | refine brP_t (decide_eq_true (by omega)) ?_ | refine brP_f (decide_eq_false (by omega)) ?_ | refine brP_t (nd_t (by omega)) ?_ | refine brP_f (nd_f (by omega)) ?_ | ((rw [hlen])) | refine callK_p c9 ?_ | refine callM_p c9 rfl ?_ | refine callK_pf rfl c9 ?_ | refine wpfS_seq1 ?_ | refine wpfS_go ?_ | fail) <;> conv => whnf)
    rfl
  have c0 := R12_Mend_ok p hp
  have hq := mend_ok hp
  have hqf := mend_fine hp
  have hqc := mend_clean p
  generalize mendP p = q at *
  have c1 := R04_Made_ok l (by omega)
  have hM := made_lt l
  have hMf := made_fine l
  generalize madeN l = M at *
  have hM8 : ∀ i, i < 16 → M i ≤ 255 := fun i hi => by have := hM i hi; omega
  repeat' ((first | refine brP_t (by assumption) ?_ | refine brP_f (by assumption) ?_ | refine brP_t (decide_eq_true (by omega)) ?_ | refine brP_f (decide_eq_false (by omega)) ?_ | refine brP_t (nd_t (by omega)) ?_ | refine brP_f (nd_f (by omega)) ?_ | ((rw [hlen])) | refine callK_p c0 ?_ | refine callM_p c0 rfl ?_ | refine callK_pf rfl c0 ?_ | refine callK_p c1 ?_ | refine callM_p c1 rfl ?_ | refine callK_pf rfl c1 ?_ | refine wpfS_seq1 ?_ | refine wpfS_go ?_ | fail) <;> conv => whnf)
  refine SemS.loopF false hm (σ := Nat) (fun k => [(2, .c (.ptr (.loc 0) 0)), (5, .c (.ptr (.loc 1) 0)), (6, iv k)]) (fun _ => ⟨[], [.row q.row, .row (mrow M)]⟩) (fun k => 16 - k) (fun k => k ≤ 16 ∧ ∀ t, t < k → M t ≠ t → q.active.testBit (M t) = true) 0 ⟨Nat.zero_le _, fun t h => absurd h (Nat.not_lt_zero t)⟩ ⟨rfl, rfl, rfl, trivial⟩ rfl ?_
  rintro k ⟨hk, hall⟩
  refine wpf_seq1 ?_
  conv => whnf
  try (refine wpfS_seq1 ?_; conv => whnf)
  refine brP_mk (fun h => ?_) (fun h => ?_)
  · have hk' : k < 16 := by have := of_decide_eq_true h; omega
    clear h
    have hw2 : IntKind.i64.wrap ((k : Int) + 1) = ((k + 1 : Nat) : Int) := by rw [wrap64 (by omega)]; rfl
    have hget := mrow_at M (i := 0 + (k : Int).toNat * 1) (t := k) (by simp) hk'
    have hget' := mrow_at' M (i := 0 + (k : Int).toNat * 1) (t := k) (by simp) hk'
    have hMk := hM k hk'
    have hw := wrapU8 (M k) (hM8 k hk')
    have hw3 : IntKind.u64.wrap (M k : Int) = M k := by simp [IntKind.wrap, IntKind.signed, IntKind.bits]; omega
    have goOn : (M k ≠ k → q.active.testBit (M k) = true) → ∀ t, t < k + 1 → M t ≠ t → q.active.testBit (M t) = true := fun h t ht hne => by
      by_cases e : t = k
      · subst e; exact h hne
      · exact hall t (by omega) hne
    by_cases hne : M k = k
    · repeat' ((first | refine brP_t (by assumption) ?_ | refine brP_f (by assumption) ?_ | refine brP_t (decide_eq_true (by omega)) ?_ | refine brP_f (decide_eq_false (by omega)) ?_ | refine brP_t (nd_t (by omega)) ?_ | refine brP_f (nd_f (by omega)) ?_ | ((conv in (opS _ _ _ _) => whnf); first | rw [hget] | rw [hget']) | ((conv in (opM _ _ _ _ _) => whnf); (conv in (opS _ _ _ _) => whnf); first | rw [hget] | rw [hget']) | ((rw [hw])) | refine wpfS_seq1 ?_ | refine wpfS_go ?_ | fail) <;> conv => whnf)
      rw [hw2]
      exact ⟨k + 1, ⟨hk', goOn fun h => absurd hne h⟩, (show 16 - (k + 1) < 16 - k by omega), ⟨rfl, rfl, rfl, trivial⟩, rfl⟩
    · cases hb : q.active.testBit (M k) with
      | true =>
        have h1 := bit_one' hq.active hMk hb
        repeat' ((first | refine brP_t (by assumption) ?_ | refine brP_f (by assumption) ?_ | refine brP_t (decide_eq_true (by omega)) ?_ | refine brP_f (decide_eq_false (by omega)) ?_ | refine brP_t (nd_t (by omega)) ?_ | refine brP_f (nd_f (by omega)) ?_ | ((conv in (opS _ _ _ _) => whnf); first | rw [hget] | rw [hget']) | ((conv in (opM _ _ _ _ _) => whnf); (conv in (opS _ _ _ _) => whnf); first | rw [hget] | rw [hget']) | ((rw [hw])) | ((rw [hw3])) | ((rw [h1])) | refine wpfS_seq1 ?_ | refine wpfS_go ?_ | fail) <;> conv => whnf)
        rw [hw2]
        exact ⟨k + 1, ⟨hk', goOn fun _ => hb⟩, (show 16 - (k + 1) < 16 - k by omega), ⟨rfl, rfl, rfl, trivial⟩, rfl⟩
      | false =>
        have h1 := bit_zero hq.active hMk hb
        repeat' ((first | refine brP_t (by assumption) ?_ | refine brP_f (by assumption) ?_ | refine brP_t (decide_eq_true (by omega)) ?_ | refine brP_f (decide_eq_false (by omega)) ?_ | refine brP_t (nd_t (by omega)) ?_ | refine brP_f (nd_f (by omega)) ?_ | ((conv in (opS _ _ _ _) => whnf); first | rw [hget] | rw [hget']) | ((conv in (opM _ _ _ _ _) => whnf); (conv in (opS _ _ _ _) => whnf); first | rw [hget] | rw [hget']) | ((rw [hw])) | ((rw [hw3])) | ((rw [h1])) | refine callK_p c9 ?_ | refine callM_p c9 rfl ?_ | refine callK_pf rfl c9 ?_ | refine wpfS_seq1 ?_ | refine wpfS_go ?_ | fail) <;> conv => whnf)
        rfl
  · have hk' : k = 16 := by have := of_decide_eq_false h; omega
    subst hk'
    clear h
    have d1 := policy_Mapped_ok M hM8 q hq
    have d2 := R12_Mapped_ok M hM8 q hq hqc
    have hr := map_ok (M := M) hq
    have hrf := map_fine hq hqf hqc hMf hall
    have d4 := policy_Mapped_ok M hM8 (mapP M q) hr
    have d5 := policy_Mapped_ok id (fun i hi => by show i ≤ 255; omega) q hq
    rw [show (mapP M (mapP M q)).v = (mapP M q).v from congrArg AV.agg (map_idem hMf)] at d4
    rw [show (mapP id q).v = q.v from congrArg AV.agg (map_id hq)] at d5
    generalize mapP M q = r at *
    have d3 := policy_Fine_ok r hr
    rw [hrf] at d3
    have c2 := relabel_Same_ok
    conv => whnf
    repeat' ((first | refine brP_t (by assumption) ?_ | refine brP_f (by assumption) ?_ | refine brP_t (decide_eq_true (by omega)) ?_ | refine brP_f (decide_eq_false (by omega)) ?_ | refine brP_t (nd_t (by omega)) ?_ | refine brP_f (nd_f (by omega)) ?_ | refine callK_p d1 ?_ | refine callM_p d1 rfl ?_ | refine callK_pf rfl d1 ?_ | refine callK_p d2 ?_ | refine callM_p d2 rfl ?_ | refine callK_pf rfl d2 ?_ | refine callK_p d3 ?_ | refine callM_p d3 rfl ?_ | refine callK_pf rfl d3 ?_ | refine callK_p d4 ?_ | refine callM_p d4 rfl ?_ | refine callK_pf rfl d4 ?_ | refine callK_p d5 ?_ | refine callM_p d5 rfl ?_ | refine callK_pf rfl d5 ?_ | refine callK_p c2 ?_ | refine callM_p c2 rfl ?_ | refine callK_pf rfl c2 ?_ | refine callK_p c9 ?_ | refine callM_p c9 rfl ?_ | refine callK_pf rfl c9 ?_ | (refine brP_t ?_ ?_; focus (simp; done)) | refine wpfS_seq1 ?_ | refine wpfS_go ?_ | fail) <;> conv => whnf)
    rfl
end Go.Ab.S
