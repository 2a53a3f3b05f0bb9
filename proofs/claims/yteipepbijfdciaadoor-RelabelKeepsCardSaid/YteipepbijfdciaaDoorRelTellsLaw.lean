/- Part of a proof; no condition. -/
import Derived.Test.YteipepbijfdciaaDoorRelR8
set_option linter.unusedSimpArgs false
set_option linter.unusedVariables false
namespace Go.Ab.S
open Go Go.Ab Go.Proofs
attribute [local irreducible] SemS
set_option maxRecDepth 100000
def slv (l : List (Int × Int)) : AV := .c (.p (.sl (prows l)))
theorem made_le (l : List (Int × Int)) : ∀ i, i < 16 → madeN l i ≤ 255 := fun i hi => by have := made_lt l i hi; omega
theorem tells_ok (M : Nat → Nat) (hM : ∀ i, i < 16 → M i ≤ 255) (l : List (Int × Int)) (s i : Nat) (hs : s < 65536) (hi : i < 65536) : EvP Tryd.prog G f_L04_RelabelTells [mv M, slv l, lab s i] (bv true) := by
  have hlen : (prows l).length = l.length := by simp [prows]
  refine EvP.of_wpf false hm c_L04_RelabelTells rfl ?_
  refine wpf_seq1 ?_
  conv => whnf
  refine wpfS_seq1 ?_
  conv => whnf
  rw [hlen]
  refine brP_mk (fun h => ?_) (fun h => ?_)
  · conv => whnf
    repeat' ((first | refine brP_t (by assumption) ?_ | refine brP_f (by assumption) ?_ | refine brP_t (decide_eq_true (by omega)) ?_ | refine brP_f (decide_eq_false (by omega)) ?_ | refine callK_p L04_alive_ok ?_ | refine callM_p L04_alive_ok rfl ?_ | refine callK_pf rfl L04_alive_ok ?_ | fail) <;> conv => whnf)
    rfl
  · have hl : l.length ≤ 1000 := by have := of_decide_eq_false h; omega
    conv => whnf
    cases hf : fineB M with
    | true =>
      have e1 := relabel_Fine_ok M hM
      have e2 := R04_Fine_ok M
      rw [hf] at e1 e2
      repeat' ((first | refine brP_t (by assumption) ?_ | refine brP_f (by assumption) ?_ | refine brP_t (decide_eq_true (by omega)) ?_ | refine brP_f (decide_eq_false (by omega)) ?_ | refine wpfS_seq1 ?_ | refine wpfS_go ?_ | refine callK_p e1 ?_ | refine callM_p e1 rfl ?_ | refine callK_pf rfl e1 ?_ | refine callK_p e2 ?_ | refine callM_p e2 rfl ?_ | refine callK_pf rfl e2 ?_ | refine callK_p (relabel_Set_ok M hM s hs) ?_ | refine callM_p (relabel_Set_ok M hM s hs) rfl ?_ | refine callK_pf rfl (relabel_Set_ok M hM s hs) ?_ | refine callK_p (R04_Set_ok M hM s hs) ?_ | refine callM_p (R04_Set_ok M hM s hs) rfl ?_ | refine callK_pf rfl (R04_Set_ok M hM s hs) ?_ | refine callK_p (relabel_Label_ok M hM s i hs hi) ?_ | refine callM_p (relabel_Label_ok M hM s i hs hi) rfl ?_ | refine callK_pf rfl (relabel_Label_ok M hM s i hs hi) ?_ | refine callK_p (R04_Label_ok M hM s i hs hi) ?_ | refine callM_p (R04_Label_ok M hM s i hs hi) rfl ?_ | refine callK_pf rfl (R04_Label_ok M hM s i hs hi) ?_ | refine callK_p (relabel_Moved_ok M hM) ?_ | refine callM_p (relabel_Moved_ok M hM) rfl ?_ | refine callK_pf rfl (relabel_Moved_ok M hM) ?_ | refine callK_p (R04_Moved_ok M hM) ?_ | refine callM_p (R04_Moved_ok M hM) rfl ?_ | refine callK_pf rfl (R04_Moved_ok M hM) ?_ | refine callK_p (relabel_Touches_ok M hM s i hs hi) ?_ | refine callM_p (relabel_Touches_ok M hM s i hs hi) rfl ?_ | refine callK_pf rfl (relabel_Touches_ok M hM s i hs hi) ?_ | refine callK_p (R04_Touches_ok M hM s i hs hi) ?_ | refine callM_p (R04_Touches_ok M hM s i hs hi) rfl ?_ | refine callK_pf rfl (R04_Touches_ok M hM s i hs hi) ?_ | refine callK_p relabel_Same_ok ?_ | refine callM_p relabel_Same_ok rfl ?_ | refine callK_pf rfl relabel_Same_ok ?_ | refine callK_p R04_Same_ok ?_ | refine callM_p R04_Same_ok rfl ?_ | refine callK_pf rfl R04_Same_ok ?_ | refine callK_p L04_alive_ok ?_ | refine callM_p L04_alive_ok rfl ?_ | refine callK_pf rfl L04_alive_ok ?_ | refine brP_t (by simp; done) ?_ | refine brP_f (by simp; done) ?_ | fail) <;> conv => whnf)
      rfl
    | false =>
      have e1 := relabel_Fine_ok M hM
      have e2 := R04_Fine_ok M
      rw [hf] at e1 e2
      repeat' ((first | refine brP_t (by assumption) ?_ | refine brP_f (by assumption) ?_ | refine brP_t (decide_eq_true (by omega)) ?_ | refine brP_f (decide_eq_false (by omega)) ?_ | refine wpfS_seq1 ?_ | refine wpfS_go ?_ | refine callK_p e1 ?_ | refine callM_p e1 rfl ?_ | refine callK_pf rfl e1 ?_ | refine callK_p e2 ?_ | refine callM_p e2 rfl ?_ | refine callK_pf rfl e2 ?_ | refine callK_p (R04_Made_ok l hl) ?_ | refine callM_p (R04_Made_ok l hl) rfl ?_ | refine callK_pf rfl (R04_Made_ok l hl) ?_ | refine callK_p (relabel_Set_ok _ (made_le l) s hs) ?_ | refine callM_p (relabel_Set_ok _ (made_le l) s hs) rfl ?_ | refine callK_pf rfl (relabel_Set_ok _ (made_le l) s hs) ?_ | refine callK_p (R04_Set_ok _ (made_le l) s hs) ?_ | refine callM_p (R04_Set_ok _ (made_le l) s hs) rfl ?_ | refine callK_pf rfl (R04_Set_ok _ (made_le l) s hs) ?_ | refine callK_p (relabel_Label_ok _ (made_le l) s i hs hi) ?_ | refine callM_p (relabel_Label_ok _ (made_le l) s i hs hi) rfl ?_ | refine callK_pf rfl (relabel_Label_ok _ (made_le l) s i hs hi) ?_ | refine callK_p (R04_Label_ok _ (made_le l) s i hs hi) ?_ | refine callM_p (R04_Label_ok _ (made_le l) s i hs hi) rfl ?_ | refine callK_pf rfl (R04_Label_ok _ (made_le l) s i hs hi) ?_ | refine callK_p (relabel_Moved_ok _ (made_le l)) ?_ | refine callM_p (relabel_Moved_ok _ (made_le l)) rfl ?_ | refine callK_pf rfl (relabel_Moved_ok _ (made_le l)) ?_ | refine callK_p (R04_Moved_ok _ (made_le l)) ?_ | refine callM_p (R04_Moved_ok _ (made_le l)) rfl ?_ | refine callK_pf rfl (R04_Moved_ok _ (made_le l)) ?_ | refine callK_p (relabel_Touches_ok _ (made_le l) s i hs hi) ?_ | refine callM_p (relabel_Touches_ok _ (made_le l) s i hs hi) rfl ?_ | refine callK_pf rfl (relabel_Touches_ok _ (made_le l) s i hs hi) ?_ | refine callK_p (R04_Touches_ok _ (made_le l) s i hs hi) ?_ | refine callM_p (R04_Touches_ok _ (made_le l) s i hs hi) rfl ?_ | refine callK_pf rfl (R04_Touches_ok _ (made_le l) s i hs hi) ?_ | refine callK_p relabel_Same_ok ?_ | refine callM_p relabel_Same_ok rfl ?_ | refine callK_pf rfl relabel_Same_ok ?_ | refine callK_p R04_Same_ok ?_ | refine callM_p R04_Same_ok rfl ?_ | refine callK_pf rfl R04_Same_ok ?_ | refine callK_p L04_alive_ok ?_ | refine callM_p L04_alive_ok rfl ?_ | refine callK_pf rfl L04_alive_ok ?_ | refine brP_t (by simp; done) ?_ | refine brP_f (by simp; done) ?_ | fail) <;> conv => whnf)
      rfl

theorem prows_of : ∀ {es : List (List PV)}, (∀ r ∈ es, r.length = 2 ∧ wt (.arr 2 1 (.int .i64)) r) → ∃ l, es = prows l
  | [], _ => ⟨[], rfl⟩
  | r :: es, h => by
    obtain ⟨l, rfl⟩ := prows_of fun q hq => h q (List.mem_cons_of_mem _ hq)
    obtain ⟨-, rs, hr, h2, h3⟩ := h r (List.mem_cons_self ..)
    match rs, h2 with
    | [x, y], _ =>
      obtain ⟨-, a, rfl, -⟩ := h3 x (by simp)
      obtain ⟨-, b, rfl, -⟩ := h3 y (by simp)
      exact ⟨(a, b) :: l, by rw [hr]; rfl⟩
theorem map_of {cs : List PV} (h : wt (.arr 16 1 (.int .u8)) cs) : ∃ M : Nat → Nat, cs = mrow M ∧ ∀ i, i < 16 → M i ≤ 255 := by
  obtain ⟨rs, rfl, h2, h3⟩ := h
  have key : ∀ r ∈ rs, ∃ n : Nat, r = [.int .u8 n] ∧ n ≤ 255 := by
    intro r hr
    obtain ⟨-, n, rfl, h0, h1⟩ := h3 r hr
    have h0' : 0 ≤ n := by simpa [IntKind.min, IntKind.signed] using h0
    have h1' : n ≤ 255 := by simpa [IntKind.max, IntKind.signed, IntKind.bits] using h1
    exact ⟨n.toNat, by rw [Int.toNat_of_nonneg h0'], by omega⟩
  match rs, h2 with
  | [r0, r1, r2, r3, r4, r5, r6, r7, r8, r9, r10, r11, r12, r13, r14, r15], _ =>
    obtain ⟨n0, rfl, k0⟩ := key r0 (by simp)
    obtain ⟨n1, rfl, k1⟩ := key r1 (by simp)
    obtain ⟨n2, rfl, k2⟩ := key r2 (by simp)
    obtain ⟨n3, rfl, k3⟩ := key r3 (by simp)
    obtain ⟨n4, rfl, k4⟩ := key r4 (by simp)
    obtain ⟨n5, rfl, k5⟩ := key r5 (by simp)
    obtain ⟨n6, rfl, k6⟩ := key r6 (by simp)
    obtain ⟨n7, rfl, k7⟩ := key r7 (by simp)
    obtain ⟨n8, rfl, k8⟩ := key r8 (by simp)
    obtain ⟨n9, rfl, k9⟩ := key r9 (by simp)
    obtain ⟨n10, rfl, k10⟩ := key r10 (by simp)
    obtain ⟨n11, rfl, k11⟩ := key r11 (by simp)
    obtain ⟨n12, rfl, k12⟩ := key r12 (by simp)
    obtain ⟨n13, rfl, k13⟩ := key r13 (by simp)
    obtain ⟨n14, rfl, k14⟩ := key r14 (by simp)
    obtain ⟨n15, rfl, k15⟩ := key r15 (by simp)
    refine ⟨listM [n0, n1, n2, n3, n4, n5, n6, n7, n8, n9, n10, n11, n12, n13, n14, n15], rfl, fun i hi => ?_⟩
    have : i = 0 ∨ i = 1 ∨ i = 2 ∨ i = 3 ∨ i = 4 ∨ i = 5 ∨ i = 6 ∨ i = 7 ∨ i = 8 ∨ i = 9 ∨ i = 10 ∨ i = 11 ∨ i = 12 ∨ i = 13 ∨ i = 14 ∨ i = 15 := by omega
    rcases this with rfl | rfl | rfl | rfl | rfl | rfl | rfl | rfl | rfl | rfl | rfl | rfl | rfl | rfl | rfl | rfl <;> assumption
theorem lab_of {cs : List PV} (h : wt (.st (.cons 1 (.int .u16) (.cons 1 (.int .u16) .nil))) cs) : ∃ s i : Nat, cs = [.int .u16 s, .int .u16 i] ∧ s < 65536 ∧ i < 65536 := by
  obtain ⟨a, b, rfl, -, ⟨p, rfl, p0, p1⟩, ⟨b', c', rfl, -, ⟨q, rfl, q0, q1⟩, rfl⟩⟩ := h
  have e0 : 0 ≤ p := by simpa [IntKind.min, IntKind.signed] using p0
  have e1 : p ≤ 65535 := by simpa [IntKind.max, IntKind.signed, IntKind.bits] using p1
  have e2 : 0 ≤ q := by simpa [IntKind.min, IntKind.signed] using q0
  have e3 : q ≤ 65535 := by simpa [IntKind.max, IntKind.signed, IntKind.bits] using q1
  exact ⟨p.toNat, q.toNat, by rw [Int.toNat_of_nonneg e0, Int.toNat_of_nonneg e2]; rfl, by omega, by omega⟩
theorem law_tells (pvss : List (List PV)) (hw : wts [(.arr 16 1 (.int .u8)), (.sl 2 16 (.arr 2 1 (.int .i64))), (.st (.cons 1 (.int .u16) (.cons 1 (.int .u16) .nil)))] pvss) :
    EvP Tryd.prog G f_L04_RelabelTells (argAVs [(.arr 16 1 (.int .u8)), (.sl 2 16 (.arr 2 1 (.int .i64))), (.st (.cons 1 (.int .u16) (.cons 1 (.int .u16) .nil)))] pvss) (.c (.p (.bool true))) := by
  obtain ⟨c, _, rfl, hc, hw⟩ := wts_cons hw
  obtain ⟨n, _, rfl, hn, hw⟩ := wts_cons hw
  obtain ⟨e, _, rfl, he, hw⟩ := wts_cons hw
  cases wts_nil hw
  obtain ⟨M, rfl, hM⟩ := map_of hc
  obtain ⟨es, rfl, -, -, hes⟩ := hn
  obtain ⟨l, rfl⟩ := prows_of hes
  obtain ⟨s, i, rfl, hs, hi⟩ := lab_of he
  exact tells_ok M hM l s i hs hi
end Go.Ab.S
