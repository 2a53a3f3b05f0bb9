/- Lists of objects compared; objects too long to be looked at; ObjectMakes. No condition. -/
import Derived.Test.YtmohadlgjokgmaaBxO4
import Derived.Test.YtmohadlgjokgmaaBxUA
set_option linter.unusedSimpArgs false
set_option linter.unusedVariables false
namespace Go.Ab.S
open Go Go.Ab Go.Proofs
attribute [local irreducible] SemS
set_option maxRecDepth 100000
abbrev shMade : Sh := .st (.cons 4 shId (.cons 1 (.int .u8) (.cons 1 (.int .u8) (.cons 2 shLab (.cons 1 .str .nil)))))
theorem law_objectMakes (pvss : List (List PV)) (hw : wts [shMade] pvss) : EvP PR G f_L25_ObjectMakes (argAVs [shMade] pvss) (.c (.p (.bool true))) := by
  obtain ⟨a, _, rfl, ha, hw⟩ := wts_cons hw
  cases wts_nil hw
  obtain ⟨a1, _, rfl, -, hid, a2, _, rfl, -, ⟨st, rfl, hst⟩, a3, _, rfl, -, ⟨ro, rfl, hro⟩, a4, _, rfl, -, hl, a5, _, rfl, -, ⟨buf, rfl, -⟩, rfl⟩ := ha
  obtain ⟨s, i, k, n, rfl, -, -, -, -⟩ := id_of hid
  obtain ⟨ls, li, rfl, -, -⟩ := lab_of hl
  obtain ⟨st', rfl, hst'⟩ := u8_of hst
  obtain ⟨ro', rfl, hro'⟩ := u8_of hro
  exact objectMakes_ok s i k n st' ro' hst' hro' ls li buf
theorem take_eq_ob {a b : List Ob} {i : Nat} (ha : i < a.length) (hb : i < b.length) (h : a.take i = b.take i) (he : a[i] = b[i]) : a.take (i + 1) = b.take (i + 1) := by
  rw [List.take_succ_eq_append_getElem ha, List.take_succ_eq_append_getElem hb, h, he]
set_option maxHeartbeats 2000000 in
theorem EqualFunc_ok (a b : List Ob) (hl : a.length < 2 ^ 62) (hb : b.length < 2 ^ 62) (ho : ∀ o ∈ a, o.Lim) : EvR PR G f_slices_EqualFunc_api_Object [slv (obs a), slv (obs b), .c (.fn f_object_Same [])] ⟨[], []⟩ (bv (decide (a = b))) ⟨[], []⟩ := by
  have hla := obs_len (l := a)
  have hlb := obs_len (l := b)
  refine EvR.of_wpfC false true hm c_slices_EqualFunc_api_Object rfl rfl ?_
  refine wpf_seq1 ?_
  conv => whnf
  by_cases hne : a.length = b.length
  case neg =>
    have hd : decide (a = b) = false := decide_eq_false fun h => hne (by rw [h])
    rw [hd]
    repeat' ((first | refine brP_t (by assumption) ?_ | refine brP_f (by assumption) ?_ | refine brP_t (decide_eq_true (by omega)) ?_ | refine brP_f (decide_eq_false (by omega)) ?_ | refine brP_t (nd_t (by omega)) ?_ | refine brP_f (nd_f (by omega)) ?_ | ((rw [hla])) | ((rw [hlb])) | refine brP_t (nd_t (by omega)) ?_ | refine wpfS_seq1 ?_ | refine wpfS_go ?_ | fail) <;> conv => whnf)
    exact ⟨rfl, rfl⟩
  repeat' ((first | refine brP_t (by assumption) ?_ | refine brP_f (by assumption) ?_ | refine brP_t (decide_eq_true (by omega)) ?_ | refine brP_f (decide_eq_false (by omega)) ?_ | refine brP_t (nd_t (by omega)) ?_ | refine brP_f (nd_f (by omega)) ?_ | ((rw [hla])) | ((rw [hlb])) | refine brP_f (nd_f (by omega)) ?_ | refine wpfS_seq1 ?_ | refine wpfS_go ?_ | fail) <;> conv => whnf)
  refine SemS.loopC false hm (σ := Nat) (fun i => [(17, iv i), (16, iv a.length), (15, slv (obs a)), (1, slv (obs b)), (2, .c (.fn f_object_Same []))]) (fun _ => ⟨[], []⟩) (fun i => a.length - i) (fun i => i ≤ a.length ∧ a.take i = b.take i) 0 ⟨Nat.zero_le _, rfl⟩ ⟨rfl, rfl, rfl, rfl, rfl, trivial⟩ rfl ?_
  rintro i ⟨hi, ht⟩
  refine wpf_seq1 ?_
  conv => whnf
  try (refine wpfS_seq1 ?_; conv => whnf)
  refine brP_mk (fun h => ?_) (fun h => ?_)
  · have hi' : i < a.length := by have := of_decide_eq_true h; omega
    clear h
    have hget := obs_get hi'
    have hib : i < b.length := by omega
    have hgetb := obs_get hib
    have hw2 : IntKind.i64.wrap ((i : Int) + 1) = ((i + 1 : Nat) : Int) := by rw [wrap64 (by omega)]; rfl
    have c1 := object_Same_ok a[i] b[i] (ho _ (List.getElem_mem hi'))
    have hstep : a[i] = b[i] → a.take (i + 1) = b.take (i + 1) := take_eq_ob hi' hib ht
    have hno : a[i] ≠ b[i] → a ≠ b := fun h e => h (by subst e; rfl)
    generalize a[i] = x at *
    generalize b[i] = y at *
    by_cases hxy : x = y
    · rw [decide_eq_true hxy] at c1
      repeat' ((first | refine brP_t (by assumption) ?_ | refine brP_f (by assumption) ?_ | refine brP_t (decide_eq_true (by omega)) ?_ | refine brP_f (decide_eq_false (by omega)) ?_ | refine brP_t (nd_t (by omega)) ?_ | refine brP_f (nd_f (by omega)) ?_ | ((conv in (opS _ _ _ _) => whnf); rw [Int.toNat_natCast, hget]) | ((conv in (opM _ _ _ _ _) => whnf); (conv in (opS _ _ _ _) => whnf); rw [Int.toNat_natCast, hget]) | ((conv in (opS _ _ _ _) => whnf); rw [Int.toNat_natCast, hgetb]) | ((conv in (opM _ _ _ _ _) => whnf); (conv in (opS _ _ _ _) => whnf); rw [Int.toNat_natCast, hgetb]) | refine callK_r (EvP.toR c1 _) ?_ | ((rw [hw2])) | refine wpfS_seq1 ?_ | refine wpfS_go ?_ | fail) <;> conv => whnf)
      exact ⟨i + 1, 0, ⟨hi', hstep hxy⟩, (show a.length - (i + 1) < a.length - i by omega), ⟨rfl, rfl, rfl, rfl, rfl, trivial⟩, Nat.le_refl _, rfl, rfl, rfl⟩
    · rw [decide_eq_false hxy] at c1
      rw [decide_eq_false (hno hxy)]
      repeat' ((first | refine brP_t (by assumption) ?_ | refine brP_f (by assumption) ?_ | refine brP_t (decide_eq_true (by omega)) ?_ | refine brP_f (decide_eq_false (by omega)) ?_ | refine brP_t (nd_t (by omega)) ?_ | refine brP_f (nd_f (by omega)) ?_ | ((conv in (opS _ _ _ _) => whnf); rw [Int.toNat_natCast, hget]) | ((conv in (opM _ _ _ _ _) => whnf); (conv in (opS _ _ _ _) => whnf); rw [Int.toNat_natCast, hget]) | ((conv in (opS _ _ _ _) => whnf); rw [Int.toNat_natCast, hgetb]) | ((conv in (opM _ _ _ _ _) => whnf); (conv in (opS _ _ _ _) => whnf); rw [Int.toNat_natCast, hgetb]) | refine callK_r (EvP.toR c1 _) ?_ | refine wpfS_seq1 ?_ | refine wpfS_go ?_ | fail) <;> conv => whnf)
      exact ⟨rfl, rfl⟩
  · have hi' : i = a.length := by have := of_decide_eq_false h; omega
    subst hi'
    clear h
    have hd : a = b := by
      rw [List.take_length, hne, List.take_length] at ht
      exact ht
    rw [decide_eq_true hd]
    repeat' ((first | refine brP_t (by assumption) ?_ | refine brP_f (by assumption) ?_ | refine brP_t (decide_eq_true (by omega)) ?_ | refine brP_f (decide_eq_false (by omega)) ?_ | refine brP_t (nd_t (by omega)) ?_ | refine brP_f (nd_f (by omega)) ?_ | refine wpfS_seq1 ?_ | refine wpfS_go ?_ | fail) <;> conv => whnf)
    exact ⟨rfl, rfl⟩
theorem SameAll_ok (a b : List Ob) (hl : a.length < 2 ^ 62) (hb : b.length < 2 ^ 62) (ho : ∀ o ∈ a, o.Lim) : EvP PR G f_object_SameAll [slv (obs a), slv (obs b)] (bv (decide (a = b))) := by
  have c1 := EqualFunc_ok a b hl hb ho
  refine EvP.of_wpf false hm c_object_SameAll rfl ?_
  conv => whnf
  repeat' ((first | refine brP_t (by assumption) ?_ | refine brP_f (by assumption) ?_ | refine brP_t (decide_eq_true (by omega)) ?_ | refine brP_f (decide_eq_false (by omega)) ?_ | refine brP_t (nd_t (by omega)) ?_ | refine brP_f (nd_f (by omega)) ?_ | refine callK_r (EvR.fr [] c1 rfl rfl trivial rfl) ?_ | refine callM_l (LEv.fr [] c1 rfl rfl trivial rfl rfl) ?_ | refine callK_rt (EvR.fr [] c1 rfl rfl trivial rfl) ?_ | refine callK_rf rfl (EvR.fr [] c1 rfl rfl trivial rfl) ?_ | refine callK_rft rfl (EvR.fr [] c1 rfl rfl trivial rfl) ?_ | refine wpfS_seq1 ?_ | refine wpfS_go ?_ | fail) <;> conv => whnf)
  rfl
end Go.Ab.S
