/- The bytes of versions. No condition. -/
import Derived.Test.YtepldakgedckcaaDoorLY4
set_option linter.unusedSimpArgs false
set_option linter.unusedVariables false
namespace Go.Ab.S
open Go Go.Ab Go.Proofs
attribute [local irreducible] SemS
set_option maxRecDepth 100000
theorem polB_len (p : Pol) : (polB p).length ≤ 116 := by
  have h1 := bitsN_len p.live
  unfold polB
  simp only [List.length_append, numB_len, recs_len, owns_len]
  omega
theorem polB_cons (p : Pol) : ∃ y Y, polB p = y :: Y := by
  cases h : polB p with
  | nil =>
    have : (polB p).length = 0 := by rw [h]; rfl
    unfold polB at this
    simp only [List.length_append, numB_len] at this
    omega
  | cons y Y => exact ⟨y, Y, rfl⟩
theorem verB_len (e : Nat) : ∀ l : List Pol, (verB e l).length ≤ 1 + 116 * l.length := by
  intro l
  unfold verB
  rw [List.length_append, numB_len]
  have : (l.flatMap polB).length ≤ 116 * l.length := by
    induction l with
    | nil => exact Nat.le_refl _
    | cons p l ih =>
      have := polB_len p
      rw [List.flatMap_cons, List.length_append, List.length_cons]; omega
  omega
theorem verB_take (e : Nat) {l : List Pol} {i : Nat} (h : i < l.length) : verB e (l.take (i + 1)) = verB e (l.take i) ++ polB l[i] := by
  unfold verB
  rw [List.take_succ_eq_append_getElem h, List.flatMap_append, List.append_assoc]
  simp
theorem ones_all (B : List UInt8) : ((bytesOf B).all fun r => r.length == 1) = true := by
  unfold bytesOf
  simp
theorem app_ti {x y : List (List PV)} (hx : (x.all fun r => r.length == 1) = true) (hy : (y.all fun r => r.length == 1) = true) (hl : x.length + y.length ≤ 1000000) (h0 : 0 < y.length) : (((true && decide ((x.length + y.length) * 1 ≤ 2 ^ 47 ∧ x.length + y.length < 2 ^ 62 ∧ 0 < y.length)) && x.all fun r => r.length == 1) && y.all fun r => r.length == 1) = true := by
  rw [hx, hy, decide_eq_true ⟨by omega, by omega, h0⟩]; rfl
set_option maxHeartbeats 8000000 in
theorem version_Bytes_ok (e : Nat) (he : e ≤ 255) (l : List Pol) (hl : l.length ≤ 8) (hp : ∀ p ∈ l, p.Ok) : EvP PR G f_version_Bytes [iv e, slv (pols l)] (slv (bytesOf (verB e l))) := by
  have hlen := pols_len (l := l)
  have hwl : IntKind.u8.wrap (e : Int) = e := wrap8 (by omega)
  have hb0 : bytesOf (verB e []) = [[.int .u8 e]] := by
    unfold verB
    rw [List.flatMap_nil, List.append_nil, own_byte (by omega)]
  refine EvP.of_wpf false hm c_version_Bytes rfl ?_
  refine wpf_seq1 ?_
  conv => whnf
  repeat' ((first | refine brP_t (by assumption) ?_ | refine brP_f (by assumption) ?_ | refine brP_t (decide_eq_true (by omega)) ?_ | refine brP_f (decide_eq_false (by omega)) ?_ | refine brP_t (nd_t (by omega)) ?_ | refine brP_f (nd_f (by omega)) ?_ | ((rw [hlen])) | ((rw [hwl])) | refine wpfS_seq1 ?_ | refine wpfS_go ?_ | fail) <;> conv => whnf)
  refine SemS.loopC false hm (σ := Nat × Option (List PV)) (fun q => match q with
      | (i, none) => [(13, iv i), (12, iv l.length), (11, slv (pols l)), (5, .c (.ti (bytesOf (verB e []))))]
      | (i, some _) => [(13, iv i), (12, iv l.length), (11, slv (pols l)), (5, .c (.os (.loc 1) (verB e (l.take i)).length))])
    (fun q => match q with
      | (_, none) => ⟨[], []⟩
      | (i, some r) => ⟨[], [.row r, .arr 1 false (bytesOf (verB e (l.take i)))]⟩)
    (fun q => l.length - q.1) (fun q => q.1 ≤ l.length ∧ (q.2 = none → q.1 = 0)) (0, none) ⟨Nat.zero_le _, fun _ => rfl⟩ ⟨rfl, rfl, rfl, by rw [hb0]; rfl, trivial⟩ rfl ?_
  rintro ⟨i, o⟩ ⟨hi, ho⟩
  have hi : i ≤ l.length := hi
  have hbl := verB_len e (l.take i)
  rw [List.length_take] at hbl
  have hby := bytesOf_len (verB e (l.take i))
  cases o with
  | none =>
    have ho : i = 0 := ho rfl
    have htk : l.take i = [] := by rw [ho]; rfl
    rw [hb0]
    show wpf PR G false _ _ [(13, iv i), (12, iv l.length), (11, slv (pols l)), (5, .c (.ti [[.int .u8 e]]))] ⟨[], []⟩ _
    by_cases hin : (i : Int) < l.length
    · have hi' : i < l.length := by omega
      have hget := pols_get hi'
      have hst := verB_take e hi'
      have d1 := policy_Bytes_ok l[i] (hp _ (List.getElem_mem hi'))
      have hpl := polB_len l[i]
      have hpy := bytesOf_len (polB l[i])
      have hpa := ones_all (polB l[i])
      have hw2 : IntKind.i64.wrap ((i : Int) + 1) = ((i + 1 : Nat) : Int) := by rw [wrap64 (by omega)]; rfl
      rw [htk] at hst
      have hlR := row66 l[i]
      have eP : l[i].v = .agg (List.take 66 (List.drop 0 l[i].row)) := by rw [td66 hlR]; rfl
      rw [eP] at d1
      clear eP
      obtain ⟨y, Y, hY⟩ := polB_cons l[i]
      rw [hY] at hst d1 hpl hpy hpa
      clear hY
      generalize l[i].row = R at *
      have hput : ∀ z : List PV, z.length = 66 → putAt z 0 (List.take 66 (List.drop 0 R)) = R := fun z hz => by rw [td66 hlR]; exact put66 hlR hz
      refine wpf_of_S ?_
      repeat' ((first | refine brP_t (by assumption) ?_ | refine brP_f (by assumption) ?_ | refine brP_t (decide_eq_true (by omega)) ?_ | refine brP_f (decide_eq_false (by omega)) ?_ | refine brP_t (nd_t (by omega)) ?_ | refine brP_f (nd_f (by omega)) ?_ | ((conv in (opS _ _ _ _) => whnf); rw [Int.toNat_natCast, hget]) | ((conv in (opM _ _ _ _ _) => whnf); (conv in (opS _ _ _ _) => whnf); rw [Int.toNat_natCast, hget]) | ((rw [hw2])) | refine callK_p d1 ?_ | refine callM_p d1 rfl ?_ | refine callK_pf rfl d1 ?_ | refine callK_pk rfl d1 ?_ | ((rw [hput]; rotate_left; rfl)) | (refine gd_mk ?_ ?_; focus (simp [hlR]; done)) | (refine gd_mk ?_ ?_; focus (exact app_ti rfl hpa (by show 1 + (bytesOf (y :: Y)).length ≤ 1000000; omega) (by rw [hpy]; exact Nat.succ_pos _); done)) | refine wpfS_seq2 ?_ | refine wpfS_cons ?_ | refine wpfS_nil ?_ | refine wpfS_cond ?_ | refine wpfS_block ?_ | refine wpfS_dr ?_ | refine lMS_cons ?_ | refine lMS_nil ?_ | refine wpfS_go ?_ | fail) <;> conv => whnf)
      refine ⟨(i + 1, some R), 2, ⟨hi', fun h => (by cases h)⟩, (show l.length - (i + 1) < l.length - i by omega), ⟨rfl, rfl, rfl, ?_, trivial⟩, Nat.zero_le _, ?_, rfl, rfl⟩
      · show AV.c (.os (.loc 1) (1 + (bytesOf (y :: Y)).length)) = AV.c (.os (.loc 1) (verB e (l.take (i + 1))).length)
        rw [hst, List.length_append, hpy]
        congr 2
      · show _ = (⟨[], [.row R, .arr 1 false (bytesOf (verB e (l.take (i + 1))))]⟩ : Hp)
        rw [hst, bytesOf_app, hb0]
        rfl
    · have hi' : l.length = 0 := by omega
      have hl0 : l = [] := List.eq_nil_of_length_eq_zero hi'
      subst hl0
      rw [hb0]
      refine wpf_of_S ?_
      repeat' ((first | refine brP_t (by assumption) ?_ | refine brP_f (by assumption) ?_ | refine brP_t (decide_eq_true (by omega)) ?_ | refine brP_f (decide_eq_false (by omega)) ?_ | refine brP_t (nd_t (by omega)) ?_ | refine brP_f (nd_f (by omega)) ?_ | refine wpfS_seq2 ?_ | refine wpfS_cons ?_ | refine wpfS_nil ?_ | refine wpfS_cond ?_ | refine wpfS_block ?_ | refine wpfS_dr ?_ | refine lMS_cons ?_ | refine lMS_nil ?_ | refine wpfS_go ?_ | fail) <;> conv => whnf)
      rfl
  | some r =>
    show wpf PR G false _ _ [(13, iv i), (12, iv l.length), (11, slv (pols l)), (5, .c (.os (.loc 1) (verB e (l.take i)).length))] ⟨[], [.row r, .arr 1 false (bytesOf (verB e (l.take i)))]⟩ _
    by_cases hin : (i : Int) < l.length
    · have hi' : i < l.length := by omega
      have hget := pols_get hi'
      have hst := verB_take e hi'
      have d1 := policy_Bytes_ok l[i] (hp _ (List.getElem_mem hi'))
      have hpl := polB_len l[i]
      have hpy := bytesOf_len (polB l[i])
      have hpa := ones_all (polB l[i])
      have hw2 : IntKind.i64.wrap ((i : Int) + 1) = ((i + 1 : Nat) : Int) := by rw [wrap64 (by omega)]; rfl
      have hlR := row66 l[i]
      have eP : l[i].v = .agg (List.take 66 (List.drop 0 l[i].row)) := by rw [td66 hlR]; rfl
      rw [eP] at d1
      clear eP
      obtain ⟨y, Y, hY⟩ := polB_cons l[i]
      rw [hY] at hst d1 hpl hpy hpa
      clear hY
      generalize l[i].row = R at *
      generalize hX : verB e (l.take i) = X at *
      have hput : ∀ z : List PV, z.length = 66 → putAt z 0 (List.take 66 (List.drop 0 R)) = R := fun z hz => by rw [td66 hlR]; exact put66 hlR hz
      refine wpf_of_S ?_
      repeat' ((first | refine brP_t (by assumption) ?_ | refine brP_f (by assumption) ?_ | refine brP_t (decide_eq_true (by omega)) ?_ | refine brP_f (decide_eq_false (by omega)) ?_ | refine brP_t (nd_t (by omega)) ?_ | refine brP_f (nd_f (by omega)) ?_ | ((conv in (opS _ _ _ _) => whnf); rw [Int.toNat_natCast, hget]) | ((conv in (opM _ _ _ _ _) => whnf); (conv in (opS _ _ _ _) => whnf); rw [Int.toNat_natCast, hget]) | ((rw [hw2])) | refine callK_p d1 ?_ | refine callM_p d1 rfl ?_ | refine callK_pf rfl d1 ?_ | refine callK_pk rfl d1 ?_ | ((rw [hput]; rotate_left; rfl)) | (refine gd_mk ?_ ?_; focus (simp [hlR]; done)) | (refine gd_mk ?_ ?_; focus (exact app_okP hby.symm hpa (by show X.length + (bytesOf (y :: Y)).length ≤ 1000000; omega); done)) | refine wpfS_seq2 ?_ | refine wpfS_cons ?_ | refine wpfS_nil ?_ | refine wpfS_cond ?_ | refine wpfS_block ?_ | refine wpfS_dr ?_ | refine lMS_cons ?_ | refine lMS_nil ?_ | refine wpfS_go ?_ | fail) <;> conv => whnf)
      refine ⟨(i + 1, some r), 2, ⟨hi', fun h => (by cases h)⟩, (show l.length - (i + 1) < l.length - i by omega), ⟨rfl, rfl, rfl, ?_, trivial⟩, Nat.le_refl _, ?_, rfl, rfl⟩
      · show AV.c (.os (.loc 1) (X.length + (bytesOf (y :: Y)).length)) = AV.c (.os (.loc 1) (verB e (l.take (i + 1))).length)
        rw [hst, List.length_append, hpy]
      · show _ = (⟨[], [.row r, .arr 1 false (bytesOf (verB e (l.take (i + 1))))]⟩ : Hp)
        rw [hst, bytesOf_app]
        rfl
    · have hi' : i = l.length := by omega
      subst hi'
      rw [List.take_length] at hby ⊢
      generalize verB e l = B0 at *
      refine wpf_of_S ?_
      repeat' ((first | refine brP_t (by assumption) ?_ | refine brP_f (by assumption) ?_ | refine brP_t (decide_eq_true (by omega)) ?_ | refine brP_f (decide_eq_false (by omega)) ?_ | refine brP_t (nd_t (by omega)) ?_ | refine brP_f (nd_f (by omega)) ?_ | (refine gd_mk ?_ ?_; focus (exact decide_eq_true hby.symm; done)) | (refine gd_mk ?_ ?_; focus (simp [hby]; done)) | refine wpfS_seq2 ?_ | refine wpfS_cons ?_ | refine wpfS_nil ?_ | refine wpfS_cond ?_ | refine wpfS_block ?_ | refine wpfS_dr ?_ | refine lMS_cons ?_ | refine lMS_nil ?_ | refine wpfS_go ?_ | fail) <;> conv => whnf)
      rfl
set_option maxHeartbeats 8000000 in
theorem R14_Bytes_ok (e : Nat) (he : e ≤ 255) (l : List Pol) (hl : l.length ≤ 8) (hp : ∀ p ∈ l, p.Ok) : EvP PR G f_R14_Bytes [iv e, slv (pols l)] (slv (bytesOf (verB e l))) := by
  have hlen := pols_len (l := l)
  have hwl : IntKind.u8.wrap (e : Int) = e := wrap8 (by omega)
  have hb0 : bytesOf (verB e []) = [[.int .u8 e]] := by
    unfold verB
    rw [List.flatMap_nil, List.append_nil, own_byte (by omega)]
  refine EvP.of_wpf false hm c_R14_Bytes rfl ?_
  refine wpf_seq1 ?_
  conv => whnf
  repeat' ((first | refine brP_t (by assumption) ?_ | refine brP_f (by assumption) ?_ | refine brP_t (decide_eq_true (by omega)) ?_ | refine brP_f (decide_eq_false (by omega)) ?_ | refine brP_t (nd_t (by omega)) ?_ | refine brP_f (nd_f (by omega)) ?_ | ((rw [hlen])) | ((rw [hwl])) | refine wpfS_seq1 ?_ | refine wpfS_go ?_ | fail) <;> conv => whnf)
  refine SemS.loopC false hm (σ := Nat × Bool) (fun q => match q with
      | (i, false) => [(6, iv i), (1, slv (pols l)), (5, .c (.ti (bytesOf (verB e []))))]
      | (i, true) => [(6, iv i), (1, slv (pols l)), (5, .c (.os (.loc 0) (verB e (l.take i)).length))])
    (fun q => match q with
      | (_, false) => ⟨[], []⟩
      | (i, true) => ⟨[], [.arr 1 false (bytesOf (verB e (l.take i)))]⟩)
    (fun q => l.length - q.1) (fun q => q.1 ≤ l.length ∧ (q.2 = false → q.1 = 0)) (0, false) ⟨Nat.zero_le _, fun _ => rfl⟩ ⟨rfl, rfl, by rw [hb0]; rfl, trivial⟩ rfl ?_
  rintro ⟨i, o⟩ ⟨hi, ho⟩
  have hi : i ≤ l.length := hi
  have hbl := verB_len e (l.take i)
  rw [List.length_take] at hbl
  have hby := bytesOf_len (verB e (l.take i))
  cases o with
  | false =>
    have ho : i = 0 := ho rfl
    have htk : l.take i = [] := by rw [ho]; rfl
    rw [hb0]
    show wpf PR G false _ _ [(6, iv i), (1, slv (pols l)), (5, .c (.ti [[.int .u8 e]]))] ⟨[], []⟩ _
    by_cases hin : (i : Int) < l.length
    · have hi' : i < l.length := by omega
      have hget := pols_get hi'
      have hst := verB_take e hi'
      have d1 := R12_Bytes_ok l[i] (hp _ (List.getElem_mem hi'))
      have hpl := polB_len l[i]
      have hpy := bytesOf_len (polB l[i])
      have hpa := ones_all (polB l[i])
      have hw2 : IntKind.i64.wrap ((i : Int) + 1) = ((i + 1 : Nat) : Int) := by rw [wrap64 (by omega)]; rfl
      rw [htk] at hst
      have hlR := row66 l[i]
      have eP : l[i].v = .agg (List.take 66 (List.drop 0 l[i].row)) := by rw [td66 hlR]; rfl
      rw [eP] at d1
      clear eP
      obtain ⟨y, Y, hY⟩ := polB_cons l[i]
      rw [hY] at hst d1 hpl hpy hpa
      clear hY
      generalize l[i].row = R at *
      have hput : ∀ z : List PV, z.length = 66 → putAt z 0 (List.take 66 (List.drop 0 R)) = R := fun z hz => by rw [td66 hlR]; exact put66 hlR hz
      refine wpf_of_S ?_
      repeat' ((first | refine brP_t (by assumption) ?_ | refine brP_f (by assumption) ?_ | refine brP_t (decide_eq_true (by omega)) ?_ | refine brP_f (decide_eq_false (by omega)) ?_ | refine brP_t (nd_t (by omega)) ?_ | refine brP_f (nd_f (by omega)) ?_ | ((conv in (opS _ _ _ _) => whnf); rw [Int.toNat_natCast, hget]) | ((conv in (opM _ _ _ _ _) => whnf); (conv in (opS _ _ _ _) => whnf); rw [Int.toNat_natCast, hget]) | ((rw [hlen])) | ((rw [hw2])) | refine callK_p d1 ?_ | refine callM_p d1 rfl ?_ | refine callK_pf rfl d1 ?_ | refine callK_pk rfl d1 ?_ | ((rw [hput]; rotate_left; rfl)) | (refine gd_mk ?_ ?_; focus (simp [hlR]; done)) | (refine gd_mk ?_ ?_; focus (exact app_ti rfl hpa (by show 1 + (bytesOf (y :: Y)).length ≤ 1000000; omega) (by rw [hpy]; exact Nat.succ_pos _); done)) | refine wpfS_seq2 ?_ | refine wpfS_cons ?_ | refine wpfS_nil ?_ | refine wpfS_cond ?_ | refine wpfS_block ?_ | refine wpfS_dr ?_ | refine lMS_cons ?_ | refine lMS_nil ?_ | refine wpfS_go ?_ | fail) <;> conv => whnf)
      refine ⟨(i + 1, true), 1, ⟨hi', fun h => (by cases h)⟩, (show l.length - (i + 1) < l.length - i by omega), ⟨rfl, rfl, ?_, trivial⟩, Nat.zero_le _, ?_, rfl, rfl⟩
      · show AV.c (.os (.loc 0) (1 + (bytesOf (y :: Y)).length)) = AV.c (.os (.loc 0) (verB e (l.take (i + 1))).length)
        rw [hst, List.length_append, hpy]
        congr 2
      · show _ = (⟨[], [.arr 1 false (bytesOf (verB e (l.take (i + 1))))]⟩ : Hp)
        rw [hst, bytesOf_app, hb0]
        rfl
    · have hi' : l.length = 0 := by omega
      have hl0 : l = [] := List.eq_nil_of_length_eq_zero hi'
      subst hl0
      rw [hb0]
      refine wpf_of_S ?_
      repeat' ((first | refine brP_t (by assumption) ?_ | refine brP_f (by assumption) ?_ | refine brP_t (decide_eq_true (by omega)) ?_ | refine brP_f (decide_eq_false (by omega)) ?_ | refine brP_t (nd_t (by omega)) ?_ | refine brP_f (nd_f (by omega)) ?_ | ((rw [hlen])) | refine wpfS_seq2 ?_ | refine wpfS_cons ?_ | refine wpfS_nil ?_ | refine wpfS_cond ?_ | refine wpfS_block ?_ | refine wpfS_dr ?_ | refine lMS_cons ?_ | refine lMS_nil ?_ | refine wpfS_go ?_ | fail) <;> conv => whnf)
      rfl
  | true =>
    show wpf PR G false _ _ [(6, iv i), (1, slv (pols l)), (5, .c (.os (.loc 0) (verB e (l.take i)).length))] ⟨[], [.arr 1 false (bytesOf (verB e (l.take i)))]⟩ _
    by_cases hin : (i : Int) < l.length
    · have hi' : i < l.length := by omega
      have hget := pols_get hi'
      have hst := verB_take e hi'
      have d1 := R12_Bytes_ok l[i] (hp _ (List.getElem_mem hi'))
      have hpl := polB_len l[i]
      have hpy := bytesOf_len (polB l[i])
      have hpa := ones_all (polB l[i])
      have hw2 : IntKind.i64.wrap ((i : Int) + 1) = ((i + 1 : Nat) : Int) := by rw [wrap64 (by omega)]; rfl
      have hlR := row66 l[i]
      have eP : l[i].v = .agg (List.take 66 (List.drop 0 l[i].row)) := by rw [td66 hlR]; rfl
      rw [eP] at d1
      clear eP
      obtain ⟨y, Y, hY⟩ := polB_cons l[i]
      rw [hY] at hst d1 hpl hpy hpa
      clear hY
      generalize l[i].row = R at *
      generalize hX : verB e (l.take i) = X at *
      have hput : ∀ z : List PV, z.length = 66 → putAt z 0 (List.take 66 (List.drop 0 R)) = R := fun z hz => by rw [td66 hlR]; exact put66 hlR hz
      refine wpf_of_S ?_
      repeat' ((first | refine brP_t (by assumption) ?_ | refine brP_f (by assumption) ?_ | refine brP_t (decide_eq_true (by omega)) ?_ | refine brP_f (decide_eq_false (by omega)) ?_ | refine brP_t (nd_t (by omega)) ?_ | refine brP_f (nd_f (by omega)) ?_ | ((conv in (opS _ _ _ _) => whnf); rw [Int.toNat_natCast, hget]) | ((conv in (opM _ _ _ _ _) => whnf); (conv in (opS _ _ _ _) => whnf); rw [Int.toNat_natCast, hget]) | ((rw [hlen])) | ((rw [hw2])) | refine callK_p d1 ?_ | refine callM_p d1 rfl ?_ | refine callK_pf rfl d1 ?_ | refine callK_pk rfl d1 ?_ | ((rw [hput]; rotate_left; rfl)) | (refine gd_mk ?_ ?_; focus (simp [hlR]; done)) | (refine gd_mk ?_ ?_; focus (exact app_okP hby.symm hpa (by show X.length + (bytesOf (y :: Y)).length ≤ 1000000; omega); done)) | refine wpfS_seq2 ?_ | refine wpfS_cons ?_ | refine wpfS_nil ?_ | refine wpfS_cond ?_ | refine wpfS_block ?_ | refine wpfS_dr ?_ | refine lMS_cons ?_ | refine lMS_nil ?_ | refine wpfS_go ?_ | fail) <;> conv => whnf)
      refine ⟨(i + 1, true), 1, ⟨hi', fun h => (by cases h)⟩, (show l.length - (i + 1) < l.length - i by omega), ⟨rfl, rfl, ?_, trivial⟩, Nat.le_refl _, ?_, rfl, rfl⟩
      · show AV.c (.os (.loc 0) (X.length + (bytesOf (y :: Y)).length)) = AV.c (.os (.loc 0) (verB e (l.take (i + 1))).length)
        rw [hst, List.length_append, hpy]
      · show _ = (⟨[], [.arr 1 false (bytesOf (verB e (l.take (i + 1))))]⟩ : Hp)
        rw [hst, bytesOf_app]
        rfl
    · have hi' : i = l.length := by omega
      subst hi'
      rw [List.take_length] at hby ⊢
      generalize verB e l = B0 at *
      refine wpf_of_S ?_
      repeat' ((first | refine brP_t (by assumption) ?_ | refine brP_f (by assumption) ?_ | refine brP_t (decide_eq_true (by omega)) ?_ | refine brP_f (decide_eq_false (by omega)) ?_ | refine brP_t (nd_t (by omega)) ?_ | refine brP_f (nd_f (by omega)) ?_ | ((rw [hlen])) | (refine gd_mk ?_ ?_; focus (exact decide_eq_true hby.symm; done)) | (refine gd_mk ?_ ?_; focus (simp [hby]; done)) | refine wpfS_seq2 ?_ | refine wpfS_cons ?_ | refine wpfS_nil ?_ | refine wpfS_cond ?_ | refine wpfS_block ?_ | refine wpfS_dr ?_ | refine lMS_cons ?_ | refine lMS_nil ?_ | refine wpfS_go ?_ | fail) <;> conv => whnf)
      rfl
end Go.Ab.S
