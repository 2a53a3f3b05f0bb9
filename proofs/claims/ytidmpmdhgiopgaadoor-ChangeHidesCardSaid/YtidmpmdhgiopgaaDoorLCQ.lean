/- ChangeHides. No condition. -/
import Derived.Test.YtidmpmdhgiopgaaDoorLCP
set_option linter.unusedSimpArgs false
set_option linter.unusedVariables false
namespace Go.Ab.S
open Go Go.Ab Go.Proofs
attribute [local irreducible] SemS
set_option maxRecDepth 100000
theorem shr_bit0 (s r : Nat) (hs : s < 65536) (hr : r < 16) : decide (IntKind.u16.wrap ((BitVec.ofInt IntKind.u16.bits ((s : Int).fdiv (2 ^ (min (r : Int).toNat IntKind.u16.bits))) &&& BitVec.ofInt IntKind.u16.bits (1 : Int)).toNat : Int) = 0) = !s.testBit r := by
  have h := shr_bit s r hs hr
  have hb : IntKind.bits .u16 = 16 := rfl
  have e : ((s : Int).fdiv (2 ^ (min (r : Int).toNat IntKind.u16.bits))) = ((s / 2 ^ r : Nat) : Int) := by
    rw [hb, Int.toNat_natCast, Nat.min_eq_left (by omega), Int.fdiv_eq_ediv_of_nonneg _ (by exact Int.le_of_lt (Int.pow_pos (by omega)))]
    rw [Int.natCast_ediv, Int.natCast_pow]; rfl
  have hlt : s / 2 ^ r < 65536 := Nat.lt_of_le_of_lt (Nat.div_le_self _ _) hs
  rw [e] at h ⊢
  have := and16 (a := s / 2 ^ r) (b := 1) hlt (by omega)
  have this : IntKind.u16.wrap ((BitVec.ofInt IntKind.u16.bits ((s / 2 ^ r : Nat) : Int) &&& BitVec.ofInt IntKind.u16.bits (1 : Int)).toNat : Int) = ((s / 2 ^ r &&& 1 : Nat) : Int) := this
  rw [this] at h ⊢
  rw [Nat.and_one_is_mod] at h ⊢
  rw [← h]
  have h2 : s / 2 ^ r % 2 = 0 ∨ s / 2 ^ r % 2 = 1 := by omega
  rcases h2 with h2 | h2 <;> rw [h2] <;> rfl
set_option maxHeartbeats 8000000 in
theorem changeHides_ok (p : Pol) (hp : p.Ok) (c : Chg) (hc : c.s < 65536 ∧ c.i < 65536) (s i : Nat) (hs : s < 65536) (hi : i < 65536) (role : Int) : EvP PR G f_L13_ChangeHides [p.v, .agg c.row, lab s i, iv role] (bv true) := by
  have m1 := R12_Mend_ok p hp
  have hq0 := mend_ok hp
  generalize mendP p = q0 at *
  have c1 := change_One_ok q0 hq0 c hc.1 hc.2
  have hok := (oneQ_ok hq0 hc.1 hc.2).1
  have hhid := fun q h hk => hidden_same (q := q) (c := c) (s := s) (i := i) hq0 h hk
  have hfi := fun q (h : oneQ q0 c = (q, 0)) => (oneQ_inv h).1
  unfold resQ at c1
  generalize oneQ q0 c = qe at *
  obtain ⟨q, e⟩ := qe
  dsimp only at hok
  have c1 : EvP PR G f_change_One [q0.v, .agg c.row] (.tup [.agg q.row, iv e]) := c1
  have hl := row66 q
  by_cases he : e = 0
  case neg =>
    generalize q.row = R at *
    obtain ⟨k, a, b, s', i'⟩ := c
    rw [chgrow] at *
    have hput : ∀ z : List PV, z.length = 66 → putAt z 0 R = R := fun z hz => put66 hl hz
    refine EvP.of_wpf false hm c_L13_ChangeHides rfl ?_
    refine wpf_seq1 ?_
    conv => whnf
    repeat' ((first | refine brP_t (by assumption) ?_ | refine brP_f (by assumption) ?_ | refine brP_t (decide_eq_true (by omega)) ?_ | refine brP_f (decide_eq_false (by omega)) ?_ | refine brP_t (nd_t (by omega)) ?_ | refine brP_f (nd_f (by omega)) ?_ | ((rw [hput]; rotate_left; rfl)) | (refine gd_mk ?_ ?_; focus (simp [hl]; done)) | refine callK_p L13_alive_ok ?_ | refine callM_p L13_alive_ok rfl ?_ | refine callK_pf rfl L13_alive_ok ?_ | refine callK_pk rfl L13_alive_ok ?_ | refine wpfS_seq1 ?_ | refine wpfS_go ?_ | fail) <;> conv => whnf)
    (first | refine callK_p m1 ?_ | refine callM_p m1 rfl ?_ | refine callK_pf rfl m1 ?_ | refine callK_pk rfl m1 ?_)
    conv => whnf
    repeat' ((first | refine brP_t (by assumption) ?_ | refine brP_f (by assumption) ?_ | refine brP_t (decide_eq_true (by omega)) ?_ | refine brP_f (decide_eq_false (by omega)) ?_ | refine brP_t (nd_t (by omega)) ?_ | refine brP_f (nd_f (by omega)) ?_ | ((rw [hput]; rotate_left; rfl)) | (refine gd_mk ?_ ?_; focus (simp [hl]; done)) | refine callK_p L13_alive_ok ?_ | refine callM_p L13_alive_ok rfl ?_ | refine callK_pf rfl L13_alive_ok ?_ | refine callK_pk rfl L13_alive_ok ?_ | refine wpfS_seq1 ?_ | refine wpfS_go ?_ | fail) <;> conv => whnf)
    (first | refine callK_p c1 ?_ | refine callM_p c1 rfl ?_ | refine callK_pf rfl c1 ?_ | refine callK_pk rfl c1 ?_)
    conv => whnf
    repeat' ((first | refine brP_t (by assumption) ?_ | refine brP_f (by assumption) ?_ | refine brP_t (decide_eq_true (by omega)) ?_ | refine brP_f (decide_eq_false (by omega)) ?_ | refine brP_t (nd_t (by omega)) ?_ | refine brP_f (nd_f (by omega)) ?_ | ((rw [hput]; rotate_left; rfl)) | (refine gd_mk ?_ ?_; focus (simp [hl]; done)) | refine callK_p L13_alive_ok ?_ | refine callM_p L13_alive_ok rfl ?_ | refine callK_pf rfl L13_alive_ok ?_ | refine callK_pk rfl L13_alive_ok ?_ | refine wpfS_seq1 ?_ | refine wpfS_go ?_ | fail) <;> conv => whnf)
    rfl
  subst he
  have hff := hfi q rfl
  have hhid := hhid q rfl
  clear hfi
  obtain ⟨hk1, ha, hb0, hb⟩ := Chg.fine_iff hff
  obtain ⟨k, a, b, s', i'⟩ := c
  dsimp only at hk1 ha hb0 hb hhid
  by_cases hk4 : 4 < k
  · generalize q.row = R at *
    rw [chgrow] at *
    have hput : ∀ z : List PV, z.length = 66 → putAt z 0 R = R := fun z hz => put66 hl hz
    refine EvP.of_wpf false hm c_L13_ChangeHides rfl ?_
    refine wpf_seq1 ?_
    conv => whnf
    repeat' ((first | refine brP_t (by assumption) ?_ | refine brP_f (by assumption) ?_ | refine brP_t (decide_eq_true (by omega)) ?_ | refine brP_f (decide_eq_false (by omega)) ?_ | refine brP_t (nd_t (by omega)) ?_ | refine brP_f (nd_f (by omega)) ?_ | ((rw [hput]; rotate_left; rfl)) | (refine gd_mk ?_ ?_; focus (simp [hl]; done)) | refine callK_p L13_alive_ok ?_ | refine callM_p L13_alive_ok rfl ?_ | refine callK_pf rfl L13_alive_ok ?_ | refine callK_pk rfl L13_alive_ok ?_ | refine wpfS_seq1 ?_ | refine wpfS_go ?_ | fail) <;> conv => whnf)
    (first | refine callK_p m1 ?_ | refine callM_p m1 rfl ?_ | refine callK_pf rfl m1 ?_ | refine callK_pk rfl m1 ?_)
    conv => whnf
    repeat' ((first | refine brP_t (by assumption) ?_ | refine brP_f (by assumption) ?_ | refine brP_t (decide_eq_true (by omega)) ?_ | refine brP_f (decide_eq_false (by omega)) ?_ | refine brP_t (nd_t (by omega)) ?_ | refine brP_f (nd_f (by omega)) ?_ | ((rw [hput]; rotate_left; rfl)) | (refine gd_mk ?_ ?_; focus (simp [hl]; done)) | refine callK_p L13_alive_ok ?_ | refine callM_p L13_alive_ok rfl ?_ | refine callK_pf rfl L13_alive_ok ?_ | refine callK_pk rfl L13_alive_ok ?_ | refine wpfS_seq1 ?_ | refine wpfS_go ?_ | fail) <;> conv => whnf)
    (first | refine callK_p c1 ?_ | refine callM_p c1 rfl ?_ | refine callK_pf rfl c1 ?_ | refine callK_pk rfl c1 ?_)
    conv => whnf
    repeat' ((first | refine brP_t (by assumption) ?_ | refine brP_f (by assumption) ?_ | refine brP_t (decide_eq_true (by omega)) ?_ | refine brP_f (decide_eq_false (by omega)) ?_ | refine brP_t (nd_t (by omega)) ?_ | refine brP_f (nd_f (by omega)) ?_ | ((rw [hput]; rotate_left; rfl)) | (refine gd_mk ?_ ?_; focus (simp [hl]; done)) | refine callK_p L13_alive_ok ?_ | refine callM_p L13_alive_ok rfl ?_ | refine callK_pf rfl L13_alive_ok ?_ | refine callK_pk rfl L13_alive_ok ?_ | refine wpfS_seq1 ?_ | refine wpfS_go ?_ | fail) <;> conv => whnf)
    rfl
  have hhid := hhid (by omega)
  obtain ⟨ra, rfl⟩ := Int.eq_ofNat_of_zero_le ha.1
  obtain ⟨rb, rfl⟩ := Int.eq_ofNat_of_zero_le hb0
  rw [Int.toNat_natCast, Int.toNat_natCast] at hhid
  have hra : ra < 16 := by omega
  have hrb : rb < 16 := by
    have : mostB k ≤ 15 := by unfold mostB; split <;> (try split) <;> (try split) <;> omega
    omega
  have c2 := policy_Seen_ok q0 hq0 s i hs hi
  have c3 := policy_Seen_ok q hok s i hs hi
  have c4 := policy_Caps_ok q0 hq0 role s i hs hi
  have c5 := policy_Caps_ok q hok role s i hs hi
  have c6 : EvP PR G f_R12_Cut [q0.v, lab s i] (.agg (cutS q0 (seenN q0 s i)).row) := R12_Cut_ok q0 hq0 s i hs hi
  have c7 : EvP PR G f_R12_Cut [q.v, lab s i] (.agg (cutS q (seenN q s i)).row) := R12_Cut_ok q hok s i hs hi
  have hfin : (((seenN q0 s i).testBit ra = false ∧ (seenN q s i).testBit ra = false) ∨ ((k = 3 ∨ k = 4) ∧ (seenN q0 s i).testBit rb = false ∧ (seenN q s i).testBit rb = false)) → seenN q s i = seenN q0 s i ∧ capsN q role s i = capsN q0 role s i ∧ (cutS q (seenN q s i)).row = (cutS q0 (seenN q0 s i)).row := fun h => by
    obtain ⟨h1, h2⟩ := hhid h
    exact ⟨h1.symm, (caps_same hq0 hok h1 h2 role).symm, by rw [← h1]; exact (cut_same h2).symm⟩
  have hS : seenN q0 s i < 65536 := seenN_lt
  have hT : seenN q s i < 65536 := seenN_lt
  have htc := pol_typ (cutS q0 (seenN q0 s i))
  clear hhid
  generalize seenN q0 s i = S at *
  generalize seenN q s i = T at *
  generalize capsN q0 role s i = cv at *
  generalize capsN q role s i = cw at *
  generalize (cutS q0 S).row = RC at *
  generalize (cutS q T).row = RD at *
  have hwa : IntKind.u64.wrap (ra : Int) = ra := by simp [IntKind.wrap, IntKind.signed, IntKind.bits]; omega
  have hwb : IntKind.u64.wrap (rb : Int) = rb := by simp [IntKind.wrap, IntKind.signed, IntKind.bits]; omega
  have hda : decide (IntKind.u16.wrap ((BitVec.ofInt IntKind.u16.bits (((IntKind.u16.wrap ((BitVec.ofInt IntKind.u16.bits (S : Int) ||| BitVec.ofInt IntKind.u16.bits (T : Int)).toNat : Int)).fdiv (2 ^ (min (IntKind.u64.wrap (ra : Int)).toNat IntKind.u16.bits)))) &&& BitVec.ofInt IntKind.u16.bits (1 : Int)).toNat : Int) = 0) = !(S.testBit ra || T.testBit ra) := by
    rw [hwa, or16 hS hT, ← Nat.testBit_or]
    exact shr_bit0 _ ra (or_lt hS hT) hra
  have hdb : decide (IntKind.u16.wrap ((BitVec.ofInt IntKind.u16.bits (((IntKind.u16.wrap ((BitVec.ofInt IntKind.u16.bits (S : Int) ||| BitVec.ofInt IntKind.u16.bits (T : Int)).toNat : Int)).fdiv (2 ^ (min (IntKind.u64.wrap (rb : Int)).toNat IntKind.u16.bits)))) &&& BitVec.ofInt IntKind.u16.bits (1 : Int)).toNat : Int) = 0) = !(S.testBit rb || T.testBit rb) := by
    rw [hwb, or16 hS hT, ← Nat.testBit_or]
    exact shr_bit0 _ rb (or_lt hS hT) hrb
  clear hwa hwb
  have e66 : q.v = .agg (List.take 66 (List.drop 0 q.row)) := by rw [td66 hl]; rfl
  rw [e66] at c3 c5 c7
  clear e66
  generalize q.row = R at *
  have hput : ∀ z : List PV, z.length = 66 → putAt z 0 R = R := fun z hz => put66 hl hz
  rw [chgrow] at *
  have hself : ∀ ks, ks = polK → eqCells ks RC RC = some true := fun ks e => by rw [e]; exact eqCells_self (ks := polK) htc rfl
  show EvP PR G f_L13_ChangeHides [p.v, .agg [.int .i64 k, .int .i64 ra, .int .i64 rb, .int .u16 s', .int .u16 i'], lab s i, iv role] _
  by_cases hk3 : k = 3
  · subst hk3
    cases hA : (S.testBit ra || T.testBit ra) with
    | false =>
      rw [hA] at hda
      rw [Bool.or_eq_false_iff] at hA
      obtain ⟨rfl, rfl, rfl⟩ := hfin (.inl hA)
      refine EvP.of_wpf false hm c_L13_ChangeHides rfl ?_
      refine wpf_seq1 ?_
      conv => whnf
      repeat' ((first | refine brP_t (by assumption) ?_ | refine brP_f (by assumption) ?_ | refine brP_t (decide_eq_true (by omega)) ?_ | refine brP_f (decide_eq_false (by omega)) ?_ | refine brP_t (nd_t (by omega)) ?_ | refine brP_f (nd_f (by omega)) ?_ | ((rw [hput]; rotate_left; rfl)) | (refine gd_mk ?_ ?_; focus (simp [hl]; done)) | ((rw [hda])) | ((rw [hdb])) | ((conv in (eqS _ _ _) => whnf); rw [hself _ (by rfl)]) | refine callK_p L13_alive_ok ?_ | refine callM_p L13_alive_ok rfl ?_ | refine callK_pf rfl L13_alive_ok ?_ | refine callK_pk rfl L13_alive_ok ?_ | refine wpfS_seq1 ?_ | refine wpfS_go ?_ | fail) <;> conv => whnf)
      (first | refine callK_p m1 ?_ | refine callM_p m1 rfl ?_ | refine callK_pf rfl m1 ?_ | refine callK_pk rfl m1 ?_)
      conv => whnf
      repeat' ((first | refine brP_t (by assumption) ?_ | refine brP_f (by assumption) ?_ | refine brP_t (decide_eq_true (by omega)) ?_ | refine brP_f (decide_eq_false (by omega)) ?_ | refine brP_t (nd_t (by omega)) ?_ | refine brP_f (nd_f (by omega)) ?_ | ((rw [hput]; rotate_left; rfl)) | (refine gd_mk ?_ ?_; focus (simp [hl]; done)) | ((rw [hda])) | ((rw [hdb])) | ((conv in (eqS _ _ _) => whnf); rw [hself _ (by rfl)]) | refine callK_p L13_alive_ok ?_ | refine callM_p L13_alive_ok rfl ?_ | refine callK_pf rfl L13_alive_ok ?_ | refine callK_pk rfl L13_alive_ok ?_ | refine wpfS_seq1 ?_ | refine wpfS_go ?_ | fail) <;> conv => whnf)
      (first | refine callK_p c1 ?_ | refine callM_p c1 rfl ?_ | refine callK_pf rfl c1 ?_ | refine callK_pk rfl c1 ?_)
      conv => whnf
      repeat' ((first | refine brP_t (by assumption) ?_ | refine brP_f (by assumption) ?_ | refine brP_t (decide_eq_true (by omega)) ?_ | refine brP_f (decide_eq_false (by omega)) ?_ | refine brP_t (nd_t (by omega)) ?_ | refine brP_f (nd_f (by omega)) ?_ | ((rw [hput]; rotate_left; rfl)) | (refine gd_mk ?_ ?_; focus (simp [hl]; done)) | ((rw [hda])) | ((rw [hdb])) | ((conv in (eqS _ _ _) => whnf); rw [hself _ (by rfl)]) | refine callK_p L13_alive_ok ?_ | refine callM_p L13_alive_ok rfl ?_ | refine callK_pf rfl L13_alive_ok ?_ | refine callK_pk rfl L13_alive_ok ?_ | refine wpfS_seq1 ?_ | refine wpfS_go ?_ | fail) <;> conv => whnf)
      (first | refine callK_p c2 ?_ | refine callM_p c2 rfl ?_ | refine callK_pf rfl c2 ?_ | refine callK_pk rfl c2 ?_)
      conv => whnf
      repeat' ((first | refine brP_t (by assumption) ?_ | refine brP_f (by assumption) ?_ | refine brP_t (decide_eq_true (by omega)) ?_ | refine brP_f (decide_eq_false (by omega)) ?_ | refine brP_t (nd_t (by omega)) ?_ | refine brP_f (nd_f (by omega)) ?_ | ((rw [hput]; rotate_left; rfl)) | (refine gd_mk ?_ ?_; focus (simp [hl]; done)) | ((rw [hda])) | ((rw [hdb])) | ((conv in (eqS _ _ _) => whnf); rw [hself _ (by rfl)]) | refine callK_p L13_alive_ok ?_ | refine callM_p L13_alive_ok rfl ?_ | refine callK_pf rfl L13_alive_ok ?_ | refine callK_pk rfl L13_alive_ok ?_ | refine wpfS_seq1 ?_ | refine wpfS_go ?_ | fail) <;> conv => whnf)
      (first | refine callK_p c3 ?_ | refine callM_p c3 rfl ?_ | refine callK_pf rfl c3 ?_ | refine callK_pk rfl c3 ?_)
      conv => whnf
      repeat' ((first | refine brP_t (by assumption) ?_ | refine brP_f (by assumption) ?_ | refine brP_t (decide_eq_true (by omega)) ?_ | refine brP_f (decide_eq_false (by omega)) ?_ | refine brP_t (nd_t (by omega)) ?_ | refine brP_f (nd_f (by omega)) ?_ | ((rw [hput]; rotate_left; rfl)) | (refine gd_mk ?_ ?_; focus (simp [hl]; done)) | ((rw [hda])) | ((rw [hdb])) | ((conv in (eqS _ _ _) => whnf); rw [hself _ (by rfl)]) | refine callK_p L13_alive_ok ?_ | refine callM_p L13_alive_ok rfl ?_ | refine callK_pf rfl L13_alive_ok ?_ | refine callK_pk rfl L13_alive_ok ?_ | refine wpfS_seq1 ?_ | refine wpfS_go ?_ | fail) <;> conv => whnf)
      (first | refine callK_p c4 ?_ | refine callM_p c4 rfl ?_ | refine callK_pf rfl c4 ?_ | refine callK_pk rfl c4 ?_)
      conv => whnf
      repeat' ((first | refine brP_t (by assumption) ?_ | refine brP_f (by assumption) ?_ | refine brP_t (decide_eq_true (by omega)) ?_ | refine brP_f (decide_eq_false (by omega)) ?_ | refine brP_t (nd_t (by omega)) ?_ | refine brP_f (nd_f (by omega)) ?_ | ((rw [hput]; rotate_left; rfl)) | (refine gd_mk ?_ ?_; focus (simp [hl]; done)) | ((rw [hda])) | ((rw [hdb])) | ((conv in (eqS _ _ _) => whnf); rw [hself _ (by rfl)]) | refine callK_p L13_alive_ok ?_ | refine callM_p L13_alive_ok rfl ?_ | refine callK_pf rfl L13_alive_ok ?_ | refine callK_pk rfl L13_alive_ok ?_ | refine wpfS_seq1 ?_ | refine wpfS_go ?_ | fail) <;> conv => whnf)
      (first | refine callK_p c5 ?_ | refine callM_p c5 rfl ?_ | refine callK_pf rfl c5 ?_ | refine callK_pk rfl c5 ?_)
      conv => whnf
      repeat' ((first | refine brP_t (by assumption) ?_ | refine brP_f (by assumption) ?_ | refine brP_t (decide_eq_true (by omega)) ?_ | refine brP_f (decide_eq_false (by omega)) ?_ | refine brP_t (nd_t (by omega)) ?_ | refine brP_f (nd_f (by omega)) ?_ | ((rw [hput]; rotate_left; rfl)) | (refine gd_mk ?_ ?_; focus (simp [hl]; done)) | ((rw [hda])) | ((rw [hdb])) | ((conv in (eqS _ _ _) => whnf); rw [hself _ (by rfl)]) | refine callK_p L13_alive_ok ?_ | refine callM_p L13_alive_ok rfl ?_ | refine callK_pf rfl L13_alive_ok ?_ | refine callK_pk rfl L13_alive_ok ?_ | refine wpfS_seq1 ?_ | refine wpfS_go ?_ | fail) <;> conv => whnf)
      (first | refine callK_p c6 ?_ | refine callM_p c6 rfl ?_ | refine callK_pf rfl c6 ?_ | refine callK_pk rfl c6 ?_)
      conv => whnf
      repeat' ((first | refine brP_t (by assumption) ?_ | refine brP_f (by assumption) ?_ | refine brP_t (decide_eq_true (by omega)) ?_ | refine brP_f (decide_eq_false (by omega)) ?_ | refine brP_t (nd_t (by omega)) ?_ | refine brP_f (nd_f (by omega)) ?_ | ((rw [hput]; rotate_left; rfl)) | (refine gd_mk ?_ ?_; focus (simp [hl]; done)) | ((rw [hda])) | ((rw [hdb])) | ((conv in (eqS _ _ _) => whnf); rw [hself _ (by rfl)]) | refine callK_p L13_alive_ok ?_ | refine callM_p L13_alive_ok rfl ?_ | refine callK_pf rfl L13_alive_ok ?_ | refine callK_pk rfl L13_alive_ok ?_ | refine wpfS_seq1 ?_ | refine wpfS_go ?_ | fail) <;> conv => whnf)
      (first | refine callK_p c7 ?_ | refine callM_p c7 rfl ?_ | refine callK_pf rfl c7 ?_ | refine callK_pk rfl c7 ?_)
      conv => whnf
      repeat' ((first | refine brP_t (by assumption) ?_ | refine brP_f (by assumption) ?_ | refine brP_t (decide_eq_true (by omega)) ?_ | refine brP_f (decide_eq_false (by omega)) ?_ | refine brP_t (nd_t (by omega)) ?_ | refine brP_f (nd_f (by omega)) ?_ | ((rw [hput]; rotate_left; rfl)) | (refine gd_mk ?_ ?_; focus (simp [hl]; done)) | ((rw [hda])) | ((rw [hdb])) | ((conv in (eqS _ _ _) => whnf); rw [hself _ (by rfl)]) | refine callK_p L13_alive_ok ?_ | refine callM_p L13_alive_ok rfl ?_ | refine callK_pf rfl L13_alive_ok ?_ | refine callK_pk rfl L13_alive_ok ?_ | refine wpfS_seq1 ?_ | refine wpfS_go ?_ | fail) <;> conv => whnf)
      rfl
    | true =>
    rw [hA] at hda
    cases hB : (S.testBit rb || T.testBit rb) with
    | true =>
      rw [hB] at hdb
      refine EvP.of_wpf false hm c_L13_ChangeHides rfl ?_
      refine wpf_seq1 ?_
      conv => whnf
      repeat' ((first | refine brP_t (by assumption) ?_ | refine brP_f (by assumption) ?_ | refine brP_t (decide_eq_true (by omega)) ?_ | refine brP_f (decide_eq_false (by omega)) ?_ | refine brP_t (nd_t (by omega)) ?_ | refine brP_f (nd_f (by omega)) ?_ | ((rw [hput]; rotate_left; rfl)) | (refine gd_mk ?_ ?_; focus (simp [hl]; done)) | ((rw [hda])) | ((rw [hdb])) | refine callK_p L13_alive_ok ?_ | refine callM_p L13_alive_ok rfl ?_ | refine callK_pf rfl L13_alive_ok ?_ | refine callK_pk rfl L13_alive_ok ?_ | refine wpfS_seq1 ?_ | refine wpfS_go ?_ | fail) <;> conv => whnf)
      (first | refine callK_p m1 ?_ | refine callM_p m1 rfl ?_ | refine callK_pf rfl m1 ?_ | refine callK_pk rfl m1 ?_)
      conv => whnf
      repeat' ((first | refine brP_t (by assumption) ?_ | refine brP_f (by assumption) ?_ | refine brP_t (decide_eq_true (by omega)) ?_ | refine brP_f (decide_eq_false (by omega)) ?_ | refine brP_t (nd_t (by omega)) ?_ | refine brP_f (nd_f (by omega)) ?_ | ((rw [hput]; rotate_left; rfl)) | (refine gd_mk ?_ ?_; focus (simp [hl]; done)) | ((rw [hda])) | ((rw [hdb])) | refine callK_p L13_alive_ok ?_ | refine callM_p L13_alive_ok rfl ?_ | refine callK_pf rfl L13_alive_ok ?_ | refine callK_pk rfl L13_alive_ok ?_ | refine wpfS_seq1 ?_ | refine wpfS_go ?_ | fail) <;> conv => whnf)
      (first | refine callK_p c1 ?_ | refine callM_p c1 rfl ?_ | refine callK_pf rfl c1 ?_ | refine callK_pk rfl c1 ?_)
      conv => whnf
      repeat' ((first | refine brP_t (by assumption) ?_ | refine brP_f (by assumption) ?_ | refine brP_t (decide_eq_true (by omega)) ?_ | refine brP_f (decide_eq_false (by omega)) ?_ | refine brP_t (nd_t (by omega)) ?_ | refine brP_f (nd_f (by omega)) ?_ | ((rw [hput]; rotate_left; rfl)) | (refine gd_mk ?_ ?_; focus (simp [hl]; done)) | ((rw [hda])) | ((rw [hdb])) | refine callK_p L13_alive_ok ?_ | refine callM_p L13_alive_ok rfl ?_ | refine callK_pf rfl L13_alive_ok ?_ | refine callK_pk rfl L13_alive_ok ?_ | refine wpfS_seq1 ?_ | refine wpfS_go ?_ | fail) <;> conv => whnf)
      (first | refine callK_p c2 ?_ | refine callM_p c2 rfl ?_ | refine callK_pf rfl c2 ?_ | refine callK_pk rfl c2 ?_)
      conv => whnf
      repeat' ((first | refine brP_t (by assumption) ?_ | refine brP_f (by assumption) ?_ | refine brP_t (decide_eq_true (by omega)) ?_ | refine brP_f (decide_eq_false (by omega)) ?_ | refine brP_t (nd_t (by omega)) ?_ | refine brP_f (nd_f (by omega)) ?_ | ((rw [hput]; rotate_left; rfl)) | (refine gd_mk ?_ ?_; focus (simp [hl]; done)) | ((rw [hda])) | ((rw [hdb])) | refine callK_p L13_alive_ok ?_ | refine callM_p L13_alive_ok rfl ?_ | refine callK_pf rfl L13_alive_ok ?_ | refine callK_pk rfl L13_alive_ok ?_ | refine wpfS_seq1 ?_ | refine wpfS_go ?_ | fail) <;> conv => whnf)
      (first | refine callK_p c3 ?_ | refine callM_p c3 rfl ?_ | refine callK_pf rfl c3 ?_ | refine callK_pk rfl c3 ?_)
      conv => whnf
      repeat' ((first | refine brP_t (by assumption) ?_ | refine brP_f (by assumption) ?_ | refine brP_t (decide_eq_true (by omega)) ?_ | refine brP_f (decide_eq_false (by omega)) ?_ | refine brP_t (nd_t (by omega)) ?_ | refine brP_f (nd_f (by omega)) ?_ | ((rw [hput]; rotate_left; rfl)) | (refine gd_mk ?_ ?_; focus (simp [hl]; done)) | ((rw [hda])) | ((rw [hdb])) | refine callK_p L13_alive_ok ?_ | refine callM_p L13_alive_ok rfl ?_ | refine callK_pf rfl L13_alive_ok ?_ | refine callK_pk rfl L13_alive_ok ?_ | refine wpfS_seq1 ?_ | refine wpfS_go ?_ | fail) <;> conv => whnf)
      rfl
    | false =>
      rw [hB] at hdb
      rw [Bool.or_eq_false_iff] at hB
      obtain ⟨rfl, rfl, rfl⟩ := hfin (.inr ⟨.inl rfl, hB⟩)
      refine EvP.of_wpf false hm c_L13_ChangeHides rfl ?_
      refine wpf_seq1 ?_
      conv => whnf
      repeat' ((first | refine brP_t (by assumption) ?_ | refine brP_f (by assumption) ?_ | refine brP_t (decide_eq_true (by omega)) ?_ | refine brP_f (decide_eq_false (by omega)) ?_ | refine brP_t (nd_t (by omega)) ?_ | refine brP_f (nd_f (by omega)) ?_ | ((rw [hput]; rotate_left; rfl)) | (refine gd_mk ?_ ?_; focus (simp [hl]; done)) | ((rw [hda])) | ((rw [hdb])) | ((conv in (eqS _ _ _) => whnf); rw [hself _ (by rfl)]) | refine callK_p L13_alive_ok ?_ | refine callM_p L13_alive_ok rfl ?_ | refine callK_pf rfl L13_alive_ok ?_ | refine callK_pk rfl L13_alive_ok ?_ | refine wpfS_seq1 ?_ | refine wpfS_go ?_ | fail) <;> conv => whnf)
      (first | refine callK_p m1 ?_ | refine callM_p m1 rfl ?_ | refine callK_pf rfl m1 ?_ | refine callK_pk rfl m1 ?_)
      conv => whnf
      repeat' ((first | refine brP_t (by assumption) ?_ | refine brP_f (by assumption) ?_ | refine brP_t (decide_eq_true (by omega)) ?_ | refine brP_f (decide_eq_false (by omega)) ?_ | refine brP_t (nd_t (by omega)) ?_ | refine brP_f (nd_f (by omega)) ?_ | ((rw [hput]; rotate_left; rfl)) | (refine gd_mk ?_ ?_; focus (simp [hl]; done)) | ((rw [hda])) | ((rw [hdb])) | ((conv in (eqS _ _ _) => whnf); rw [hself _ (by rfl)]) | refine callK_p L13_alive_ok ?_ | refine callM_p L13_alive_ok rfl ?_ | refine callK_pf rfl L13_alive_ok ?_ | refine callK_pk rfl L13_alive_ok ?_ | refine wpfS_seq1 ?_ | refine wpfS_go ?_ | fail) <;> conv => whnf)
      (first | refine callK_p c1 ?_ | refine callM_p c1 rfl ?_ | refine callK_pf rfl c1 ?_ | refine callK_pk rfl c1 ?_)
      conv => whnf
      repeat' ((first | refine brP_t (by assumption) ?_ | refine brP_f (by assumption) ?_ | refine brP_t (decide_eq_true (by omega)) ?_ | refine brP_f (decide_eq_false (by omega)) ?_ | refine brP_t (nd_t (by omega)) ?_ | refine brP_f (nd_f (by omega)) ?_ | ((rw [hput]; rotate_left; rfl)) | (refine gd_mk ?_ ?_; focus (simp [hl]; done)) | ((rw [hda])) | ((rw [hdb])) | ((conv in (eqS _ _ _) => whnf); rw [hself _ (by rfl)]) | refine callK_p L13_alive_ok ?_ | refine callM_p L13_alive_ok rfl ?_ | refine callK_pf rfl L13_alive_ok ?_ | refine callK_pk rfl L13_alive_ok ?_ | refine wpfS_seq1 ?_ | refine wpfS_go ?_ | fail) <;> conv => whnf)
      (first | refine callK_p c2 ?_ | refine callM_p c2 rfl ?_ | refine callK_pf rfl c2 ?_ | refine callK_pk rfl c2 ?_)
      conv => whnf
      repeat' ((first | refine brP_t (by assumption) ?_ | refine brP_f (by assumption) ?_ | refine brP_t (decide_eq_true (by omega)) ?_ | refine brP_f (decide_eq_false (by omega)) ?_ | refine brP_t (nd_t (by omega)) ?_ | refine brP_f (nd_f (by omega)) ?_ | ((rw [hput]; rotate_left; rfl)) | (refine gd_mk ?_ ?_; focus (simp [hl]; done)) | ((rw [hda])) | ((rw [hdb])) | ((conv in (eqS _ _ _) => whnf); rw [hself _ (by rfl)]) | refine callK_p L13_alive_ok ?_ | refine callM_p L13_alive_ok rfl ?_ | refine callK_pf rfl L13_alive_ok ?_ | refine callK_pk rfl L13_alive_ok ?_ | refine wpfS_seq1 ?_ | refine wpfS_go ?_ | fail) <;> conv => whnf)
      (first | refine callK_p c3 ?_ | refine callM_p c3 rfl ?_ | refine callK_pf rfl c3 ?_ | refine callK_pk rfl c3 ?_)
      conv => whnf
      repeat' ((first | refine brP_t (by assumption) ?_ | refine brP_f (by assumption) ?_ | refine brP_t (decide_eq_true (by omega)) ?_ | refine brP_f (decide_eq_false (by omega)) ?_ | refine brP_t (nd_t (by omega)) ?_ | refine brP_f (nd_f (by omega)) ?_ | ((rw [hput]; rotate_left; rfl)) | (refine gd_mk ?_ ?_; focus (simp [hl]; done)) | ((rw [hda])) | ((rw [hdb])) | ((conv in (eqS _ _ _) => whnf); rw [hself _ (by rfl)]) | refine callK_p L13_alive_ok ?_ | refine callM_p L13_alive_ok rfl ?_ | refine callK_pf rfl L13_alive_ok ?_ | refine callK_pk rfl L13_alive_ok ?_ | refine wpfS_seq1 ?_ | refine wpfS_go ?_ | fail) <;> conv => whnf)
      (first | refine callK_p c4 ?_ | refine callM_p c4 rfl ?_ | refine callK_pf rfl c4 ?_ | refine callK_pk rfl c4 ?_)
      conv => whnf
      repeat' ((first | refine brP_t (by assumption) ?_ | refine brP_f (by assumption) ?_ | refine brP_t (decide_eq_true (by omega)) ?_ | refine brP_f (decide_eq_false (by omega)) ?_ | refine brP_t (nd_t (by omega)) ?_ | refine brP_f (nd_f (by omega)) ?_ | ((rw [hput]; rotate_left; rfl)) | (refine gd_mk ?_ ?_; focus (simp [hl]; done)) | ((rw [hda])) | ((rw [hdb])) | ((conv in (eqS _ _ _) => whnf); rw [hself _ (by rfl)]) | refine callK_p L13_alive_ok ?_ | refine callM_p L13_alive_ok rfl ?_ | refine callK_pf rfl L13_alive_ok ?_ | refine callK_pk rfl L13_alive_ok ?_ | refine wpfS_seq1 ?_ | refine wpfS_go ?_ | fail) <;> conv => whnf)
      (first | refine callK_p c5 ?_ | refine callM_p c5 rfl ?_ | refine callK_pf rfl c5 ?_ | refine callK_pk rfl c5 ?_)
      conv => whnf
      repeat' ((first | refine brP_t (by assumption) ?_ | refine brP_f (by assumption) ?_ | refine brP_t (decide_eq_true (by omega)) ?_ | refine brP_f (decide_eq_false (by omega)) ?_ | refine brP_t (nd_t (by omega)) ?_ | refine brP_f (nd_f (by omega)) ?_ | ((rw [hput]; rotate_left; rfl)) | (refine gd_mk ?_ ?_; focus (simp [hl]; done)) | ((rw [hda])) | ((rw [hdb])) | ((conv in (eqS _ _ _) => whnf); rw [hself _ (by rfl)]) | refine callK_p L13_alive_ok ?_ | refine callM_p L13_alive_ok rfl ?_ | refine callK_pf rfl L13_alive_ok ?_ | refine callK_pk rfl L13_alive_ok ?_ | refine wpfS_seq1 ?_ | refine wpfS_go ?_ | fail) <;> conv => whnf)
      (first | refine callK_p c6 ?_ | refine callM_p c6 rfl ?_ | refine callK_pf rfl c6 ?_ | refine callK_pk rfl c6 ?_)
      conv => whnf
      repeat' ((first | refine brP_t (by assumption) ?_ | refine brP_f (by assumption) ?_ | refine brP_t (decide_eq_true (by omega)) ?_ | refine brP_f (decide_eq_false (by omega)) ?_ | refine brP_t (nd_t (by omega)) ?_ | refine brP_f (nd_f (by omega)) ?_ | ((rw [hput]; rotate_left; rfl)) | (refine gd_mk ?_ ?_; focus (simp [hl]; done)) | ((rw [hda])) | ((rw [hdb])) | ((conv in (eqS _ _ _) => whnf); rw [hself _ (by rfl)]) | refine callK_p L13_alive_ok ?_ | refine callM_p L13_alive_ok rfl ?_ | refine callK_pf rfl L13_alive_ok ?_ | refine callK_pk rfl L13_alive_ok ?_ | refine wpfS_seq1 ?_ | refine wpfS_go ?_ | fail) <;> conv => whnf)
      (first | refine callK_p c7 ?_ | refine callM_p c7 rfl ?_ | refine callK_pf rfl c7 ?_ | refine callK_pk rfl c7 ?_)
      conv => whnf
      repeat' ((first | refine brP_t (by assumption) ?_ | refine brP_f (by assumption) ?_ | refine brP_t (decide_eq_true (by omega)) ?_ | refine brP_f (decide_eq_false (by omega)) ?_ | refine brP_t (nd_t (by omega)) ?_ | refine brP_f (nd_f (by omega)) ?_ | ((rw [hput]; rotate_left; rfl)) | (refine gd_mk ?_ ?_; focus (simp [hl]; done)) | ((rw [hda])) | ((rw [hdb])) | ((conv in (eqS _ _ _) => whnf); rw [hself _ (by rfl)]) | refine callK_p L13_alive_ok ?_ | refine callM_p L13_alive_ok rfl ?_ | refine callK_pf rfl L13_alive_ok ?_ | refine callK_pk rfl L13_alive_ok ?_ | refine wpfS_seq1 ?_ | refine wpfS_go ?_ | fail) <;> conv => whnf)
      rfl
  by_cases hk4 : k = 4
  · subst hk4
    cases hA : (S.testBit ra || T.testBit ra) with
    | false =>
      rw [hA] at hda
      rw [Bool.or_eq_false_iff] at hA
      obtain ⟨rfl, rfl, rfl⟩ := hfin (.inl hA)
      refine EvP.of_wpf false hm c_L13_ChangeHides rfl ?_
      refine wpf_seq1 ?_
      conv => whnf
      repeat' ((first | refine brP_t (by assumption) ?_ | refine brP_f (by assumption) ?_ | refine brP_t (decide_eq_true (by omega)) ?_ | refine brP_f (decide_eq_false (by omega)) ?_ | refine brP_t (nd_t (by omega)) ?_ | refine brP_f (nd_f (by omega)) ?_ | ((rw [hput]; rotate_left; rfl)) | (refine gd_mk ?_ ?_; focus (simp [hl]; done)) | ((rw [hda])) | ((rw [hdb])) | ((conv in (eqS _ _ _) => whnf); rw [hself _ (by rfl)]) | refine callK_p L13_alive_ok ?_ | refine callM_p L13_alive_ok rfl ?_ | refine callK_pf rfl L13_alive_ok ?_ | refine callK_pk rfl L13_alive_ok ?_ | refine wpfS_seq1 ?_ | refine wpfS_go ?_ | fail) <;> conv => whnf)
      (first | refine callK_p m1 ?_ | refine callM_p m1 rfl ?_ | refine callK_pf rfl m1 ?_ | refine callK_pk rfl m1 ?_)
      conv => whnf
      repeat' ((first | refine brP_t (by assumption) ?_ | refine brP_f (by assumption) ?_ | refine brP_t (decide_eq_true (by omega)) ?_ | refine brP_f (decide_eq_false (by omega)) ?_ | refine brP_t (nd_t (by omega)) ?_ | refine brP_f (nd_f (by omega)) ?_ | ((rw [hput]; rotate_left; rfl)) | (refine gd_mk ?_ ?_; focus (simp [hl]; done)) | ((rw [hda])) | ((rw [hdb])) | ((conv in (eqS _ _ _) => whnf); rw [hself _ (by rfl)]) | refine callK_p L13_alive_ok ?_ | refine callM_p L13_alive_ok rfl ?_ | refine callK_pf rfl L13_alive_ok ?_ | refine callK_pk rfl L13_alive_ok ?_ | refine wpfS_seq1 ?_ | refine wpfS_go ?_ | fail) <;> conv => whnf)
      (first | refine callK_p c1 ?_ | refine callM_p c1 rfl ?_ | refine callK_pf rfl c1 ?_ | refine callK_pk rfl c1 ?_)
      conv => whnf
      repeat' ((first | refine brP_t (by assumption) ?_ | refine brP_f (by assumption) ?_ | refine brP_t (decide_eq_true (by omega)) ?_ | refine brP_f (decide_eq_false (by omega)) ?_ | refine brP_t (nd_t (by omega)) ?_ | refine brP_f (nd_f (by omega)) ?_ | ((rw [hput]; rotate_left; rfl)) | (refine gd_mk ?_ ?_; focus (simp [hl]; done)) | ((rw [hda])) | ((rw [hdb])) | ((conv in (eqS _ _ _) => whnf); rw [hself _ (by rfl)]) | refine callK_p L13_alive_ok ?_ | refine callM_p L13_alive_ok rfl ?_ | refine callK_pf rfl L13_alive_ok ?_ | refine callK_pk rfl L13_alive_ok ?_ | refine wpfS_seq1 ?_ | refine wpfS_go ?_ | fail) <;> conv => whnf)
      (first | refine callK_p c2 ?_ | refine callM_p c2 rfl ?_ | refine callK_pf rfl c2 ?_ | refine callK_pk rfl c2 ?_)
      conv => whnf
      repeat' ((first | refine brP_t (by assumption) ?_ | refine brP_f (by assumption) ?_ | refine brP_t (decide_eq_true (by omega)) ?_ | refine brP_f (decide_eq_false (by omega)) ?_ | refine brP_t (nd_t (by omega)) ?_ | refine brP_f (nd_f (by omega)) ?_ | ((rw [hput]; rotate_left; rfl)) | (refine gd_mk ?_ ?_; focus (simp [hl]; done)) | ((rw [hda])) | ((rw [hdb])) | ((conv in (eqS _ _ _) => whnf); rw [hself _ (by rfl)]) | refine callK_p L13_alive_ok ?_ | refine callM_p L13_alive_ok rfl ?_ | refine callK_pf rfl L13_alive_ok ?_ | refine callK_pk rfl L13_alive_ok ?_ | refine wpfS_seq1 ?_ | refine wpfS_go ?_ | fail) <;> conv => whnf)
      (first | refine callK_p c3 ?_ | refine callM_p c3 rfl ?_ | refine callK_pf rfl c3 ?_ | refine callK_pk rfl c3 ?_)
      conv => whnf
      repeat' ((first | refine brP_t (by assumption) ?_ | refine brP_f (by assumption) ?_ | refine brP_t (decide_eq_true (by omega)) ?_ | refine brP_f (decide_eq_false (by omega)) ?_ | refine brP_t (nd_t (by omega)) ?_ | refine brP_f (nd_f (by omega)) ?_ | ((rw [hput]; rotate_left; rfl)) | (refine gd_mk ?_ ?_; focus (simp [hl]; done)) | ((rw [hda])) | ((rw [hdb])) | ((conv in (eqS _ _ _) => whnf); rw [hself _ (by rfl)]) | refine callK_p L13_alive_ok ?_ | refine callM_p L13_alive_ok rfl ?_ | refine callK_pf rfl L13_alive_ok ?_ | refine callK_pk rfl L13_alive_ok ?_ | refine wpfS_seq1 ?_ | refine wpfS_go ?_ | fail) <;> conv => whnf)
      (first | refine callK_p c4 ?_ | refine callM_p c4 rfl ?_ | refine callK_pf rfl c4 ?_ | refine callK_pk rfl c4 ?_)
      conv => whnf
      repeat' ((first | refine brP_t (by assumption) ?_ | refine brP_f (by assumption) ?_ | refine brP_t (decide_eq_true (by omega)) ?_ | refine brP_f (decide_eq_false (by omega)) ?_ | refine brP_t (nd_t (by omega)) ?_ | refine brP_f (nd_f (by omega)) ?_ | ((rw [hput]; rotate_left; rfl)) | (refine gd_mk ?_ ?_; focus (simp [hl]; done)) | ((rw [hda])) | ((rw [hdb])) | ((conv in (eqS _ _ _) => whnf); rw [hself _ (by rfl)]) | refine callK_p L13_alive_ok ?_ | refine callM_p L13_alive_ok rfl ?_ | refine callK_pf rfl L13_alive_ok ?_ | refine callK_pk rfl L13_alive_ok ?_ | refine wpfS_seq1 ?_ | refine wpfS_go ?_ | fail) <;> conv => whnf)
      (first | refine callK_p c5 ?_ | refine callM_p c5 rfl ?_ | refine callK_pf rfl c5 ?_ | refine callK_pk rfl c5 ?_)
      conv => whnf
      repeat' ((first | refine brP_t (by assumption) ?_ | refine brP_f (by assumption) ?_ | refine brP_t (decide_eq_true (by omega)) ?_ | refine brP_f (decide_eq_false (by omega)) ?_ | refine brP_t (nd_t (by omega)) ?_ | refine brP_f (nd_f (by omega)) ?_ | ((rw [hput]; rotate_left; rfl)) | (refine gd_mk ?_ ?_; focus (simp [hl]; done)) | ((rw [hda])) | ((rw [hdb])) | ((conv in (eqS _ _ _) => whnf); rw [hself _ (by rfl)]) | refine callK_p L13_alive_ok ?_ | refine callM_p L13_alive_ok rfl ?_ | refine callK_pf rfl L13_alive_ok ?_ | refine callK_pk rfl L13_alive_ok ?_ | refine wpfS_seq1 ?_ | refine wpfS_go ?_ | fail) <;> conv => whnf)
      (first | refine callK_p c6 ?_ | refine callM_p c6 rfl ?_ | refine callK_pf rfl c6 ?_ | refine callK_pk rfl c6 ?_)
      conv => whnf
      repeat' ((first | refine brP_t (by assumption) ?_ | refine brP_f (by assumption) ?_ | refine brP_t (decide_eq_true (by omega)) ?_ | refine brP_f (decide_eq_false (by omega)) ?_ | refine brP_t (nd_t (by omega)) ?_ | refine brP_f (nd_f (by omega)) ?_ | ((rw [hput]; rotate_left; rfl)) | (refine gd_mk ?_ ?_; focus (simp [hl]; done)) | ((rw [hda])) | ((rw [hdb])) | ((conv in (eqS _ _ _) => whnf); rw [hself _ (by rfl)]) | refine callK_p L13_alive_ok ?_ | refine callM_p L13_alive_ok rfl ?_ | refine callK_pf rfl L13_alive_ok ?_ | refine callK_pk rfl L13_alive_ok ?_ | refine wpfS_seq1 ?_ | refine wpfS_go ?_ | fail) <;> conv => whnf)
      (first | refine callK_p c7 ?_ | refine callM_p c7 rfl ?_ | refine callK_pf rfl c7 ?_ | refine callK_pk rfl c7 ?_)
      conv => whnf
      repeat' ((first | refine brP_t (by assumption) ?_ | refine brP_f (by assumption) ?_ | refine brP_t (decide_eq_true (by omega)) ?_ | refine brP_f (decide_eq_false (by omega)) ?_ | refine brP_t (nd_t (by omega)) ?_ | refine brP_f (nd_f (by omega)) ?_ | ((rw [hput]; rotate_left; rfl)) | (refine gd_mk ?_ ?_; focus (simp [hl]; done)) | ((rw [hda])) | ((rw [hdb])) | ((conv in (eqS _ _ _) => whnf); rw [hself _ (by rfl)]) | refine callK_p L13_alive_ok ?_ | refine callM_p L13_alive_ok rfl ?_ | refine callK_pf rfl L13_alive_ok ?_ | refine callK_pk rfl L13_alive_ok ?_ | refine wpfS_seq1 ?_ | refine wpfS_go ?_ | fail) <;> conv => whnf)
      rfl
    | true =>
    rw [hA] at hda
    cases hB : (S.testBit rb || T.testBit rb) with
    | true =>
      rw [hB] at hdb
      refine EvP.of_wpf false hm c_L13_ChangeHides rfl ?_
      refine wpf_seq1 ?_
      conv => whnf
      repeat' ((first | refine brP_t (by assumption) ?_ | refine brP_f (by assumption) ?_ | refine brP_t (decide_eq_true (by omega)) ?_ | refine brP_f (decide_eq_false (by omega)) ?_ | refine brP_t (nd_t (by omega)) ?_ | refine brP_f (nd_f (by omega)) ?_ | ((rw [hput]; rotate_left; rfl)) | (refine gd_mk ?_ ?_; focus (simp [hl]; done)) | ((rw [hda])) | ((rw [hdb])) | refine callK_p L13_alive_ok ?_ | refine callM_p L13_alive_ok rfl ?_ | refine callK_pf rfl L13_alive_ok ?_ | refine callK_pk rfl L13_alive_ok ?_ | refine wpfS_seq1 ?_ | refine wpfS_go ?_ | fail) <;> conv => whnf)
      (first | refine callK_p m1 ?_ | refine callM_p m1 rfl ?_ | refine callK_pf rfl m1 ?_ | refine callK_pk rfl m1 ?_)
      conv => whnf
      repeat' ((first | refine brP_t (by assumption) ?_ | refine brP_f (by assumption) ?_ | refine brP_t (decide_eq_true (by omega)) ?_ | refine brP_f (decide_eq_false (by omega)) ?_ | refine brP_t (nd_t (by omega)) ?_ | refine brP_f (nd_f (by omega)) ?_ | ((rw [hput]; rotate_left; rfl)) | (refine gd_mk ?_ ?_; focus (simp [hl]; done)) | ((rw [hda])) | ((rw [hdb])) | refine callK_p L13_alive_ok ?_ | refine callM_p L13_alive_ok rfl ?_ | refine callK_pf rfl L13_alive_ok ?_ | refine callK_pk rfl L13_alive_ok ?_ | refine wpfS_seq1 ?_ | refine wpfS_go ?_ | fail) <;> conv => whnf)
      (first | refine callK_p c1 ?_ | refine callM_p c1 rfl ?_ | refine callK_pf rfl c1 ?_ | refine callK_pk rfl c1 ?_)
      conv => whnf
      repeat' ((first | refine brP_t (by assumption) ?_ | refine brP_f (by assumption) ?_ | refine brP_t (decide_eq_true (by omega)) ?_ | refine brP_f (decide_eq_false (by omega)) ?_ | refine brP_t (nd_t (by omega)) ?_ | refine brP_f (nd_f (by omega)) ?_ | ((rw [hput]; rotate_left; rfl)) | (refine gd_mk ?_ ?_; focus (simp [hl]; done)) | ((rw [hda])) | ((rw [hdb])) | refine callK_p L13_alive_ok ?_ | refine callM_p L13_alive_ok rfl ?_ | refine callK_pf rfl L13_alive_ok ?_ | refine callK_pk rfl L13_alive_ok ?_ | refine wpfS_seq1 ?_ | refine wpfS_go ?_ | fail) <;> conv => whnf)
      (first | refine callK_p c2 ?_ | refine callM_p c2 rfl ?_ | refine callK_pf rfl c2 ?_ | refine callK_pk rfl c2 ?_)
      conv => whnf
      repeat' ((first | refine brP_t (by assumption) ?_ | refine brP_f (by assumption) ?_ | refine brP_t (decide_eq_true (by omega)) ?_ | refine brP_f (decide_eq_false (by omega)) ?_ | refine brP_t (nd_t (by omega)) ?_ | refine brP_f (nd_f (by omega)) ?_ | ((rw [hput]; rotate_left; rfl)) | (refine gd_mk ?_ ?_; focus (simp [hl]; done)) | ((rw [hda])) | ((rw [hdb])) | refine callK_p L13_alive_ok ?_ | refine callM_p L13_alive_ok rfl ?_ | refine callK_pf rfl L13_alive_ok ?_ | refine callK_pk rfl L13_alive_ok ?_ | refine wpfS_seq1 ?_ | refine wpfS_go ?_ | fail) <;> conv => whnf)
      (first | refine callK_p c3 ?_ | refine callM_p c3 rfl ?_ | refine callK_pf rfl c3 ?_ | refine callK_pk rfl c3 ?_)
      conv => whnf
      repeat' ((first | refine brP_t (by assumption) ?_ | refine brP_f (by assumption) ?_ | refine brP_t (decide_eq_true (by omega)) ?_ | refine brP_f (decide_eq_false (by omega)) ?_ | refine brP_t (nd_t (by omega)) ?_ | refine brP_f (nd_f (by omega)) ?_ | ((rw [hput]; rotate_left; rfl)) | (refine gd_mk ?_ ?_; focus (simp [hl]; done)) | ((rw [hda])) | ((rw [hdb])) | refine callK_p L13_alive_ok ?_ | refine callM_p L13_alive_ok rfl ?_ | refine callK_pf rfl L13_alive_ok ?_ | refine callK_pk rfl L13_alive_ok ?_ | refine wpfS_seq1 ?_ | refine wpfS_go ?_ | fail) <;> conv => whnf)
      rfl
    | false =>
      rw [hB] at hdb
      rw [Bool.or_eq_false_iff] at hB
      obtain ⟨rfl, rfl, rfl⟩ := hfin (.inr ⟨.inr rfl, hB⟩)
      refine EvP.of_wpf false hm c_L13_ChangeHides rfl ?_
      refine wpf_seq1 ?_
      conv => whnf
      repeat' ((first | refine brP_t (by assumption) ?_ | refine brP_f (by assumption) ?_ | refine brP_t (decide_eq_true (by omega)) ?_ | refine brP_f (decide_eq_false (by omega)) ?_ | refine brP_t (nd_t (by omega)) ?_ | refine brP_f (nd_f (by omega)) ?_ | ((rw [hput]; rotate_left; rfl)) | (refine gd_mk ?_ ?_; focus (simp [hl]; done)) | ((rw [hda])) | ((rw [hdb])) | ((conv in (eqS _ _ _) => whnf); rw [hself _ (by rfl)]) | refine callK_p L13_alive_ok ?_ | refine callM_p L13_alive_ok rfl ?_ | refine callK_pf rfl L13_alive_ok ?_ | refine callK_pk rfl L13_alive_ok ?_ | refine wpfS_seq1 ?_ | refine wpfS_go ?_ | fail) <;> conv => whnf)
      (first | refine callK_p m1 ?_ | refine callM_p m1 rfl ?_ | refine callK_pf rfl m1 ?_ | refine callK_pk rfl m1 ?_)
      conv => whnf
      repeat' ((first | refine brP_t (by assumption) ?_ | refine brP_f (by assumption) ?_ | refine brP_t (decide_eq_true (by omega)) ?_ | refine brP_f (decide_eq_false (by omega)) ?_ | refine brP_t (nd_t (by omega)) ?_ | refine brP_f (nd_f (by omega)) ?_ | ((rw [hput]; rotate_left; rfl)) | (refine gd_mk ?_ ?_; focus (simp [hl]; done)) | ((rw [hda])) | ((rw [hdb])) | ((conv in (eqS _ _ _) => whnf); rw [hself _ (by rfl)]) | refine callK_p L13_alive_ok ?_ | refine callM_p L13_alive_ok rfl ?_ | refine callK_pf rfl L13_alive_ok ?_ | refine callK_pk rfl L13_alive_ok ?_ | refine wpfS_seq1 ?_ | refine wpfS_go ?_ | fail) <;> conv => whnf)
      (first | refine callK_p c1 ?_ | refine callM_p c1 rfl ?_ | refine callK_pf rfl c1 ?_ | refine callK_pk rfl c1 ?_)
      conv => whnf
      repeat' ((first | refine brP_t (by assumption) ?_ | refine brP_f (by assumption) ?_ | refine brP_t (decide_eq_true (by omega)) ?_ | refine brP_f (decide_eq_false (by omega)) ?_ | refine brP_t (nd_t (by omega)) ?_ | refine brP_f (nd_f (by omega)) ?_ | ((rw [hput]; rotate_left; rfl)) | (refine gd_mk ?_ ?_; focus (simp [hl]; done)) | ((rw [hda])) | ((rw [hdb])) | ((conv in (eqS _ _ _) => whnf); rw [hself _ (by rfl)]) | refine callK_p L13_alive_ok ?_ | refine callM_p L13_alive_ok rfl ?_ | refine callK_pf rfl L13_alive_ok ?_ | refine callK_pk rfl L13_alive_ok ?_ | refine wpfS_seq1 ?_ | refine wpfS_go ?_ | fail) <;> conv => whnf)
      (first | refine callK_p c2 ?_ | refine callM_p c2 rfl ?_ | refine callK_pf rfl c2 ?_ | refine callK_pk rfl c2 ?_)
      conv => whnf
      repeat' ((first | refine brP_t (by assumption) ?_ | refine brP_f (by assumption) ?_ | refine brP_t (decide_eq_true (by omega)) ?_ | refine brP_f (decide_eq_false (by omega)) ?_ | refine brP_t (nd_t (by omega)) ?_ | refine brP_f (nd_f (by omega)) ?_ | ((rw [hput]; rotate_left; rfl)) | (refine gd_mk ?_ ?_; focus (simp [hl]; done)) | ((rw [hda])) | ((rw [hdb])) | ((conv in (eqS _ _ _) => whnf); rw [hself _ (by rfl)]) | refine callK_p L13_alive_ok ?_ | refine callM_p L13_alive_ok rfl ?_ | refine callK_pf rfl L13_alive_ok ?_ | refine callK_pk rfl L13_alive_ok ?_ | refine wpfS_seq1 ?_ | refine wpfS_go ?_ | fail) <;> conv => whnf)
      (first | refine callK_p c3 ?_ | refine callM_p c3 rfl ?_ | refine callK_pf rfl c3 ?_ | refine callK_pk rfl c3 ?_)
      conv => whnf
      repeat' ((first | refine brP_t (by assumption) ?_ | refine brP_f (by assumption) ?_ | refine brP_t (decide_eq_true (by omega)) ?_ | refine brP_f (decide_eq_false (by omega)) ?_ | refine brP_t (nd_t (by omega)) ?_ | refine brP_f (nd_f (by omega)) ?_ | ((rw [hput]; rotate_left; rfl)) | (refine gd_mk ?_ ?_; focus (simp [hl]; done)) | ((rw [hda])) | ((rw [hdb])) | ((conv in (eqS _ _ _) => whnf); rw [hself _ (by rfl)]) | refine callK_p L13_alive_ok ?_ | refine callM_p L13_alive_ok rfl ?_ | refine callK_pf rfl L13_alive_ok ?_ | refine callK_pk rfl L13_alive_ok ?_ | refine wpfS_seq1 ?_ | refine wpfS_go ?_ | fail) <;> conv => whnf)
      (first | refine callK_p c4 ?_ | refine callM_p c4 rfl ?_ | refine callK_pf rfl c4 ?_ | refine callK_pk rfl c4 ?_)
      conv => whnf
      repeat' ((first | refine brP_t (by assumption) ?_ | refine brP_f (by assumption) ?_ | refine brP_t (decide_eq_true (by omega)) ?_ | refine brP_f (decide_eq_false (by omega)) ?_ | refine brP_t (nd_t (by omega)) ?_ | refine brP_f (nd_f (by omega)) ?_ | ((rw [hput]; rotate_left; rfl)) | (refine gd_mk ?_ ?_; focus (simp [hl]; done)) | ((rw [hda])) | ((rw [hdb])) | ((conv in (eqS _ _ _) => whnf); rw [hself _ (by rfl)]) | refine callK_p L13_alive_ok ?_ | refine callM_p L13_alive_ok rfl ?_ | refine callK_pf rfl L13_alive_ok ?_ | refine callK_pk rfl L13_alive_ok ?_ | refine wpfS_seq1 ?_ | refine wpfS_go ?_ | fail) <;> conv => whnf)
      (first | refine callK_p c5 ?_ | refine callM_p c5 rfl ?_ | refine callK_pf rfl c5 ?_ | refine callK_pk rfl c5 ?_)
      conv => whnf
      repeat' ((first | refine brP_t (by assumption) ?_ | refine brP_f (by assumption) ?_ | refine brP_t (decide_eq_true (by omega)) ?_ | refine brP_f (decide_eq_false (by omega)) ?_ | refine brP_t (nd_t (by omega)) ?_ | refine brP_f (nd_f (by omega)) ?_ | ((rw [hput]; rotate_left; rfl)) | (refine gd_mk ?_ ?_; focus (simp [hl]; done)) | ((rw [hda])) | ((rw [hdb])) | ((conv in (eqS _ _ _) => whnf); rw [hself _ (by rfl)]) | refine callK_p L13_alive_ok ?_ | refine callM_p L13_alive_ok rfl ?_ | refine callK_pf rfl L13_alive_ok ?_ | refine callK_pk rfl L13_alive_ok ?_ | refine wpfS_seq1 ?_ | refine wpfS_go ?_ | fail) <;> conv => whnf)
      (first | refine callK_p c6 ?_ | refine callM_p c6 rfl ?_ | refine callK_pf rfl c6 ?_ | refine callK_pk rfl c6 ?_)
      conv => whnf
      repeat' ((first | refine brP_t (by assumption) ?_ | refine brP_f (by assumption) ?_ | refine brP_t (decide_eq_true (by omega)) ?_ | refine brP_f (decide_eq_false (by omega)) ?_ | refine brP_t (nd_t (by omega)) ?_ | refine brP_f (nd_f (by omega)) ?_ | ((rw [hput]; rotate_left; rfl)) | (refine gd_mk ?_ ?_; focus (simp [hl]; done)) | ((rw [hda])) | ((rw [hdb])) | ((conv in (eqS _ _ _) => whnf); rw [hself _ (by rfl)]) | refine callK_p L13_alive_ok ?_ | refine callM_p L13_alive_ok rfl ?_ | refine callK_pf rfl L13_alive_ok ?_ | refine callK_pk rfl L13_alive_ok ?_ | refine wpfS_seq1 ?_ | refine wpfS_go ?_ | fail) <;> conv => whnf)
      (first | refine callK_p c7 ?_ | refine callM_p c7 rfl ?_ | refine callK_pf rfl c7 ?_ | refine callK_pk rfl c7 ?_)
      conv => whnf
      repeat' ((first | refine brP_t (by assumption) ?_ | refine brP_f (by assumption) ?_ | refine brP_t (decide_eq_true (by omega)) ?_ | refine brP_f (decide_eq_false (by omega)) ?_ | refine brP_t (nd_t (by omega)) ?_ | refine brP_f (nd_f (by omega)) ?_ | ((rw [hput]; rotate_left; rfl)) | (refine gd_mk ?_ ?_; focus (simp [hl]; done)) | ((rw [hda])) | ((rw [hdb])) | ((conv in (eqS _ _ _) => whnf); rw [hself _ (by rfl)]) | refine callK_p L13_alive_ok ?_ | refine callM_p L13_alive_ok rfl ?_ | refine callK_pf rfl L13_alive_ok ?_ | refine callK_pk rfl L13_alive_ok ?_ | refine wpfS_seq1 ?_ | refine wpfS_go ?_ | fail) <;> conv => whnf)
      rfl
  cases hA : (S.testBit ra || T.testBit ra) with
  | true =>
    rw [hA] at hda
    refine EvP.of_wpf false hm c_L13_ChangeHides rfl ?_
    refine wpf_seq1 ?_
    conv => whnf
    repeat' ((first | refine brP_t (by assumption) ?_ | refine brP_f (by assumption) ?_ | refine brP_t (decide_eq_true (by omega)) ?_ | refine brP_f (decide_eq_false (by omega)) ?_ | refine brP_t (nd_t (by omega)) ?_ | refine brP_f (nd_f (by omega)) ?_ | ((rw [hput]; rotate_left; rfl)) | (refine gd_mk ?_ ?_; focus (simp [hl]; done)) | ((rw [hda])) | refine callK_p L13_alive_ok ?_ | refine callM_p L13_alive_ok rfl ?_ | refine callK_pf rfl L13_alive_ok ?_ | refine callK_pk rfl L13_alive_ok ?_ | refine wpfS_seq1 ?_ | refine wpfS_go ?_ | fail) <;> conv => whnf)
    (first | refine callK_p m1 ?_ | refine callM_p m1 rfl ?_ | refine callK_pf rfl m1 ?_ | refine callK_pk rfl m1 ?_)
    conv => whnf
    repeat' ((first | refine brP_t (by assumption) ?_ | refine brP_f (by assumption) ?_ | refine brP_t (decide_eq_true (by omega)) ?_ | refine brP_f (decide_eq_false (by omega)) ?_ | refine brP_t (nd_t (by omega)) ?_ | refine brP_f (nd_f (by omega)) ?_ | ((rw [hput]; rotate_left; rfl)) | (refine gd_mk ?_ ?_; focus (simp [hl]; done)) | ((rw [hda])) | refine callK_p L13_alive_ok ?_ | refine callM_p L13_alive_ok rfl ?_ | refine callK_pf rfl L13_alive_ok ?_ | refine callK_pk rfl L13_alive_ok ?_ | refine wpfS_seq1 ?_ | refine wpfS_go ?_ | fail) <;> conv => whnf)
    (first | refine callK_p c1 ?_ | refine callM_p c1 rfl ?_ | refine callK_pf rfl c1 ?_ | refine callK_pk rfl c1 ?_)
    conv => whnf
    repeat' ((first | refine brP_t (by assumption) ?_ | refine brP_f (by assumption) ?_ | refine brP_t (decide_eq_true (by omega)) ?_ | refine brP_f (decide_eq_false (by omega)) ?_ | refine brP_t (nd_t (by omega)) ?_ | refine brP_f (nd_f (by omega)) ?_ | ((rw [hput]; rotate_left; rfl)) | (refine gd_mk ?_ ?_; focus (simp [hl]; done)) | ((rw [hda])) | refine callK_p L13_alive_ok ?_ | refine callM_p L13_alive_ok rfl ?_ | refine callK_pf rfl L13_alive_ok ?_ | refine callK_pk rfl L13_alive_ok ?_ | refine wpfS_seq1 ?_ | refine wpfS_go ?_ | fail) <;> conv => whnf)
    (first | refine callK_p c2 ?_ | refine callM_p c2 rfl ?_ | refine callK_pf rfl c2 ?_ | refine callK_pk rfl c2 ?_)
    conv => whnf
    repeat' ((first | refine brP_t (by assumption) ?_ | refine brP_f (by assumption) ?_ | refine brP_t (decide_eq_true (by omega)) ?_ | refine brP_f (decide_eq_false (by omega)) ?_ | refine brP_t (nd_t (by omega)) ?_ | refine brP_f (nd_f (by omega)) ?_ | ((rw [hput]; rotate_left; rfl)) | (refine gd_mk ?_ ?_; focus (simp [hl]; done)) | ((rw [hda])) | refine callK_p L13_alive_ok ?_ | refine callM_p L13_alive_ok rfl ?_ | refine callK_pf rfl L13_alive_ok ?_ | refine callK_pk rfl L13_alive_ok ?_ | refine wpfS_seq1 ?_ | refine wpfS_go ?_ | fail) <;> conv => whnf)
    (first | refine callK_p c3 ?_ | refine callM_p c3 rfl ?_ | refine callK_pf rfl c3 ?_ | refine callK_pk rfl c3 ?_)
    conv => whnf
    repeat' ((first | refine brP_t (by assumption) ?_ | refine brP_f (by assumption) ?_ | refine brP_t (decide_eq_true (by omega)) ?_ | refine brP_f (decide_eq_false (by omega)) ?_ | refine brP_t (nd_t (by omega)) ?_ | refine brP_f (nd_f (by omega)) ?_ | ((rw [hput]; rotate_left; rfl)) | (refine gd_mk ?_ ?_; focus (simp [hl]; done)) | ((rw [hda])) | refine callK_p L13_alive_ok ?_ | refine callM_p L13_alive_ok rfl ?_ | refine callK_pf rfl L13_alive_ok ?_ | refine callK_pk rfl L13_alive_ok ?_ | refine wpfS_seq1 ?_ | refine wpfS_go ?_ | fail) <;> conv => whnf)
    rfl
  | false =>
    rw [hA] at hda
    rw [Bool.or_eq_false_iff] at hA
    obtain ⟨rfl, rfl, rfl⟩ := hfin (.inl hA)
    refine EvP.of_wpf false hm c_L13_ChangeHides rfl ?_
    refine wpf_seq1 ?_
    conv => whnf
    repeat' ((first | refine brP_t (by assumption) ?_ | refine brP_f (by assumption) ?_ | refine brP_t (decide_eq_true (by omega)) ?_ | refine brP_f (decide_eq_false (by omega)) ?_ | refine brP_t (nd_t (by omega)) ?_ | refine brP_f (nd_f (by omega)) ?_ | ((rw [hput]; rotate_left; rfl)) | (refine gd_mk ?_ ?_; focus (simp [hl]; done)) | ((rw [hda])) | ((conv in (eqS _ _ _) => whnf); rw [hself _ (by rfl)]) | refine callK_p L13_alive_ok ?_ | refine callM_p L13_alive_ok rfl ?_ | refine callK_pf rfl L13_alive_ok ?_ | refine callK_pk rfl L13_alive_ok ?_ | refine wpfS_seq1 ?_ | refine wpfS_go ?_ | fail) <;> conv => whnf)
    (first | refine callK_p m1 ?_ | refine callM_p m1 rfl ?_ | refine callK_pf rfl m1 ?_ | refine callK_pk rfl m1 ?_)
    conv => whnf
    repeat' ((first | refine brP_t (by assumption) ?_ | refine brP_f (by assumption) ?_ | refine brP_t (decide_eq_true (by omega)) ?_ | refine brP_f (decide_eq_false (by omega)) ?_ | refine brP_t (nd_t (by omega)) ?_ | refine brP_f (nd_f (by omega)) ?_ | ((rw [hput]; rotate_left; rfl)) | (refine gd_mk ?_ ?_; focus (simp [hl]; done)) | ((rw [hda])) | ((conv in (eqS _ _ _) => whnf); rw [hself _ (by rfl)]) | refine callK_p L13_alive_ok ?_ | refine callM_p L13_alive_ok rfl ?_ | refine callK_pf rfl L13_alive_ok ?_ | refine callK_pk rfl L13_alive_ok ?_ | refine wpfS_seq1 ?_ | refine wpfS_go ?_ | fail) <;> conv => whnf)
    (first | refine callK_p c1 ?_ | refine callM_p c1 rfl ?_ | refine callK_pf rfl c1 ?_ | refine callK_pk rfl c1 ?_)
    conv => whnf
    repeat' ((first | refine brP_t (by assumption) ?_ | refine brP_f (by assumption) ?_ | refine brP_t (decide_eq_true (by omega)) ?_ | refine brP_f (decide_eq_false (by omega)) ?_ | refine brP_t (nd_t (by omega)) ?_ | refine brP_f (nd_f (by omega)) ?_ | ((rw [hput]; rotate_left; rfl)) | (refine gd_mk ?_ ?_; focus (simp [hl]; done)) | ((rw [hda])) | ((conv in (eqS _ _ _) => whnf); rw [hself _ (by rfl)]) | refine callK_p L13_alive_ok ?_ | refine callM_p L13_alive_ok rfl ?_ | refine callK_pf rfl L13_alive_ok ?_ | refine callK_pk rfl L13_alive_ok ?_ | refine wpfS_seq1 ?_ | refine wpfS_go ?_ | fail) <;> conv => whnf)
    (first | refine callK_p c2 ?_ | refine callM_p c2 rfl ?_ | refine callK_pf rfl c2 ?_ | refine callK_pk rfl c2 ?_)
    conv => whnf
    repeat' ((first | refine brP_t (by assumption) ?_ | refine brP_f (by assumption) ?_ | refine brP_t (decide_eq_true (by omega)) ?_ | refine brP_f (decide_eq_false (by omega)) ?_ | refine brP_t (nd_t (by omega)) ?_ | refine brP_f (nd_f (by omega)) ?_ | ((rw [hput]; rotate_left; rfl)) | (refine gd_mk ?_ ?_; focus (simp [hl]; done)) | ((rw [hda])) | ((conv in (eqS _ _ _) => whnf); rw [hself _ (by rfl)]) | refine callK_p L13_alive_ok ?_ | refine callM_p L13_alive_ok rfl ?_ | refine callK_pf rfl L13_alive_ok ?_ | refine callK_pk rfl L13_alive_ok ?_ | refine wpfS_seq1 ?_ | refine wpfS_go ?_ | fail) <;> conv => whnf)
    (first | refine callK_p c3 ?_ | refine callM_p c3 rfl ?_ | refine callK_pf rfl c3 ?_ | refine callK_pk rfl c3 ?_)
    conv => whnf
    repeat' ((first | refine brP_t (by assumption) ?_ | refine brP_f (by assumption) ?_ | refine brP_t (decide_eq_true (by omega)) ?_ | refine brP_f (decide_eq_false (by omega)) ?_ | refine brP_t (nd_t (by omega)) ?_ | refine brP_f (nd_f (by omega)) ?_ | ((rw [hput]; rotate_left; rfl)) | (refine gd_mk ?_ ?_; focus (simp [hl]; done)) | ((rw [hda])) | ((conv in (eqS _ _ _) => whnf); rw [hself _ (by rfl)]) | refine callK_p L13_alive_ok ?_ | refine callM_p L13_alive_ok rfl ?_ | refine callK_pf rfl L13_alive_ok ?_ | refine callK_pk rfl L13_alive_ok ?_ | refine wpfS_seq1 ?_ | refine wpfS_go ?_ | fail) <;> conv => whnf)
    (first | refine callK_p c4 ?_ | refine callM_p c4 rfl ?_ | refine callK_pf rfl c4 ?_ | refine callK_pk rfl c4 ?_)
    conv => whnf
    repeat' ((first | refine brP_t (by assumption) ?_ | refine brP_f (by assumption) ?_ | refine brP_t (decide_eq_true (by omega)) ?_ | refine brP_f (decide_eq_false (by omega)) ?_ | refine brP_t (nd_t (by omega)) ?_ | refine brP_f (nd_f (by omega)) ?_ | ((rw [hput]; rotate_left; rfl)) | (refine gd_mk ?_ ?_; focus (simp [hl]; done)) | ((rw [hda])) | ((conv in (eqS _ _ _) => whnf); rw [hself _ (by rfl)]) | refine callK_p L13_alive_ok ?_ | refine callM_p L13_alive_ok rfl ?_ | refine callK_pf rfl L13_alive_ok ?_ | refine callK_pk rfl L13_alive_ok ?_ | refine wpfS_seq1 ?_ | refine wpfS_go ?_ | fail) <;> conv => whnf)
    (first | refine callK_p c5 ?_ | refine callM_p c5 rfl ?_ | refine callK_pf rfl c5 ?_ | refine callK_pk rfl c5 ?_)
    conv => whnf
    repeat' ((first | refine brP_t (by assumption) ?_ | refine brP_f (by assumption) ?_ | refine brP_t (decide_eq_true (by omega)) ?_ | refine brP_f (decide_eq_false (by omega)) ?_ | refine brP_t (nd_t (by omega)) ?_ | refine brP_f (nd_f (by omega)) ?_ | ((rw [hput]; rotate_left; rfl)) | (refine gd_mk ?_ ?_; focus (simp [hl]; done)) | ((rw [hda])) | ((conv in (eqS _ _ _) => whnf); rw [hself _ (by rfl)]) | refine callK_p L13_alive_ok ?_ | refine callM_p L13_alive_ok rfl ?_ | refine callK_pf rfl L13_alive_ok ?_ | refine callK_pk rfl L13_alive_ok ?_ | refine wpfS_seq1 ?_ | refine wpfS_go ?_ | fail) <;> conv => whnf)
    (first | refine callK_p c6 ?_ | refine callM_p c6 rfl ?_ | refine callK_pf rfl c6 ?_ | refine callK_pk rfl c6 ?_)
    conv => whnf
    repeat' ((first | refine brP_t (by assumption) ?_ | refine brP_f (by assumption) ?_ | refine brP_t (decide_eq_true (by omega)) ?_ | refine brP_f (decide_eq_false (by omega)) ?_ | refine brP_t (nd_t (by omega)) ?_ | refine brP_f (nd_f (by omega)) ?_ | ((rw [hput]; rotate_left; rfl)) | (refine gd_mk ?_ ?_; focus (simp [hl]; done)) | ((rw [hda])) | ((conv in (eqS _ _ _) => whnf); rw [hself _ (by rfl)]) | refine callK_p L13_alive_ok ?_ | refine callM_p L13_alive_ok rfl ?_ | refine callK_pf rfl L13_alive_ok ?_ | refine callK_pk rfl L13_alive_ok ?_ | refine wpfS_seq1 ?_ | refine wpfS_go ?_ | fail) <;> conv => whnf)
    (first | refine callK_p c7 ?_ | refine callM_p c7 rfl ?_ | refine callK_pf rfl c7 ?_ | refine callK_pk rfl c7 ?_)
    conv => whnf
    repeat' ((first | refine brP_t (by assumption) ?_ | refine brP_f (by assumption) ?_ | refine brP_t (decide_eq_true (by omega)) ?_ | refine brP_f (decide_eq_false (by omega)) ?_ | refine brP_t (nd_t (by omega)) ?_ | refine brP_f (nd_f (by omega)) ?_ | ((rw [hput]; rotate_left; rfl)) | (refine gd_mk ?_ ?_; focus (simp [hl]; done)) | ((rw [hda])) | ((conv in (eqS _ _ _) => whnf); rw [hself _ (by rfl)]) | refine callK_p L13_alive_ok ?_ | refine callM_p L13_alive_ok rfl ?_ | refine callK_pf rfl L13_alive_ok ?_ | refine callK_pk rfl L13_alive_ok ?_ | refine wpfS_seq1 ?_ | refine wpfS_go ?_ | fail) <;> conv => whnf)
    rfl
theorem law_changeHides (pvss : List (List PV)) (hw : wts [shPol, shChg, shLb, .int .i64] pvss) : EvP PR G f_L13_ChangeHides (argAVs [shPol, shChg, shLb, .int .i64] pvss) (.c (.p (.bool true))) := by
  obtain ⟨a, _, rfl, ha, hw⟩ := wts_cons hw
  obtain ⟨b, _, rfl, hb, hw⟩ := wts_cons hw
  obtain ⟨c, _, rfl, hc, hw⟩ := wts_cons hw
  obtain ⟨d, _, rfl, hd, hw⟩ := wts_cons hw
  cases wts_nil hw
  obtain ⟨p, rfl, hp⟩ := pol_of ha
  obtain ⟨c, rfl, hc'⟩ := chg_of hb
  obtain ⟨s, i, rfl, hs, hi⟩ := lab_of hc
  obtain ⟨n, rfl, -⟩ := hd
  exact changeHides_ok p hp c hc' s i hs hi n
end Go.Ab.S
