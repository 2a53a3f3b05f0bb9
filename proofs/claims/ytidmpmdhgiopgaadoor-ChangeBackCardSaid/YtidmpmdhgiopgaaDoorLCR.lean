/- ChangeBack. No condition. -/
import Derived.Test.YtidmpmdhgiopgaaDoorLCP
import Derived.Test.YtidmpmdhgiopgaaDoorFwH
set_option linter.unusedSimpArgs false
set_option linter.unusedVariables false
namespace Go.Ab.S
open Go Go.Ab Go.Proofs
attribute [local irreducible] SemS
set_option maxRecDepth 100000
set_option maxHeartbeats 8000000 in
theorem changeBack_ok (p : Pol) (hp : p.Ok) (a b : Int) (s i : Nat) (hs : s < 65536) (hi : i < 65536) : EvP PR G f_L13_ChangeBack [p.v, iv a, iv b, lab s i] (bv true) := by
  have m1 := R12_Mend_ok p hp
  have hq0 := mend_ok hp
  have hf0 := mend_fine hp
  generalize mendP p = q0 at *
  have c1 := change_One_ok q0 hq0 ⟨1, a, 0, s, i⟩ hs hi
  have b1 := fun x h => back_add (x := x) (a := a) (b := b) (s := s) (i := i) hq0 hf0 h
  have hx := (oneQ_ok hq0 (c := ⟨1, a, 0, s, i⟩) hs hi).1
  unfold resQ at c1
  generalize oneQ q0 ⟨1, a, 0, s, i⟩ = o1 at *
  obtain ⟨x, e⟩ := o1
  have m1 : EvP PR G f_R12_Mend [p.v] (.agg q0.row) := m1
  have c1 : EvP PR G f_change_One [q0.v, .agg [.int .i64 1, .int .i64 a, .int .i64 0, .int .u16 s, .int .u16 i]] (.tup [.agg x.row, iv e]) := c1
  have hlQ := row66 q0
  have hlX := row66 x
  have eQ : q0.v = .agg (List.take 66 (List.drop 0 q0.row)) := by rw [td66 hlQ]; rfl
  rw [eQ] at c1
  generalize hRQ : q0.row = RQ at *
  generalize hRX : x.row = RX at *
  have hpQ : ∀ z : List PV, z.length = 66 → putAt z 0 RQ = RQ := fun z hz => put66 hlQ hz
  have hpX : ∀ z : List PV, z.length = 66 → putAt z 0 RX = RX := fun z hz => put66 hlX hz
  refine ⟨rfl, rfl, EvG.of_sem false true c_L13_ChangeBack rfl ?_⟩
  refine SemS.seqS (SemS.of_wpf false hm ?_)
  conv => whnf
  refine SemS.seqS (SemS.of_wpf false hm ?_)
  conv => whnf
  repeat' ((first | refine brP_t (by assumption) ?_ | refine brP_f (by assumption) ?_ | refine brP_t (decide_eq_true (by omega)) ?_ | refine brP_f (decide_eq_false (by omega)) ?_ | refine brP_t (nd_t (by omega)) ?_ | refine brP_f (nd_f (by omega)) ?_ | ((rw [hpQ]; rotate_left; rfl)) | (refine gd_mk ?_ ?_; focus (simp [hlQ, row66]; done)) | refine wpfS_seq1 ?_ | refine wpfS_go ?_ | fail) <;> conv => whnf)
  (first | refine callK_p m1 ?_ | refine callM_p m1 rfl ?_ | refine callK_pf rfl m1 ?_ | refine callK_pk rfl m1 ?_)
  conv => whnf
  repeat' ((first | refine brP_t (by assumption) ?_ | refine brP_f (by assumption) ?_ | refine brP_t (decide_eq_true (by omega)) ?_ | refine brP_f (decide_eq_false (by omega)) ?_ | refine brP_t (nd_t (by omega)) ?_ | refine brP_f (nd_f (by omega)) ?_ | ((rw [hpQ]; rotate_left; rfl)) | (refine gd_mk ?_ ?_; focus (simp [hlQ, row66]; done)) | refine wpfS_seq1 ?_ | refine wpfS_go ?_ | fail) <;> conv => whnf)
  refine SemS.seqS (SemS.of_wpf false hm ?_)
  conv => whnf
  repeat' ((first | refine brP_t (by assumption) ?_ | refine brP_f (by assumption) ?_ | refine brP_t (decide_eq_true (by omega)) ?_ | refine brP_f (decide_eq_false (by omega)) ?_ | refine brP_t (nd_t (by omega)) ?_ | refine brP_f (nd_f (by omega)) ?_ | ((rw [hpX]; rotate_left; rfl)) | (refine gd_mk ?_ ?_; focus (simp [hlQ, row66]; done)) | (refine gd_mk ?_ ?_; focus (simp [hlX, row66]; done)) | refine wpfS_seq1 ?_ | refine wpfS_go ?_ | fail) <;> conv => whnf)
  (first | refine callK_p c1 ?_ | refine callM_p c1 rfl ?_ | refine callK_pf rfl c1 ?_ | refine callK_pk rfl c1 ?_)
  conv => whnf
  repeat' ((first | refine brP_t (by assumption) ?_ | refine brP_f (by assumption) ?_ | refine brP_t (decide_eq_true (by omega)) ?_ | refine brP_f (decide_eq_false (by omega)) ?_ | refine brP_t (nd_t (by omega)) ?_ | refine brP_f (nd_f (by omega)) ?_ | ((rw [hpX]; rotate_left; rfl)) | (refine gd_mk ?_ ?_; focus (simp [hlQ, row66]; done)) | (refine gd_mk ?_ ?_; focus (simp [hlX, row66]; done)) | refine wpfS_seq1 ?_ | refine wpfS_go ?_ | fail) <;> conv => whnf)
  have hsQ : ∀ ks, ks = polK → eqCells ks (List.take 66 (List.drop 0 RQ)) (List.take 66 (List.drop 0 RQ)) = some true := fun ks h => by
    rw [td66 hlQ, ← hRQ]; exact eqCells_self (pol_typ q0) h
  refine SemS.cutS [(4, .c (.ptr (.loc 0) 0)), (1, iv a), (2, iv b), (7, .c (.ptr (.loc 1) 0)), (8, bv false)] ⟨[], [.row RQ, .row [.int .u16 s, .int .u16 i], .row RX]⟩ 3 rfl rfl rfl ?_ ?_
  · clear c1 m1
    by_cases he : e = 0
    case neg =>
      refine SemS.of_wpf false hm ?_
      refine wpf_seq1 ?_
      conv => whnf
      repeat' ((first | refine brP_t (by assumption) ?_ | refine brP_f (by assumption) ?_ | refine brP_t (decide_eq_true (by omega)) ?_ | refine brP_f (decide_eq_false (by omega)) ?_ | refine brP_t (nd_t (by omega)) ?_ | refine brP_f (nd_f (by omega)) ?_ | refine wpfS_seq1 ?_ | refine wpfS_go ?_ | fail) <;> conv => whnf)
      exact ⟨⟨rfl, rfl, rfl, rfl, rfl, trivial⟩, rfl⟩
    subst he
    have eX : x.v = .agg (List.take 66 (List.drop 0 RX)) := by rw [← hRX, td66 (row66 x)]; rfl
    obtain ⟨ha, e2, ⟨h1, z, h2, h3⟩ | ⟨y, h1, hne, z, h2, h3⟩⟩ := b1 x rfl
    · have d1 := change_One_ok x hx ⟨3, a, b, 0, 0⟩ (show 0 < 65536 by omega) (show 0 < 65536 by omega)
      have d2 := change_One_ok x hx ⟨2, a, 0, 0, 0⟩ (show 0 < 65536 by omega) (show 0 < 65536 by omega)
      rw [h1, eX] at d1
      rw [h2, eX] at d2
      have d2 : EvP PR G f_change_One [.agg (List.take 66 (List.drop 0 RX)), .agg [.int .i64 2, .int .i64 a, .int .i64 0, .int .u16 0, .int .u16 0]] (.tup [.agg z.row, iv 0]) := d2
      rw [h3] at d2
      obtain ⟨RZ, hRZ⟩ : ∃ R, R = zeroP.row := ⟨_, rfl⟩
      have d1 : EvP PR G f_change_One [.agg (List.take 66 (List.drop 0 RX)), .agg [.int .i64 3, .int .i64 a, .int .i64 b, .int .u16 0, .int .u16 0]] (.tup [.agg zeroP.row, iv e2]) := d1
      rw [← hRZ] at d1
      have hlZ : RZ.length = 66 := by rw [hRZ]; rfl
      have hpZ : ∀ z : List PV, z.length = 66 → putAt z 0 RZ = RZ := fun z hz => put66 hlZ hz
      have hs0 : ∀ ks zs, ks = polK → zs = zeroP.row → eqCells ks (List.take 66 (List.drop 0 RZ)) zs = some true := fun ks zs h h' => by
        rw [td66 hlZ, h', hRZ]; exact eqCells_self (pol_typ zeroP) h
      have hpt : putAt RZ 0 (List.take 66 (List.drop 0 RX)) = RX := by rw [td66 hlX]; exact put66 hlX hlZ
      clear hRZ
      refine SemS.of_wpfS false hm ?_
      repeat' ((first | refine brP_t (by assumption) ?_ | refine brP_f (by assumption) ?_ | refine brP_t (decide_eq_true (by omega)) ?_ | refine brP_f (decide_eq_false (by omega)) ?_ | refine brP_t (nd_t (by omega)) ?_ | refine brP_f (nd_f (by omega)) ?_ | ((rw [hpt])) | ((rw [hpX]; rotate_left; rfl)) | ((rw [hpZ]; rotate_left; rfl)) | ((rw [hpQ]; rotate_left; rfl)) | (refine gd_mk ?_ ?_; focus (simp [hlQ, row66]; done)) | (refine gd_mk ?_ ?_; focus (simp [hlX, row66]; done)) | (refine gd_mk ?_ ?_; focus (simp [hlZ, row66]; done)) | (refine gd_mk ?_ ?_; focus (simp [hlZ, hlX]; done)) | ((conv in (eqS _ _ _) => whnf); rw [hs0 _ _ (by rfl) (by rfl)]) | ((conv in (eqS _ _ _) => whnf); rw [hsQ _ (by rfl)]) | refine wpfS_seq2 ?_ | refine wpfS_cons ?_ | refine wpfS_nil ?_ | refine wpfS_cond ?_ | refine wpfS_block ?_ | refine wpfS_dr ?_ | refine lMS_cons ?_ | refine lMS_nil ?_ | refine wpfS_go ?_ | fail) <;> conv => whnf)
      (first | refine callK_p d1 ?_ | refine callM_p d1 rfl ?_ | refine callK_pf rfl d1 ?_ | refine callK_pk rfl d1 ?_)
      conv => whnf
      repeat' ((first | refine brP_t (by assumption) ?_ | refine brP_f (by assumption) ?_ | refine brP_t (decide_eq_true (by omega)) ?_ | refine brP_f (decide_eq_false (by omega)) ?_ | refine brP_t (nd_t (by omega)) ?_ | refine brP_f (nd_f (by omega)) ?_ | ((rw [hpt])) | ((rw [hpX]; rotate_left; rfl)) | ((rw [hpZ]; rotate_left; rfl)) | ((rw [hpQ]; rotate_left; rfl)) | (refine gd_mk ?_ ?_; focus (simp [hlQ, row66]; done)) | (refine gd_mk ?_ ?_; focus (simp [hlX, row66]; done)) | (refine gd_mk ?_ ?_; focus (simp [hlZ, row66]; done)) | (refine gd_mk ?_ ?_; focus (simp [hlZ, hlX]; done)) | ((conv in (eqS _ _ _) => whnf); rw [hs0 _ _ (by rfl) (by rfl)]) | ((conv in (eqS _ _ _) => whnf); rw [hsQ _ (by rfl)]) | refine wpfS_seq2 ?_ | refine wpfS_cons ?_ | refine wpfS_nil ?_ | refine wpfS_cond ?_ | refine wpfS_block ?_ | refine wpfS_dr ?_ | refine lMS_cons ?_ | refine lMS_nil ?_ | refine wpfS_go ?_ | fail) <;> conv => whnf)
      (first | refine callK_p d2 ?_ | refine callM_p d2 rfl ?_ | refine callK_pf rfl d2 ?_ | refine callK_pk rfl d2 ?_)
      conv => whnf
      repeat' ((first | refine brP_t (by assumption) ?_ | refine brP_f (by assumption) ?_ | refine brP_t (decide_eq_true (by omega)) ?_ | refine brP_f (decide_eq_false (by omega)) ?_ | refine brP_t (nd_t (by omega)) ?_ | refine brP_f (nd_f (by omega)) ?_ | ((rw [hpt])) | ((rw [hpX]; rotate_left; rfl)) | ((rw [hpZ]; rotate_left; rfl)) | ((rw [hpQ]; rotate_left; rfl)) | (refine gd_mk ?_ ?_; focus (simp [hlQ, row66]; done)) | (refine gd_mk ?_ ?_; focus (simp [hlX, row66]; done)) | (refine gd_mk ?_ ?_; focus (simp [hlZ, row66]; done)) | (refine gd_mk ?_ ?_; focus (simp [hlZ, hlX]; done)) | ((conv in (eqS _ _ _) => whnf); rw [hs0 _ _ (by rfl) (by rfl)]) | ((conv in (eqS _ _ _) => whnf); rw [hsQ _ (by rfl)]) | refine wpfS_seq2 ?_ | refine wpfS_cons ?_ | refine wpfS_nil ?_ | refine wpfS_cond ?_ | refine wpfS_block ?_ | refine wpfS_dr ?_ | refine lMS_cons ?_ | refine lMS_nil ?_ | refine wpfS_go ?_ | fail) <;> conv => whnf)
      exact ⟨⟨rfl, rfl, rfl, rfl, rfl, trivial⟩, rfl⟩
    · have d1 := change_One_ok x hx ⟨3, a, b, 0, 0⟩ (show 0 < 65536 by omega) (show 0 < 65536 by omega)
      have hy := (oneQ_ok hx (c := ⟨3, a, b, 0, 0⟩) (show 0 < 65536 by omega) (show 0 < 65536 by omega)).1
      rw [h1] at hy
      have hy : y.Ok := hy
      have d2 := change_One_ok y hy ⟨2, a, 0, 0, 0⟩ (show 0 < 65536 by omega) (show 0 < 65536 by omega)
      have eY : y.v = .agg (List.take 66 (List.drop 0 y.row)) := by rw [td66 (row66 y)]; rfl
      rw [h1, eX] at d1
      rw [h2, eY] at d2
      have d2 : EvP PR G f_change_One [.agg (List.take 66 (List.drop 0 y.row)), .agg [.int .i64 2, .int .i64 a, .int .i64 0, .int .u16 0, .int .u16 0]] (.tup [.agg z.row, iv 0]) := d2
      rw [h3] at d2
      have d1 : EvP PR G f_change_One [.agg (List.take 66 (List.drop 0 RX)), .agg [.int .i64 3, .int .i64 a, .int .i64 b, .int .u16 0, .int .u16 0]] (.tup [.agg y.row, iv e2]) := d1
      have hlY := row66 y
      have htY := pol_typ y
      clear eY h1 h2
      generalize y.row = RY at *
      have hpY : ∀ z : List PV, z.length = 66 → putAt z 0 RY = RY := fun z hz => put66 hlY hz
      have hs0 : ∀ ks zs, ks = polK → zs = zeroP.row → eqCells ks (List.take 66 (List.drop 0 RY)) zs = some false := fun ks zs h h' => by
        rw [td66 hlY, h']; exact eqCells_ne htY (pol_typ zeroP) h hne
      refine SemS.of_wpfS false hm ?_
      repeat' ((first | refine brP_t (by assumption) ?_ | refine brP_f (by assumption) ?_ | refine brP_t (decide_eq_true (by omega)) ?_ | refine brP_f (decide_eq_false (by omega)) ?_ | refine brP_t (nd_t (by omega)) ?_ | refine brP_f (nd_f (by omega)) ?_ | ((rw [hpX]; rotate_left; rfl)) | ((rw [hpY]; rotate_left; rfl)) | ((rw [hpQ]; rotate_left; rfl)) | (refine gd_mk ?_ ?_; focus (simp [hlQ, row66]; done)) | (refine gd_mk ?_ ?_; focus (simp [hlX, row66]; done)) | (refine gd_mk ?_ ?_; focus (simp [hlY, row66]; done)) | ((conv in (eqS _ _ _) => whnf); rw [hs0 _ _ (by rfl) (by rfl)]) | ((conv in (eqS _ _ _) => whnf); rw [hsQ _ (by rfl)]) | refine wpfS_seq2 ?_ | refine wpfS_cons ?_ | refine wpfS_nil ?_ | refine wpfS_cond ?_ | refine wpfS_block ?_ | refine wpfS_dr ?_ | refine lMS_cons ?_ | refine lMS_nil ?_ | refine wpfS_go ?_ | fail) <;> conv => whnf)
      (first | refine callK_p d1 ?_ | refine callM_p d1 rfl ?_ | refine callK_pf rfl d1 ?_ | refine callK_pk rfl d1 ?_)
      conv => whnf
      repeat' ((first | refine brP_t (by assumption) ?_ | refine brP_f (by assumption) ?_ | refine brP_t (decide_eq_true (by omega)) ?_ | refine brP_f (decide_eq_false (by omega)) ?_ | refine brP_t (nd_t (by omega)) ?_ | refine brP_f (nd_f (by omega)) ?_ | ((rw [hpX]; rotate_left; rfl)) | ((rw [hpY]; rotate_left; rfl)) | ((rw [hpQ]; rotate_left; rfl)) | (refine gd_mk ?_ ?_; focus (simp [hlQ, row66]; done)) | (refine gd_mk ?_ ?_; focus (simp [hlX, row66]; done)) | (refine gd_mk ?_ ?_; focus (simp [hlY, row66]; done)) | ((conv in (eqS _ _ _) => whnf); rw [hs0 _ _ (by rfl) (by rfl)]) | ((conv in (eqS _ _ _) => whnf); rw [hsQ _ (by rfl)]) | refine wpfS_seq2 ?_ | refine wpfS_cons ?_ | refine wpfS_nil ?_ | refine wpfS_cond ?_ | refine wpfS_block ?_ | refine wpfS_dr ?_ | refine lMS_cons ?_ | refine lMS_nil ?_ | refine wpfS_go ?_ | fail) <;> conv => whnf)
      (first | refine callK_p d2 ?_ | refine callM_p d2 rfl ?_ | refine callK_pf rfl d2 ?_ | refine callK_pk rfl d2 ?_)
      conv => whnf
      repeat' ((first | refine brP_t (by assumption) ?_ | refine brP_f (by assumption) ?_ | refine brP_t (decide_eq_true (by omega)) ?_ | refine brP_f (decide_eq_false (by omega)) ?_ | refine brP_t (nd_t (by omega)) ?_ | refine brP_f (nd_f (by omega)) ?_ | ((rw [hpX]; rotate_left; rfl)) | ((rw [hpY]; rotate_left; rfl)) | ((rw [hpQ]; rotate_left; rfl)) | (refine gd_mk ?_ ?_; focus (simp [hlQ, row66]; done)) | (refine gd_mk ?_ ?_; focus (simp [hlX, row66]; done)) | (refine gd_mk ?_ ?_; focus (simp [hlY, row66]; done)) | ((conv in (eqS _ _ _) => whnf); rw [hs0 _ _ (by rfl) (by rfl)]) | ((conv in (eqS _ _ _) => whnf); rw [hsQ _ (by rfl)]) | refine wpfS_seq2 ?_ | refine wpfS_cons ?_ | refine wpfS_nil ?_ | refine wpfS_cond ?_ | refine wpfS_block ?_ | refine wpfS_dr ?_ | refine lMS_cons ?_ | refine lMS_nil ?_ | refine wpfS_go ?_ | fail) <;> conv => whnf)
      exact ⟨⟨rfl, rfl, rfl, rfl, rfl, trivial⟩, rfl⟩
  clear b1 c1 m1 hpX
  have c2 := change_One_ok q0 hq0 ⟨3, a, b, 0, 0⟩ (show 0 < 65536 by omega) (show 0 < 65536 by omega)
  have b2 := fun u h => back_link (u := u) (a := a) (b := b) hq0 h
  have hu := (oneQ_ok hq0 (c := ⟨3, a, b, 0, 0⟩) (show 0 < 65536 by omega) (show 0 < 65536 by omega)).1
  unfold resQ at c2
  generalize oneQ q0 ⟨3, a, b, 0, 0⟩ = o2 at *
  obtain ⟨u, g⟩ := o2
  have c2 : EvP PR G f_change_One [q0.v, .agg [.int .i64 3, .int .i64 a, .int .i64 b, .int .u16 0, .int .u16 0]] (.tup [.agg u.row, iv g]) := c2
  rw [hRQ] at b2
  rw [eQ] at c2
  have hlU := row66 u
  generalize hRU : u.row = RU at *
  have hpU : ∀ z : List PV, z.length = 66 → putAt z 0 RU = RU := fun z hz => put66 hlU hz
  refine SemS.seqS (SemS.of_wpfS false hm ?_)
  repeat' ((first | refine brP_t (by assumption) ?_ | refine brP_f (by assumption) ?_ | refine brP_t (decide_eq_true (by omega)) ?_ | refine brP_f (decide_eq_false (by omega)) ?_ | refine brP_t (nd_t (by omega)) ?_ | refine brP_f (nd_f (by omega)) ?_ | ((rw [hpU]; rotate_left; rfl)) | (refine gd_mk ?_ ?_; focus (simp [hlQ, row66]; done)) | (refine gd_mk ?_ ?_; focus (simp [hlU, row66]; done)) | refine wpfS_seq2 ?_ | refine wpfS_cons ?_ | refine wpfS_nil ?_ | refine wpfS_cond ?_ | refine wpfS_block ?_ | refine wpfS_dr ?_ | refine lMS_cons ?_ | refine lMS_nil ?_ | refine wpfS_go ?_ | fail) <;> conv => whnf)
  (first | refine callK_p c2 ?_ | refine callM_p c2 rfl ?_ | refine callK_pf rfl c2 ?_ | refine callK_pk rfl c2 ?_)
  conv => whnf
  repeat' ((first | refine brP_t (by assumption) ?_ | refine brP_f (by assumption) ?_ | refine brP_t (decide_eq_true (by omega)) ?_ | refine brP_f (decide_eq_false (by omega)) ?_ | refine brP_t (nd_t (by omega)) ?_ | refine brP_f (nd_f (by omega)) ?_ | ((rw [hpU]; rotate_left; rfl)) | (refine gd_mk ?_ ?_; focus (simp [hlQ, row66]; done)) | (refine gd_mk ?_ ?_; focus (simp [hlU, row66]; done)) | refine wpfS_seq2 ?_ | refine wpfS_cons ?_ | refine wpfS_nil ?_ | refine wpfS_cond ?_ | refine wpfS_block ?_ | refine wpfS_dr ?_ | refine lMS_cons ?_ | refine lMS_nil ?_ | refine wpfS_go ?_ | fail) <;> conv => whnf)
  clear c2
  refine SemS.cutS [(4, .c (.ptr (.loc 0) 0)), (1, iv a), (2, iv b), (7, .c (.ptr (.loc 1) 0)), (8, bv false)] ⟨[], [.row RQ, .row [.int .u16 s, .int .u16 i], .row RX, .row RU]⟩ 4 rfl rfl rfl ?_ ?_
  · by_cases he : g = 0
    case neg =>
      refine SemS.of_wpfS false hm ?_
      repeat' ((first | refine brP_t (by assumption) ?_ | refine brP_f (by assumption) ?_ | refine brP_t (decide_eq_true (by omega)) ?_ | refine brP_f (decide_eq_false (by omega)) ?_ | refine brP_t (nd_t (by omega)) ?_ | refine brP_f (nd_f (by omega)) ?_ | refine wpfS_seq2 ?_ | refine wpfS_cons ?_ | refine wpfS_nil ?_ | refine wpfS_cond ?_ | refine wpfS_block ?_ | refine wpfS_dr ?_ | refine lMS_cons ?_ | refine lMS_nil ?_ | refine wpfS_go ?_ | fail) <;> conv => whnf)
      exact ⟨⟨rfl, rfl, rfl, rfl, rfl, trivial⟩, rfl⟩
    subst he
    have eU : u.v = .agg (List.take 66 (List.drop 0 RU)) := by rw [← hRU, td66 (row66 u)]; rfl
    obtain ⟨⟨v, h1, h2⟩, h3⟩ := b2 u rfl
    have d1 := change_One_ok u hu ⟨4, a, b, 0, 0⟩ (show 0 < 65536 by omega) (show 0 < 65536 by omega)
    rw [h1, eU] at d1
    have d1 : EvP PR G f_change_One [.agg (List.take 66 (List.drop 0 RU)), .agg [.int .i64 4, .int .i64 a, .int .i64 b, .int .u16 0, .int .u16 0]] (.tup [.agg v.row, iv 0]) := d1
    rw [h2] at d1
    have d2 := policy_ActsFor_ok u hu a b 65535 0 (by omega) (by omega)
    have d3 := policy_Seen_ok q0 hq0 65535 0 (by omega) (by omega)
    have cT := label_Top_ok
    rw [eU] at d2
    rw [eQ] at d3
    cases hA : hasN (dwnN u a 65535 0) b with
    | true =>
      rw [hA] at d2
      refine SemS.of_wpfS false hm ?_
      repeat' ((first | refine brP_t (by assumption) ?_ | refine brP_f (by assumption) ?_ | refine brP_t (decide_eq_true (by omega)) ?_ | refine brP_f (decide_eq_false (by omega)) ?_ | refine brP_t (nd_t (by omega)) ?_ | refine brP_f (nd_f (by omega)) ?_ | ((rw [hpQ]; rotate_left; rfl)) | (refine gd_mk ?_ ?_; focus (simp [hlQ, row66]; done)) | (refine gd_mk ?_ ?_; focus (simp [hlU, row66]; done)) | ((conv in (eqS _ _ _) => whnf); rw [hsQ _ (by rfl)]) | refine wpfS_seq2 ?_ | refine wpfS_cons ?_ | refine wpfS_nil ?_ | refine wpfS_cond ?_ | refine wpfS_block ?_ | refine wpfS_dr ?_ | refine lMS_cons ?_ | refine lMS_nil ?_ | refine wpfS_go ?_ | fail) <;> conv => whnf)
      (first | refine callK_p d1 ?_ | refine callM_p d1 rfl ?_ | refine callK_pf rfl d1 ?_ | refine callK_pk rfl d1 ?_)
      conv => whnf
      repeat' ((first | refine brP_t (by assumption) ?_ | refine brP_f (by assumption) ?_ | refine brP_t (decide_eq_true (by omega)) ?_ | refine brP_f (decide_eq_false (by omega)) ?_ | refine brP_t (nd_t (by omega)) ?_ | refine brP_f (nd_f (by omega)) ?_ | ((rw [hpQ]; rotate_left; rfl)) | (refine gd_mk ?_ ?_; focus (simp [hlQ, row66]; done)) | (refine gd_mk ?_ ?_; focus (simp [hlU, row66]; done)) | ((conv in (eqS _ _ _) => whnf); rw [hsQ _ (by rfl)]) | refine wpfS_seq2 ?_ | refine wpfS_cons ?_ | refine wpfS_nil ?_ | refine wpfS_cond ?_ | refine wpfS_block ?_ | refine wpfS_dr ?_ | refine lMS_cons ?_ | refine lMS_nil ?_ | refine wpfS_go ?_ | fail) <;> conv => whnf)
      (first | refine callK_p cT ?_ | refine callM_p cT rfl ?_ | refine callK_pf rfl cT ?_ | refine callK_pk rfl cT ?_)
      conv => whnf
      repeat' ((first | refine brP_t (by assumption) ?_ | refine brP_f (by assumption) ?_ | refine brP_t (decide_eq_true (by omega)) ?_ | refine brP_f (decide_eq_false (by omega)) ?_ | refine brP_t (nd_t (by omega)) ?_ | refine brP_f (nd_f (by omega)) ?_ | ((rw [hpQ]; rotate_left; rfl)) | (refine gd_mk ?_ ?_; focus (simp [hlQ, row66]; done)) | (refine gd_mk ?_ ?_; focus (simp [hlU, row66]; done)) | ((conv in (eqS _ _ _) => whnf); rw [hsQ _ (by rfl)]) | refine wpfS_seq2 ?_ | refine wpfS_cons ?_ | refine wpfS_nil ?_ | refine wpfS_cond ?_ | refine wpfS_block ?_ | refine wpfS_dr ?_ | refine lMS_cons ?_ | refine lMS_nil ?_ | refine wpfS_go ?_ | fail) <;> conv => whnf)
      (first | refine callK_p d2 ?_ | refine callM_p d2 rfl ?_ | refine callK_pf rfl d2 ?_ | refine callK_pk rfl d2 ?_)
      conv => whnf
      repeat' ((first | refine brP_t (by assumption) ?_ | refine brP_f (by assumption) ?_ | refine brP_t (decide_eq_true (by omega)) ?_ | refine brP_f (decide_eq_false (by omega)) ?_ | refine brP_t (nd_t (by omega)) ?_ | refine brP_f (nd_f (by omega)) ?_ | ((rw [hpQ]; rotate_left; rfl)) | (refine gd_mk ?_ ?_; focus (simp [hlQ, row66]; done)) | (refine gd_mk ?_ ?_; focus (simp [hlU, row66]; done)) | ((conv in (eqS _ _ _) => whnf); rw [hsQ _ (by rfl)]) | refine wpfS_seq2 ?_ | refine wpfS_cons ?_ | refine wpfS_nil ?_ | refine wpfS_cond ?_ | refine wpfS_block ?_ | refine wpfS_dr ?_ | refine lMS_cons ?_ | refine lMS_nil ?_ | refine wpfS_go ?_ | fail) <;> conv => whnf)
      exact ⟨⟨rfl, rfl, rfl, rfl, rfl, trivial⟩, rfl⟩
    | false =>
      rw [hA] at d2 h3
      have h3 := h3.resolve_left (by decide)
      refine SemS.of_wpfS false hm ?_
      have gL : partP false 1 RQ (0 + 0) = some (true, uv q0.live) := by rw [← hRQ]; rfl
      generalize seenN q0 65535 0 = S at *
      generalize q0.live = L at *
      repeat' ((first | refine brP_t (by assumption) ?_ | refine brP_f (by assumption) ?_ | refine brP_t (decide_eq_true (by omega)) ?_ | refine brP_f (decide_eq_false (by omega)) ?_ | refine brP_t (nd_t (by omega)) ?_ | refine brP_f (nd_f (by omega)) ?_ | ((rw [hpQ]; rotate_left; rfl)) | (refine gd_mk ?_ ?_; focus (simp [hlQ, row66]; done)) | (refine gd_mk ?_ ?_; focus (simp [hlU, row66]; done)) | ((conv in (eqS _ _ _) => whnf); rw [hsQ _ (by rfl)]) | ((conv in (opS _ _ _ _) => whnf); rw [gL]) | ((conv in (opM _ _ _ _ _) => whnf); (conv in (opS _ _ _ _) => whnf); rw [gL]) | refine wpfS_seq2 ?_ | refine wpfS_cons ?_ | refine wpfS_nil ?_ | refine wpfS_cond ?_ | refine wpfS_block ?_ | refine wpfS_dr ?_ | refine lMS_cons ?_ | refine lMS_nil ?_ | refine wpfS_go ?_ | fail) <;> conv => whnf)
      (first | refine callK_p d1 ?_ | refine callM_p d1 rfl ?_ | refine callK_pf rfl d1 ?_ | refine callK_pk rfl d1 ?_)
      conv => whnf
      repeat' ((first | refine brP_t (by assumption) ?_ | refine brP_f (by assumption) ?_ | refine brP_t (decide_eq_true (by omega)) ?_ | refine brP_f (decide_eq_false (by omega)) ?_ | refine brP_t (nd_t (by omega)) ?_ | refine brP_f (nd_f (by omega)) ?_ | ((rw [hpQ]; rotate_left; rfl)) | (refine gd_mk ?_ ?_; focus (simp [hlQ, row66]; done)) | (refine gd_mk ?_ ?_; focus (simp [hlU, row66]; done)) | ((conv in (eqS _ _ _) => whnf); rw [hsQ _ (by rfl)]) | ((conv in (opS _ _ _ _) => whnf); rw [gL]) | ((conv in (opM _ _ _ _ _) => whnf); (conv in (opS _ _ _ _) => whnf); rw [gL]) | refine wpfS_seq2 ?_ | refine wpfS_cons ?_ | refine wpfS_nil ?_ | refine wpfS_cond ?_ | refine wpfS_block ?_ | refine wpfS_dr ?_ | refine lMS_cons ?_ | refine lMS_nil ?_ | refine wpfS_go ?_ | fail) <;> conv => whnf)
      (first | refine callK_p cT ?_ | refine callM_p cT rfl ?_ | refine callK_pf rfl cT ?_ | refine callK_pk rfl cT ?_)
      conv => whnf
      repeat' ((first | refine brP_t (by assumption) ?_ | refine brP_f (by assumption) ?_ | refine brP_t (decide_eq_true (by omega)) ?_ | refine brP_f (decide_eq_false (by omega)) ?_ | refine brP_t (nd_t (by omega)) ?_ | refine brP_f (nd_f (by omega)) ?_ | ((rw [hpQ]; rotate_left; rfl)) | (refine gd_mk ?_ ?_; focus (simp [hlQ, row66]; done)) | (refine gd_mk ?_ ?_; focus (simp [hlU, row66]; done)) | ((conv in (eqS _ _ _) => whnf); rw [hsQ _ (by rfl)]) | ((conv in (opS _ _ _ _) => whnf); rw [gL]) | ((conv in (opM _ _ _ _ _) => whnf); (conv in (opS _ _ _ _) => whnf); rw [gL]) | refine wpfS_seq2 ?_ | refine wpfS_cons ?_ | refine wpfS_nil ?_ | refine wpfS_cond ?_ | refine wpfS_block ?_ | refine wpfS_dr ?_ | refine lMS_cons ?_ | refine lMS_nil ?_ | refine wpfS_go ?_ | fail) <;> conv => whnf)
      (first | refine callK_p d2 ?_ | refine callM_p d2 rfl ?_ | refine callK_pf rfl d2 ?_ | refine callK_pk rfl d2 ?_)
      conv => whnf
      repeat' ((first | refine brP_t (by assumption) ?_ | refine brP_f (by assumption) ?_ | refine brP_t (decide_eq_true (by omega)) ?_ | refine brP_f (decide_eq_false (by omega)) ?_ | refine brP_t (nd_t (by omega)) ?_ | refine brP_f (nd_f (by omega)) ?_ | ((rw [hpQ]; rotate_left; rfl)) | (refine gd_mk ?_ ?_; focus (simp [hlQ, row66]; done)) | (refine gd_mk ?_ ?_; focus (simp [hlU, row66]; done)) | ((conv in (eqS _ _ _) => whnf); rw [hsQ _ (by rfl)]) | ((conv in (opS _ _ _ _) => whnf); rw [gL]) | ((conv in (opM _ _ _ _ _) => whnf); (conv in (opS _ _ _ _) => whnf); rw [gL]) | refine wpfS_seq2 ?_ | refine wpfS_cons ?_ | refine wpfS_nil ?_ | refine wpfS_cond ?_ | refine wpfS_block ?_ | refine wpfS_dr ?_ | refine lMS_cons ?_ | refine lMS_nil ?_ | refine wpfS_go ?_ | fail) <;> conv => whnf)
      (first | refine callK_p cT ?_ | refine callM_p cT rfl ?_ | refine callK_pf rfl cT ?_ | refine callK_pk rfl cT ?_)
      conv => whnf
      repeat' ((first | refine brP_t (by assumption) ?_ | refine brP_f (by assumption) ?_ | refine brP_t (decide_eq_true (by omega)) ?_ | refine brP_f (decide_eq_false (by omega)) ?_ | refine brP_t (nd_t (by omega)) ?_ | refine brP_f (nd_f (by omega)) ?_ | ((rw [hpQ]; rotate_left; rfl)) | (refine gd_mk ?_ ?_; focus (simp [hlQ, row66]; done)) | (refine gd_mk ?_ ?_; focus (simp [hlU, row66]; done)) | ((conv in (eqS _ _ _) => whnf); rw [hsQ _ (by rfl)]) | ((conv in (opS _ _ _ _) => whnf); rw [gL]) | ((conv in (opM _ _ _ _ _) => whnf); (conv in (opS _ _ _ _) => whnf); rw [gL]) | refine wpfS_seq2 ?_ | refine wpfS_cons ?_ | refine wpfS_nil ?_ | refine wpfS_cond ?_ | refine wpfS_block ?_ | refine wpfS_dr ?_ | refine lMS_cons ?_ | refine lMS_nil ?_ | refine wpfS_go ?_ | fail) <;> conv => whnf)
      (first | refine callK_p d3 ?_ | refine callM_p d3 rfl ?_ | refine callK_pf rfl d3 ?_ | refine callK_pk rfl d3 ?_)
      conv => whnf
      repeat' ((first | refine brP_t (by assumption) ?_ | refine brP_f (by assumption) ?_ | refine brP_t (decide_eq_true (by omega)) ?_ | refine brP_f (decide_eq_false (by omega)) ?_ | refine brP_t (nd_t (by omega)) ?_ | refine brP_f (nd_f (by omega)) ?_ | ((rw [hpQ]; rotate_left; rfl)) | (refine gd_mk ?_ ?_; focus (simp [hlQ, row66]; done)) | (refine gd_mk ?_ ?_; focus (simp [hlU, row66]; done)) | ((conv in (eqS _ _ _) => whnf); rw [hsQ _ (by rfl)]) | ((conv in (opS _ _ _ _) => whnf); rw [gL]) | ((conv in (opM _ _ _ _ _) => whnf); (conv in (opS _ _ _ _) => whnf); rw [gL]) | refine wpfS_seq2 ?_ | refine wpfS_cons ?_ | refine wpfS_nil ?_ | refine wpfS_cond ?_ | refine wpfS_block ?_ | refine wpfS_dr ?_ | refine lMS_cons ?_ | refine lMS_nil ?_ | refine wpfS_go ?_ | fail) <;> conv => whnf)
      exact ⟨⟨rfl, rfl, rfl, rfl, rfl, trivial⟩, rfl⟩
  clear b2
  have c3 := change_One_ok q0 hq0 ⟨5, a, b, 0, 0⟩ (show 0 < 65536 by omega) (show 0 < 65536 by omega)
  have b3 := fun u h => back_own (c := u) (a := a) (b := b) hq0 hf0 h
  have hw := (oneQ_ok hq0 (c := ⟨5, a, b, 0, 0⟩) (show 0 < 65536 by omega) (show 0 < 65536 by omega)).1
  unfold resQ at c3
  generalize oneQ q0 ⟨5, a, b, 0, 0⟩ = o3 at *
  obtain ⟨w, i3⟩ := o3
  have c3 : EvP PR G f_change_One [q0.v, .agg [.int .i64 5, .int .i64 a, .int .i64 b, .int .u16 0, .int .u16 0]] (.tup [.agg w.row, iv i3]) := c3
  rw [hRQ] at b3
  rw [eQ] at c3
  have hlW := row66 w
  generalize hRW : w.row = RW at *
  have hpW : ∀ z : List PV, z.length = 66 → putAt z 0 RW = RW := fun z hz => put66 hlW hz
  refine SemS.seqS (SemS.of_wpfS false hm ?_)
  repeat' ((first | refine brP_t (by assumption) ?_ | refine brP_f (by assumption) ?_ | refine brP_t (decide_eq_true (by omega)) ?_ | refine brP_f (decide_eq_false (by omega)) ?_ | refine brP_t (nd_t (by omega)) ?_ | refine brP_f (nd_f (by omega)) ?_ | ((rw [hpW]; rotate_left; rfl)) | (refine gd_mk ?_ ?_; focus (simp [hlQ, row66]; done)) | (refine gd_mk ?_ ?_; focus (simp [hlW, row66]; done)) | refine wpfS_seq2 ?_ | refine wpfS_cons ?_ | refine wpfS_nil ?_ | refine wpfS_cond ?_ | refine wpfS_block ?_ | refine wpfS_dr ?_ | refine lMS_cons ?_ | refine lMS_nil ?_ | refine wpfS_go ?_ | fail) <;> conv => whnf)
  (first | refine callK_p c3 ?_ | refine callM_p c3 rfl ?_ | refine callK_pf rfl c3 ?_ | refine callK_pk rfl c3 ?_)
  conv => whnf
  repeat' ((first | refine brP_t (by assumption) ?_ | refine brP_f (by assumption) ?_ | refine brP_t (decide_eq_true (by omega)) ?_ | refine brP_f (decide_eq_false (by omega)) ?_ | refine brP_t (nd_t (by omega)) ?_ | refine brP_f (nd_f (by omega)) ?_ | ((rw [hpW]; rotate_left; rfl)) | (refine gd_mk ?_ ?_; focus (simp [hlQ, row66]; done)) | (refine gd_mk ?_ ?_; focus (simp [hlW, row66]; done)) | refine wpfS_seq2 ?_ | refine wpfS_cons ?_ | refine wpfS_nil ?_ | refine wpfS_cond ?_ | refine wpfS_block ?_ | refine wpfS_dr ?_ | refine lMS_cons ?_ | refine lMS_nil ?_ | refine wpfS_go ?_ | fail) <;> conv => whnf)
  clear c3
  refine SemS.cutS [(8, bv false)] ⟨[], [.row RQ, .row [.int .u16 s, .int .u16 i], .row RX, .row RU, .row RW]⟩ 5 rfl rfl rfl ?_ ?_
  · by_cases he : i3 = 0
    case neg =>
      refine SemS.of_wpfS false hm ?_
      repeat' ((first | refine brP_t (by assumption) ?_ | refine brP_f (by assumption) ?_ | refine brP_t (decide_eq_true (by omega)) ?_ | refine brP_f (decide_eq_false (by omega)) ?_ | refine brP_t (nd_t (by omega)) ?_ | refine brP_f (nd_f (by omega)) ?_ | refine wpfS_seq2 ?_ | refine wpfS_cons ?_ | refine wpfS_nil ?_ | refine wpfS_cond ?_ | refine wpfS_block ?_ | refine wpfS_dr ?_ | refine lMS_cons ?_ | refine lMS_nil ?_ | refine wpfS_go ?_ | fail) <;> conv => whnf)
      exact ⟨⟨rfl, trivial⟩, rfl⟩
    subst he
    have eW : w.v = .agg (List.take 66 (List.drop 0 RW)) := by rw [← hRW, td66 (row66 w)]; rfl
    obtain ⟨ha, d, h1, h2⟩ := b3 w rfl
    have d1 := change_One_ok w hw ⟨5, a, (q0.own a.toNat : Nat), 0, 0⟩ (show 0 < 65536 by omega) (show 0 < 65536 by omega)
    rw [h1, eW] at d1
    have d1 : EvP PR G f_change_One [.agg (List.take 66 (List.drop 0 RW)), .agg [.int .i64 5, .int .i64 a, .int .i64 (q0.own a.toNat : Nat), .int .u16 0, .int .u16 0]] (.tup [.agg d.row, iv 0]) := d1
    rw [h2] at d1
    obtain ⟨r, rfl⟩ := Int.eq_ofNat_of_zero_le ha.1
    have hr : r < 16 := by omega
    rw [Int.toNat_natCast] at d1
    have gO : partP false 1 RQ (0 + 49 + r * 1) = some (true, .c (.p (.int .u8 (q0.own r)))) := by rw [← hRQ]; exact pol_own q0 hr
    have ho := hq0.own r hr
    generalize q0.own r = o at *
    have hwo : IntKind.i64.wrap (o : Int) = o := wrap64 (by omega)
    refine SemS.of_wpfS false hm ?_
    repeat' ((first | refine brP_t (by assumption) ?_ | refine brP_f (by assumption) ?_ | refine brP_t (decide_eq_true (by omega)) ?_ | refine brP_f (decide_eq_false (by omega)) ?_ | refine brP_t (nd_t (by omega)) ?_ | refine brP_f (nd_f (by omega)) ?_ | refine callK_p d1 ?_ | refine callM_p d1 rfl ?_ | refine callK_pf rfl d1 ?_ | refine callK_pk rfl d1 ?_ | ((conv in (opS _ _ _ _) => whnf); rw [Int.toNat_natCast, gO]) | ((conv in (opM _ _ _ _ _) => whnf); (conv in (opS _ _ _ _) => whnf); rw [Int.toNat_natCast, gO]) | ((rw [hwo])) | ((rw [hpQ]; rotate_left; rfl)) | (refine gd_mk ?_ ?_; focus (simp [hlQ, row66]; done)) | (refine gd_mk ?_ ?_; focus (simp [hlW, row66]; done)) | ((conv in (eqS _ _ _) => whnf); rw [hsQ _ (by rfl)]) | refine wpfS_seq2 ?_ | refine wpfS_cons ?_ | refine wpfS_nil ?_ | refine wpfS_cond ?_ | refine wpfS_block ?_ | refine wpfS_dr ?_ | refine lMS_cons ?_ | refine lMS_nil ?_ | refine wpfS_go ?_ | fail) <;> conv => whnf)
    exact ⟨⟨rfl, trivial⟩, rfl⟩
  refine SemS.of_wpfS false hm ?_
  repeat' ((first | refine brP_t (by assumption) ?_ | refine brP_f (by assumption) ?_ | refine brP_t (decide_eq_true (by omega)) ?_ | refine brP_f (decide_eq_false (by omega)) ?_ | refine brP_t (nd_t (by omega)) ?_ | refine brP_f (nd_f (by omega)) ?_ | refine callK_p L13_alive_ok ?_ | refine callM_p L13_alive_ok rfl ?_ | refine callK_pf rfl L13_alive_ok ?_ | refine callK_pk rfl L13_alive_ok ?_ | refine wpfS_seq2 ?_ | refine wpfS_cons ?_ | refine wpfS_nil ?_ | refine wpfS_cond ?_ | refine wpfS_block ?_ | refine wpfS_dr ?_ | refine lMS_cons ?_ | refine lMS_nil ?_ | refine wpfS_go ?_ | fail) <;> conv => whnf)
  rfl
theorem law_changeBack (pvss : List (List PV)) (hw : wts [shPol, .int .i64, .int .i64, shLb] pvss) : EvP PR G f_L13_ChangeBack (argAVs [shPol, .int .i64, .int .i64, shLb] pvss) (.c (.p (.bool true))) := by
  obtain ⟨a, _, rfl, ha, hw⟩ := wts_cons hw
  obtain ⟨b, _, rfl, hb, hw⟩ := wts_cons hw
  obtain ⟨c, _, rfl, hc, hw⟩ := wts_cons hw
  obtain ⟨d, _, rfl, hd, hw⟩ := wts_cons hw
  cases wts_nil hw
  obtain ⟨p, rfl, hp⟩ := pol_of ha
  obtain ⟨m, rfl, -⟩ := hb
  obtain ⟨n, rfl, -⟩ := hc
  obtain ⟨s, i, rfl, hs, hi⟩ := lab_of hd
  exact changeBack_ok p hp m n s i hs hi
end Go.Ab.S
