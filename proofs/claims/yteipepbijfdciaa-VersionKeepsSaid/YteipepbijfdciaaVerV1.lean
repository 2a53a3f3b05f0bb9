/- Part of a proof; no condition. -/
import Derived.Test.YteipepbijfdciaaVerB0
set_option linter.unusedSimpArgs false
set_option linter.unusedVariables false
namespace Go.Ab.S
open Go Go.Ab Go.Proofs
attribute [local irreducible] SemS
set_option maxRecDepth 100000
/-- The kinds of a policy's cells. -/
def polK : List LK := List.replicate 49 (.int .u16) ++ List.replicate 16 (.int .u8) ++ [.int .u16]
def zeroP : List PV := List.replicate 49 (.int .u16 0) ++ List.replicate 16 (.int .u8 0) ++ [.int .u16 0]
def firstP : List PV := [.int .u16 1, .int .u16 0, .int .u16 65535] ++ List.replicate 46 (.int .u16 0) ++ List.replicate 16 (.int .u8 0) ++ [.int .u16 65535]
def Pok (p : List PV) : Prop := typK polK p = true
theorem Pok.len {p : List PV} (h : Pok p) : p.length = 66 := typK_len h
theorem zero_ok : Pok zeroP := by unfold Pok; kernel_rfl
theorem first_ok : Pok firstP := by unfold Pok; kernel_rfl
theorem Bottom_ok : EvP PR G f_label_Bottom [] (.agg [.int .u16 0, .int .u16 65535]) := EvP.of_rEq R0_ok 10 rfl (by kernel_rfl)
theorem First_ok : EvP PR G f_policy_First [] (.agg firstP) := EvP.of_rEq R0_ok 10 rfl (by kernel_rfl)

theorem clone66 {es : List (List PV)} (hl : es.length ≤ 1000) (hz : ∀ r ∈ es, Pok r) : EvR PR G f_slices_Clone_of [slv es] ⟨[], []⟩ (.c (.os (.loc 0) es.length)) ⟨[], [.arr 66 false es]⟩ :=
  clone_ok hm (sz := 66) (bytes := 116) c_slices_Clone_of (by omega) ⟨by omega, by omega⟩ (by simp only [List.all_eq_true, beq_iff_eq]; exact fun r hr => (hz r hr).len)
/-- A store's block. -/
def stB (e : Int) (es : List (List PV)) : Blk := .row [.int .i64 e, .sl es]
theorem Store_ok_ok (e : Int) (es : List (List PV)) : EvR PR G f_version_Store_ok [.c (.ptr (.par 0) 0)] ⟨[stB e es], []⟩ (bv (decide (0 < es.length))) ⟨[stB e es], []⟩ := by
  refine EvR.of_wpf false false hm c_version_Store_ok rfl ?_
  conv => whnf
  repeat' ((first | refine brP_t (by assumption) ?_ | refine brP_f (by assumption) ?_ | refine brP_mk (fun h => ?_) (fun h => ?_) | fail) <;> conv => whnf)
  exact ⟨congrArg bv (decide_eq_decide.2 (by omega)), rfl⟩
theorem Store_ok_t (e : Int) (es : List (List PV)) (h0 : 0 < es.length) : EvR PR G f_version_Store_ok [.c (.ptr (.par 0) 0)] ⟨[stB e es], []⟩ (bv true) ⟨[stB e es], []⟩ := by
  have := Store_ok_ok e es
  rwa [decide_eq_true h0] at this
theorem Store_Epoch_ok (e : Int) (es : List (List PV)) (h0 : 0 < es.length) : EvR PR G f_version_Store_Epoch [.c (.ptr (.par 0) 0)] ⟨[stB e es], []⟩ (iv e) ⟨[stB e es], []⟩ := by
  refine EvR.of_wpf false false hm c_version_Store_Epoch rfl ?_
  conv => whnf
  repeat' ((first | refine brP_t (by assumption) ?_ | refine brP_f (by assumption) ?_ | refine brP_t (decide_eq_true (by omega)) ?_ | refine brP_f (decide_eq_false (by omega)) ?_ | refine callK_r (EvR.fr [_] (Store_ok_t _ _ h0) rfl rfl ⟨rfl, trivial⟩ rfl) ?_ | refine callM_l (LEv.fr [_] (Store_ok_t _ _ h0) rfl rfl ⟨rfl, trivial⟩ rfl rfl) ?_ | refine callK_rf rfl (EvR.fr [_] (Store_ok_t _ _ h0) rfl rfl ⟨rfl, trivial⟩ rfl) ?_ | fail) <;> conv => whnf)
  exact ⟨rfl, rfl⟩
def atV (e : Int) (es : List (List PV)) (k : Int) : AV :=
  if k < 0 ∨ e < k then .tup [.agg zeroP, iv 8] else if (es.length : Int) ≤ e - k then .tup [.agg zeroP, iv 6] else .tup [.agg (es.getD (es.length - 1 - (e - k).toNat) []), iv 0]
theorem atV_len {e : Int} {es : List (List PV)} {k : Int} : (underA 0 (atV e es k) && underH 0 ⟨[stB e es], []⟩) = true := by
  unfold atV
  split
  · rfl
  · split <;> rfl
theorem td {p : List PV} (h : p.length = 66) : List.take 66 (List.drop 0 p) = p := by
  rw [List.drop_zero, List.take_of_length_le (by omega)]
theorem take_put {p : List PV} {z : List PV} (h : p.length = 66) (hz : z.length = 66) : List.take 66 (List.drop 0 (putAt z 0 p)) = p := by
  rw [put_all (by omega), List.drop_zero, List.take_of_length_le (by omega)]
theorem Store_At_ok (e : Int) (es : List (List PV)) (h0 : 0 < es.length) (hz : ∀ r ∈ es, Pok r) (he : 0 ≤ e ∧ e ≤ 1000) (hl : es.length ≤ 1000) (k : Int) : EvR PR G f_version_Store_At [.c (.ptr (.par 0) 0), iv k] ⟨[stB e es], []⟩ (atV e es k) ⟨[stB e es], []⟩ := by
  refine EvR.of_wpfC false false hm c_version_Store_At rfl atV_len ?_
  refine wpf_seq1 ?_
  conv => whnf
  refine wpfS_seq1 ?_
  conv => whnf
  by_cases h1 : k < 0
  · have ev : atV e es k = .tup [.agg zeroP, iv 8] := by unfold atV; rw [if_pos (.inl h1)]
    rw [ev]
    repeat' ((first | refine brP_t (by assumption) ?_ | refine brP_f (by assumption) ?_ | refine brP_t (decide_eq_true (by omega)) ?_ | refine brP_f (decide_eq_false (by omega)) ?_ | refine callK_r (EvR.fr [_] (Store_ok_t _ _ h0) rfl rfl ⟨rfl, trivial⟩ rfl) ?_ | refine callM_l (LEv.fr [_] (Store_ok_t _ _ h0) rfl rfl ⟨rfl, trivial⟩ rfl rfl) ?_ | refine callK_rf rfl (EvR.fr [_] (Store_ok_t _ _ h0) rfl rfl ⟨rfl, trivial⟩ rfl) ?_ | refine brP_mk (fun h => ?_) (fun h => ?_) | fail) <;> conv => whnf)
    exact ⟨rfl, rfl⟩
  by_cases h2 : e < k
  · have ev : atV e es k = .tup [.agg zeroP, iv 8] := by unfold atV; rw [if_pos (.inr h2)]
    rw [ev]
    repeat' ((first | refine brP_t (by assumption) ?_ | refine brP_f (by assumption) ?_ | refine brP_t (decide_eq_true (by omega)) ?_ | refine brP_f (decide_eq_false (by omega)) ?_ | refine callK_r (EvR.fr [_] (Store_ok_t _ _ h0) rfl rfl ⟨rfl, trivial⟩ rfl) ?_ | refine callM_l (LEv.fr [_] (Store_ok_t _ _ h0) rfl rfl ⟨rfl, trivial⟩ rfl rfl) ?_ | refine callK_rf rfl (EvR.fr [_] (Store_ok_t _ _ h0) rfl rfl ⟨rfl, trivial⟩ rfl) ?_ | refine brP_mk (fun h => ?_) (fun h => ?_) | fail) <;> conv => whnf)
    exact ⟨rfl, rfl⟩
  have hw : IntKind.i64.wrap (e - k) = e - k := wrap64 (by omega)
  by_cases h3 : (es.length : Int) ≤ e - k
  · have ev : atV e es k = .tup [.agg zeroP, iv 6] := by unfold atV; rw [if_neg (by omega), if_pos h3]
    rw [ev]
    repeat' ((first | refine brP_t (by assumption) ?_ | refine brP_f (by assumption) ?_ | refine brP_t (decide_eq_true (by omega)) ?_ | refine brP_f (decide_eq_false (by omega)) ?_ | refine callK_r (EvR.fr [_] (Store_ok_t _ _ h0) rfl rfl ⟨rfl, trivial⟩ rfl) ?_ | refine callM_l (LEv.fr [_] (Store_ok_t _ _ h0) rfl rfl ⟨rfl, trivial⟩ rfl rfl) ?_ | refine callK_rf rfl (EvR.fr [_] (Store_ok_t _ _ h0) rfl rfl ⟨rfl, trivial⟩ rfl) ?_ | ((conv in (opS _ _ _ _) => whnf; rw [hw])) | refine brP_mk (fun h => ?_) (fun h => ?_) | fail) <;> conv => whnf)
    exact ⟨rfl, rfl⟩
  · have ev : atV e es k = .tup [.agg (es.getD (es.length - 1 - (e - k).toNat) []), iv 0] := by unfold atV; rw [if_neg (by omega), if_neg h3]
    have hlt : es.length - 1 - (e - k).toNat < es.length := by omega
    have hget : es[es.length - 1 - (e - k).toNat]? = some (es.getD (es.length - 1 - (e - k).toNat) []) := by
      rw [List.getD_eq_getElem?_getD, List.getElem?_eq_getElem hlt]; rfl
    have hok : Pok (es.getD (es.length - 1 - (e - k).toNat) []) := hz _ (List.mem_of_getElem? hget)
    have hw1 : IntKind.i64.wrap ((es.length : Int) - 1) = es.length - 1 := wrap64 (by omega)
    have hw2 : IntKind.i64.wrap ((es.length : Int) - 1 - (e - k)) = ((es.length - 1 - (e - k).toNat : Nat) : Int) := by rw [wrap64 (by omega)]; omega
    rw [ev]
    generalize es.getD (es.length - 1 - (e - k).toNat) [] = p at *
    repeat' ((first | refine brP_t (by assumption) ?_ | refine brP_f (by assumption) ?_ | refine brP_t (decide_eq_true (by omega)) ?_ | refine brP_f (decide_eq_false (by omega)) ?_ | refine callK_r (EvR.fr [_] (Store_ok_t _ _ h0) rfl rfl ⟨rfl, trivial⟩ rfl) ?_ | refine callM_l (LEv.fr [_] (Store_ok_t _ _ h0) rfl rfl ⟨rfl, trivial⟩ rfl rfl) ?_ | refine callK_rf rfl (EvR.fr [_] (Store_ok_t _ _ h0) rfl rfl ⟨rfl, trivial⟩ rfl) ?_ | ((conv in (opS _ _ _ _) => whnf; (first | rw [hw] | rw [hw1] | rw [hw2] | rw [Int.toNat_natCast, hget]))) | refine brP_mk (fun h => ?_) (fun h => ?_) | fail) <;> conv => whnf)
    refine wpfS_go ?_
    conv => whnf
    repeat' ((first | refine brP_t (by assumption) ?_ | refine brP_f (by assumption) ?_ | refine brP_t (decide_eq_true (by omega)) ?_ | refine brP_f (decide_eq_false (by omega)) ?_ | (refine gd_mk ?_ ?_; focus (simp [hok.len, putAt]; done)) | ((conv in (opS _ _ _ _) => whnf); rw [hw, hw1, hw2, Int.toNat_natCast, hget]) | refine brP_mk (fun h => ?_) (fun h => ?_) | fail) <;> conv => whnf)
    exact ⟨by rw [td hok.len, take_put hok.len rfl]; rfl, rfl⟩
theorem atV_now {e : Int} {es : List (List PV)} (h0 : 0 < es.length) (he : 0 ≤ e) : atV e es e = .tup [.agg (es.getLastD []), iv 0] := by
  unfold atV
  rw [if_neg (by omega), if_neg (by omega)]
  congr 3
  rw [Int.sub_self]
  simp only [Int.toNat_zero, Nat.sub_zero]
  rw [List.getD_eq_getElem?_getD, ← List.getLast?_eq_getElem?, List.getLastD_eq_getLast?]
theorem Store_Now_ok (e : Int) (es : List (List PV)) (h0 : 0 < es.length) (hz : ∀ r ∈ es, Pok r) (he : 0 ≤ e ∧ e ≤ 1000) (hl : es.length ≤ 1000) : EvR PR G f_version_Store_Now [.c (.ptr (.par 0) 0)] ⟨[stB e es], []⟩ (.agg (es.getLastD [])) ⟨[stB e es], []⟩ := by
  have hat := Store_At_ok e es h0 hz he hl e
  rw [atV_now h0 he.1] at hat
  have hok : Pok (es.getLastD []) := by
    cases es with
    | nil => simp at h0
    | cons a es => rw [List.getLastD_cons]; exact hz _ (by cases es <;> simp [List.getLastD])
  generalize es.getLastD [] = p at *
  refine EvR.of_wpfC false false hm c_version_Store_Now rfl rfl ?_
  conv => whnf
  repeat' ((first | refine brP_t (by assumption) ?_ | refine brP_f (by assumption) ?_ | refine brP_t (decide_eq_true (by omega)) ?_ | refine brP_f (decide_eq_false (by omega)) ?_ | refine callK_r (EvR.fr [_] (Store_Epoch_ok _ _ h0) rfl rfl ⟨rfl, trivial⟩ rfl) ?_ | refine callM_l (LEv.fr [_] (Store_Epoch_ok _ _ h0) rfl rfl ⟨rfl, trivial⟩ rfl rfl) ?_ | refine callK_rf rfl (EvR.fr [_] (Store_Epoch_ok _ _ h0) rfl rfl ⟨rfl, trivial⟩ rfl) ?_ | refine callK_r (EvR.fr [_] hat rfl rfl ⟨rfl, trivial⟩ rfl) ?_ | refine callM_l (LEv.fr [_] hat rfl rfl ⟨rfl, trivial⟩ rfl rfl) ?_ | refine callK_rf rfl (EvR.fr [_] hat rfl rfl ⟨rfl, trivial⟩ rfl) ?_ | (refine gd_mk ?_ ?_; focus (simp [hok.len, putAt]; done)) | fail) <;> conv => whnf)
  exact ⟨by rw [take_put hok.len rfl, take_put hok.len rfl]; rfl, rfl⟩
theorem Store_Kept_ok (e : Int) (es : List (List PV)) (h0 : 0 < es.length) (hz : ∀ r ∈ es, Pok r) (hl : es.length ≤ 1000) : EvR PR G f_version_Store_Kept [.c (.ptr (.par 0) 0)] ⟨[stB e es], []⟩ (.c (.os (.loc 0) es.length)) ⟨[stB e es], [.arr 66 false es]⟩ := by
  refine EvR.of_wpf false false hm c_version_Store_Kept rfl ?_
  conv => whnf
  repeat' ((first | refine brP_t (by assumption) ?_ | refine brP_f (by assumption) ?_ | refine brP_t (decide_eq_true (by omega)) ?_ | refine brP_f (decide_eq_false (by omega)) ?_ | refine callK_r (EvR.fr [_] (Store_ok_t _ _ h0) rfl rfl ⟨rfl, trivial⟩ rfl) ?_ | refine callM_l (LEv.fr [_] (Store_ok_t _ _ h0) rfl rfl ⟨rfl, trivial⟩ rfl rfl) ?_ | refine callK_rf rfl (EvR.fr [_] (Store_ok_t _ _ h0) rfl rfl ⟨rfl, trivial⟩ rfl) ?_ | refine callK_r (EvR.fr [] (clone66 hl hz) rfl rfl trivial rfl) ?_ | refine callM_l (LEv.fr [] (clone66 hl hz) rfl rfl trivial rfl rfl) ?_ | refine callK_rf rfl (EvR.fr [] (clone66 hl hz) rfl rfl trivial rfl) ?_ | fail) <;> conv => whnf)
  exact ⟨rfl, rfl⟩
/-- What a store keeps behind a commit. -/
def keptL (es : List (List PV)) (p : List PV) : List (List PV) := es.drop (es.length + 1 - 8) ++ [p]
theorem Store_Commit_ok (e : Int) (es : List (List PV)) (h0 : 0 < es.length) (hz : ∀ r ∈ es, Pok r) (he : 0 ≤ e ∧ e < 255) (hl : es.length ≤ 1000) (p : List PV) (hp : Pok p) : EvR PR G f_version_Store_Commit [.c (.ptr (.par 0) 0), .agg p] ⟨[stB e es], []⟩ (iv 0) ⟨[stB (e + 1) (keptL es p)], []⟩ := by
  refine EvR.of_cut (EvG.weakR (Q := fun r h => r = iv 0 ∧ h = ⟨[.mrow [.p (.int .i64 (e + 1)), .os (.loc 1) (keptL es p).length]], [.row p, .arr 66 false (keptL es p)]⟩) ?_ ?_) rfl
  · refine EvG.of_wpf false false hm c_version_Store_Commit rfl ?_
    refine wpf_seq1 ?_
    conv => whnf
    refine wpfS_seq1 ?_
    conv => whnf
    repeat' ((first | refine brP_t (by assumption) ?_ | refine brP_f (by assumption) ?_ | refine brP_t (decide_eq_true (by omega)) ?_ | refine brP_f (decide_eq_false (by omega)) ?_ | refine callK_r (EvR.fr [_] (Store_ok_t _ _ h0) rfl rfl ⟨rfl, trivial⟩ rfl) ?_ | refine callM_l (LEv.fr [_] (Store_ok_t _ _ h0) rfl rfl ⟨rfl, trivial⟩ rfl rfl) ?_ | refine callK_rf rfl (EvR.fr [_] (Store_ok_t _ _ h0) rfl rfl ⟨rfl, trivial⟩ rfl) ?_ | (refine gd_mk ?_ ?_; focus (simp [hp.len, putAt]; done)) | refine brP_mk (fun h => ?_) (fun h => ?_) | fail) <;> conv => whnf)
    refine wpfS_seq1 ?_
    conv => whnf
    have hmax : (if IntKind.i64.wrap (IntKind.i64.wrap ((es.length : Int) + 1) - 8) > 0 then IntKind.i64.wrap (IntKind.i64.wrap ((es.length : Int) + 1) - 8) else 0) = ((es.length + 1 - 8 : Nat) : Int) := by
      rw [wrap64 (n := (es.length : Int) + 1) (by omega), wrap64 (by omega)]
      split <;> omega
    rw [hmax]
    refine wpfS_seq1 ?_
    conv => whnf
    obtain ⟨a, l, hal⟩ : ∃ a l, List.drop (((es.length + 1 - 8 : Nat) : Int)).toNat (List.take ((es.length : Int)).toNat es) = a :: l := by
      cases h : List.drop (((es.length + 1 - 8 : Nat) : Int)).toNat (List.take ((es.length : Int)).toNat es) with
      | nil =>
        have := congrArg List.length h
        simp at this
        omega
      | cons a l => exact ⟨a, l, rfl⟩
    have hz2 : ∀ r ∈ es, r.length = 66 := fun r hr => (hz r hr).len
    have hal2 : ∀ r ∈ a :: l, r.length = 66 := by
      rw [← hal]
      exact fun r hr => hz2 r (List.mem_of_mem_take (List.mem_of_mem_drop hr))
    have hll : l.length ≤ 1000 := by
      have := congrArg List.length hal
      simp at this
      omega
    have hall : ((a :: l).all fun r => r.length == 66) = true := by
      rw [List.all_eq_true]; exact fun r hr => by rw [hal2 r hr]; rfl
    have hone : ([List.take 66 (List.drop 0 p)].all fun r => r.length == 66) = true := by simp [hp.len]
    repeat' ((first | refine brP_t (by assumption) ?_ | refine brP_f (by assumption) ?_ | refine brP_t (decide_eq_true (by omega)) ?_ | refine brP_f (decide_eq_false (by omega)) ?_ | (refine gd_mk ?_ ?_; focus (simp [hp.len, putAt]; done)) | (refine gd_mk ?_ ?_; focus (simp [hz2]; omega; done)) | ((conv in (opM _ _ _ _ _) => whnf); (conv in (opS _ _ _ _) => whnf); rw [hal]) | (refine gd_mk ?_ ?_; focus (rw [hall, hone]; simp; omega; done)) | fail) <;> conv => whnf)
    have hk : keptL es p = a :: l ++ [p] := by
      unfold keptL
      rw [← hal]
      simp only [Int.toNat_natCast, List.take_length]
    have hkl : (keptL es p).length = (a :: l).length + [p].length := by rw [hk, List.length_append]
    rw [td hp.len]
    refine wpfS_go ?_
    conv => whnf
    repeat' ((first | refine brP_t (by assumption) ?_ | refine brP_f (by assumption) ?_ | refine brP_t (decide_eq_true (by omega)) ?_ | refine brP_f (decide_eq_false (by omega)) ?_ | (refine gd_mk ?_ ?_; focus (simp [hp.len, putAt]; done)) | fail) <;> conv => whnf)
    rw [wrap64 (by omega)]
    rw [hkl, hk]
    exact ⟨rfl, rfl⟩
  · rintro r h ⟨rfl, rfl⟩
    refine ⟨_, Weak.row (id := .par 0) (H1 := ⟨[.mrow [.p (.int .i64 (e + 1)), .os (.loc 1) (keptL es p).length]], [.row p, .arr 66 true (keptL es p)]⟩) (cs' := [.p (.int .i64 (e + 1)), .p (.sl (keptL es p))]) (vs := [.int .i64 (e + 1), .sl (keptL es p)]) rfl ?_ rfl rfl, rfl, rfl⟩
    show some (true && (decide ((keptL es p).length = (keptL es p).length) && true), _, _) = _
    rw [decide_eq_true rfl]; rfl
theorem Store_Full_ok (es : List (List PV)) (h0 : 0 < es.length) (p : List PV) : EvR PR G f_version_Store_Commit [.c (.ptr (.par 0) 0), .agg p] ⟨[stB 255 es], []⟩ (iv 15) ⟨[stB 255 es], []⟩ := by
  refine EvR.of_wpfC false false hm c_version_Store_Commit rfl rfl ?_
  conv => whnf
  repeat' ((first | refine brP_t (by assumption) ?_ | refine brP_f (by assumption) ?_ | refine brP_t (decide_eq_true (by omega)) ?_ | refine brP_f (decide_eq_false (by omega)) ?_ | refine callK_r (EvR.fr [_] (Store_ok_t _ _ h0) rfl rfl ⟨rfl, trivial⟩ rfl) ?_ | refine callM_l (LEv.fr [_] (Store_ok_t _ _ h0) rfl rfl ⟨rfl, trivial⟩ rfl rfl) ?_ | refine callK_rf rfl (EvR.fr [_] (Store_ok_t _ _ h0) rfl rfl ⟨rfl, trivial⟩ rfl) ?_ | fail) <;> conv => whnf)
  exact ⟨rfl, rfl⟩
theorem version_New_ok (p : List PV) (hp : Pok p) : EvR PR G f_version_New [.agg p] ⟨[], []⟩ (.c (.ptr (.loc 1) 0)) ⟨[], [.row p, stB 0 [p]]⟩ := by
  refine EvR.weakR (H' := ⟨[], [.row p, .mrow [.p (.int .i64 0), .ti [p]]]⟩) ?_ (Weak.row (id := .loc 1) (H1 := ⟨[], [.row p, .mrow [.p (.int .i64 0), .ti [p]]]⟩) (cs' := [.p (.int .i64 0), .p (.sl [p])]) (vs := [.int .i64 0, .sl [p]]) rfl rfl rfl rfl)
  refine EvR.of_wpf false false hm c_version_New rfl ?_
  conv => whnf
  repeat' ((first | refine brP_t (by assumption) ?_ | refine brP_f (by assumption) ?_ | refine brP_t (decide_eq_true (by omega)) ?_ | refine brP_f (decide_eq_false (by omega)) ?_ | (refine gd_mk ?_ ?_; focus (simp [hp.len, putAt]; done)) | fail) <;> conv => whnf)
  rw [td hp.len]
  exact ⟨rfl, rfl⟩
end Go.Ab.S
