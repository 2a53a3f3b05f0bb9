/- Lanes stamped; StampOnes. No condition. -/
import Derived.Test.YtidmpmdhgiopgaaDoorLS1
import Derived.Test.YtidmpmdhgiopgaaDoorLU2
set_option linter.unusedSimpArgs false
set_option linter.unusedVariables false
namespace Go.Ab.S
open Go Go.Ab Go.Proofs
attribute [local irreducible] SemS
set_option maxRecDepth 100000
def zeroR : List PV := [.int .u16 0, .int .u16 0, .int .i64 0, .int .i64 0, .int .u16 0, .int .u16 0, .int .i64 0, .bool false, .int .u16 0, .int .u16 0, .int .i64 0, .str [], .bool false, .int .i64 0, .sl [], .sl [], .sl []]
/-- Objects done, and room for the others. -/
def roomL (F : Ob → Ob) (l : List Ob) (i : Nat) : List (List PV) := obs ((l.take i).map F) ++ List.replicate (l.length - i) zeroR
theorem room_len {F : Ob → Ob} {l : List Ob} {i : Nat} (h : i ≤ l.length) : (roomL F l i).length = l.length := by
  rw [roomL, List.length_append, obs_len, List.length_map, List.length_take, List.length_replicate]; omega
theorem room_get {F : Ob → Ob} {l : List Ob} {i : Nat} (h : i < l.length) : (roomL F l i)[i]? = some zeroR := by
  have hl : (obs ((l.take i).map F)).length = i := by rw [obs_len, List.length_map, List.length_take]; omega
  rw [roomL, List.getElem?_append_right (by omega), hl, Nat.sub_self, List.getElem?_replicate, if_pos (by omega)]
theorem room_set {F : Ob → Ob} {l : List Ob} {i : Nat} (h : i < l.length) : (roomL F l i).set i (F l[i]).row = roomL F l (i + 1) := by
  have hl : (obs ((l.take i).map F)).length = i := by rw [obs_len, List.length_map, List.length_take]; omega
  rw [roomL, List.set_append_right _ _ (by omega), hl, Nat.sub_self, show l.length - i = (l.length - (i + 1)) + 1 by omega, List.replicate_succ, List.set_cons_zero]
  rw [roomL, List.take_succ_eq_append_getElem h, List.map_append, obs_app, List.append_assoc]
  rfl
theorem room_all {F : Ob → Ob} {l : List Ob} : roomL F l l.length = obs (l.map F) := by
  rw [roomL, List.take_length, Nat.sub_self]; exact List.append_nil _
set_option maxHeartbeats 4000000 in
theorem stamp_each_ok (g : FuncId) (F : Ob → Ob) (M : Nat → Nat) (e : Int) (l : List Ob) (hl : l.length ≤ 1000) (hg : ∀ o ∈ l, EvP PR G g [mv M, iv e, .agg o.row] (.agg (F o).row)) : EvR PR G f_stamp_each [.c (.fn g []), mv M, iv e, slv (obs l)] ⟨[], []⟩ (slv (obs (l.map F))) ⟨[], []⟩ := by
  have hlen := obs_len (l := l)
  refine EvR.of_wpfC false true hm c_stamp_each rfl rfl ?_
  generalize ha : slv (obs l) = a
  refine wpf_seq1 ?_
  conv => whnf
  refine wpfS_seq1 ?_
  refine wpf_cut 2 ?_
  subst ha
  conv => whnf
  rw [hlen]
  refine wpfS_mkn (n := l.length) rfl rfl (by omega) (by omega) ?_
  repeat' ((first | refine brP_t (by assumption) ?_ | refine brP_f (by assumption) ?_ | refine brP_t (decide_eq_true (by omega)) ?_ | refine brP_f (decide_eq_false (by omega)) ?_ | refine brP_t (nd_t (by omega)) ?_ | refine brP_f (nd_f (by omega)) ?_ | ((rw [hlen])) | refine wpfS_seq1 ?_ | refine wpfS_go ?_ | fail) <;> conv => whnf)
  refine SemS.loopC false hm (σ := Nat) (fun i => [(17, iv i), (16, iv l.length), (15, slv (obs l)), (9, .c (.os (.loc 1) l.length)), (5, .c (.ptr (.loc 0) 0)), (2, iv e), (0, .c (.fn g []))])
    (fun i => ⟨[], [.row (mrow M), .arr 17 false (roomL F l i)]⟩) (fun i => l.length - i) (fun i => i ≤ l.length) 0 (Nat.zero_le _) ⟨rfl, rfl, rfl, rfl, rfl, rfl, rfl, trivial⟩ rfl ?_
  intro i hi
  have hrl := room_len (F := F) hi
  refine wpf_seq1 ?_
  conv => whnf
  try (refine wpfS_seq1 ?_; conv => whnf)
  refine brP_mk (fun h => ?_) (fun h => ?_)
  · have hi' : i < l.length := by have := of_decide_eq_true h; omega
    clear h
    have hget := obs_get hi'
    have hw2 : IntKind.i64.wrap ((i : Int) + 1) = ((i + 1 : Nat) : Int) := by rw [wrap64 (by omega)]; rfl
    have c1 := hg l[i] (List.getElem_mem hi')
    have hrg := room_get (F := F) hi'
    have hrs := room_set (F := F) hi'
    generalize F l[i] = x at *
    generalize l[i] = o at *
    generalize hR : roomL F l i = R at *
    obtain ⟨xids, xidi, xk, xn, xls, xli, xst, xsw, xws, xwi, xrole, xbuf, xdead, xbx⟩ := x
    repeat' ((first | refine brP_t (by assumption) ?_ | refine brP_f (by assumption) ?_ | refine brP_t (decide_eq_true (by omega)) ?_ | refine brP_f (decide_eq_false (by omega)) ?_ | refine brP_t (nd_t (by omega)) ?_ | refine brP_f (nd_f (by omega)) ?_ | ((conv in (opS _ _ _ _) => whnf); rw [Int.toNat_natCast, hget]) | ((conv in (opM _ _ _ _ _) => whnf); (conv in (opS _ _ _ _) => whnf); rw [Int.toNat_natCast, hget]) | refine callK_p c1 ?_ | refine callM_p c1 rfl ?_ | refine callK_pf rfl c1 ?_ | refine callK_pk rfl c1 ?_ | ((conv in (opS _ _ _ _) => whnf); rw [Int.toNat_natCast, hrg]) | ((conv in (opM _ _ _ _ _) => whnf); (conv in (opS _ _ _ _) => whnf); rw [Int.toNat_natCast, hrg]) | (refine gd_mk ?_ ?_; focus (exact decide_eq_true ⟨by omega, by omega, rfl, hrl.symm⟩; done)) | (refine gd_mk ?_ ?_; focus (exact decide_eq_true ⟨rfl, (by show (17 : Nat) ≤ 17; omega), hrl.symm⟩; done)) | ((rw [hw2])) | refine wpfS_seq1 ?_ | refine wpfS_go ?_ | fail) <;> conv => whnf)
    refine ⟨i + 1, 2, hi', (show l.length - (i + 1) < l.length - i by omega), ⟨rfl, rfl, rfl, rfl, rfl, rfl, rfl, trivial⟩, Nat.le_refl _, ?_, rfl, rfl⟩
    show _ = (⟨[], [_, .arr 17 false (roomL F l (i + 1))]⟩ : Hp)
    rw [← hrs]
    rfl
  · have hi' : i = l.length := by have := of_decide_eq_false h; omega
    subst hi'
    clear h
    rw [room_all] at hrl ⊢
    repeat' ((first | refine brP_t (by assumption) ?_ | refine brP_f (by assumption) ?_ | refine brP_t (decide_eq_true (by omega)) ?_ | refine brP_f (decide_eq_false (by omega)) ?_ | refine brP_t (nd_t (by omega)) ?_ | refine brP_f (nd_f (by omega)) ?_ | (refine gd_mk ?_ ?_; focus (rw [hrl]; simp; done)) | (refine gd_mk ?_ ?_; focus (simp [hrl]; done)) | refine wpfS_seq1 ?_ | refine wpfS_go ?_ | fail) <;> conv => whnf)
    exact ⟨rfl, rfl⟩
theorem stamp_Lane_ok (M : Nat → Nat) (hM : mapOk M) (e : Int) (l : List Ob) (hl : l.length ≤ 1000) (ho : ∀ o ∈ l, o.ls < 65536 ∧ o.li < 65536 ∧ (o.k = 2 → o.bx.len ≤ 19)) : EvP PR G f_stamp_Lane [mv M, iv e, slv (obs l)] (slv (obs (l.map (Ob.stampO M e)))) := by
  have c1 := stamp_each_ok f_stamp_One (Ob.stampO M e) M e l hl fun o h => stamp_One_ok M hM e o (ho o h).1 (ho o h).2.1 (ho o h).2.2
  refine EvP.of_wpf false hm c_stamp_Lane rfl ?_
  refine wpf_seq1 ?_
  conv => whnf
  repeat' ((first | refine brP_t (by assumption) ?_ | refine brP_f (by assumption) ?_ | refine brP_t (decide_eq_true (by omega)) ?_ | refine brP_f (decide_eq_false (by omega)) ?_ | refine brP_t (nd_t (by omega)) ?_ | refine brP_f (nd_f (by omega)) ?_ | refine wpfS_seq1 ?_ | refine wpfS_go ?_ | fail) <;> conv => whnf)
  (first | refine callK_r (EvR.fr [] c1 rfl rfl trivial rfl) ?_ | refine callM_l (LEv.fr [] c1 rfl rfl trivial rfl rfl) ?_ | refine callK_rt (EvR.fr [] c1 rfl rfl trivial rfl) ?_ | refine callK_rf rfl (EvR.fr [] c1 rfl rfl trivial rfl) ?_ | refine callK_rft rfl (EvR.fr [] c1 rfl rfl trivial rfl) ?_)
  conv => whnf
  repeat' ((first | refine brP_t (by assumption) ?_ | refine brP_f (by assumption) ?_ | refine brP_t (decide_eq_true (by omega)) ?_ | refine brP_f (decide_eq_false (by omega)) ?_ | refine brP_t (nd_t (by omega)) ?_ | refine brP_f (nd_f (by omega)) ?_ | refine wpfS_seq1 ?_ | refine wpfS_go ?_ | fail) <;> conv => whnf)
  rfl
theorem stamp_All_ok (M : Nat → Nat) (hM : mapOk M) (e : Int) (l : List Ob) (hl : l.length ≤ 1000) (ho : ∀ o ∈ l, o.bx.q.length ≤ 1000 ∧ ∀ m ∈ o.bx.q, m.Ok) : EvP PR G f_stamp_All [mv M, iv e, slv (obs l)] (slv (obs (l.map (Ob.commit M e)))) := by
  have c1 := stamp_each_ok f_stamp_Commit (Ob.commit M e) M e l hl fun o h => stamp_Commit_ok M hM e o (ho o h).1 (ho o h).2
  refine EvP.of_wpf false hm c_stamp_All rfl ?_
  refine wpf_seq1 ?_
  conv => whnf
  repeat' ((first | refine brP_t (by assumption) ?_ | refine brP_f (by assumption) ?_ | refine brP_t (decide_eq_true (by omega)) ?_ | refine brP_f (decide_eq_false (by omega)) ?_ | refine brP_t (nd_t (by omega)) ?_ | refine brP_f (nd_f (by omega)) ?_ | refine wpfS_seq1 ?_ | refine wpfS_go ?_ | fail) <;> conv => whnf)
  (first | refine callK_r (EvR.fr [] c1 rfl rfl trivial rfl) ?_ | refine callM_l (LEv.fr [] c1 rfl rfl trivial rfl rfl) ?_ | refine callK_rt (EvR.fr [] c1 rfl rfl trivial rfl) ?_ | refine callK_rf rfl (EvR.fr [] c1 rfl rfl trivial rfl) ?_ | refine callK_rft rfl (EvR.fr [] c1 rfl rfl trivial rfl) ?_)
  conv => whnf
  repeat' ((first | refine brP_t (by assumption) ?_ | refine brP_f (by assumption) ?_ | refine brP_t (decide_eq_true (by omega)) ?_ | refine brP_f (decide_eq_false (by omega)) ?_ | refine brP_t (nd_t (by omega)) ?_ | refine brP_f (nd_f (by omega)) ?_ | refine wpfS_seq1 ?_ | refine wpfS_go ?_ | fail) <;> conv => whnf)
  rfl
/-! ### The calls at the end of each statement of layer 31 -/
def so1 : Ob := ⟨4, 0, 2, 0, 4, 0, 0, false, 0, 0, 0, [], false, ⟨1, [⟨0, 0, 4, 0, 0, 0, []⟩], [], []⟩⟩
def sx1 : Ob := ⟨4, 0, 2, 0, 32, 0, 1, true, 4, 0, 0, [], false, ⟨1, [], [⟨0, 0, 4, 0, 0, 0, []⟩], []⟩⟩
def sc0 : Ob := ⟨4, 0, 2, 0, 0, 0, 0, true, 4, 0, 0, [], false, ⟨1, [⟨0, 0, 4, 0, 0, 0, []⟩], [], []⟩⟩
def sc1 : Ob := ⟨4, 0, 2, 0, 0, 0, 0, false, 0, 0, 0, [], false, ⟨1, [⟨0, 1, 32, 0, 0, 0, []⟩], [], []⟩⟩
def sa1 : Ob := ⟨4, 0, 2, 0, 4, 0, 0, false, 0, 0, 0, [], false, ⟨1, [⟨0, 1, 32, 0, 0, 0, []⟩], [], []⟩⟩
theorem am_ok : ∀ m ∈ ([⟨0, 0, 4, 0, 0, 0, []⟩] : List Msg), m.Ok := fun m hm => by
  rw [List.mem_singleton.1 hm]
  exact ⟨⟨by decide, by decide⟩, ⟨by decide, by decide⟩, by decide, by decide, ⟨by decide, by decide⟩, by decide⟩
set_option maxHeartbeats 4000000 in
theorem L31_alive_ok : EvP PR G f_L31_alive [] (bv true) := by
  have hM : mapOk (madeN [(2, 5)]) := fun i hi => by have := made_lt [(2, 5)] i hi; omega
  have c0 := R04_Made_ok [(2, 5)] (by decide)
  have c1 := stamp_One_ok (madeN [(2, 5)]) hM 1 so1 (by decide) (by decide) (fun _ => by decide)
  rw [show so1.stampO (madeN [(2, 5)]) 1 = sx1 by decide +kernel] at c1
  have c2 := stamp_Lane_ok (madeN [(2, 5)]) hM 1 [so1, sx1] (by decide) (by decide)
  rw [show [so1, sx1].map (Ob.stampO (madeN [(2, 5)]) 1) = [sx1, sx1] by decide +kernel] at c2
  have c3 := stamp_Commit_ok (madeN [(2, 5)]) hM 1 sc0 (by decide) am_ok
  rw [show sc0.commit (madeN [(2, 5)]) 1 = sc1 by decide +kernel] at c3
  have c4 := stamp_All_ok (madeN [(2, 5)]) hM 1 [so1] (by decide) (fun o ho => by rw [List.mem_singleton.1 ho]; exact ⟨by decide, am_ok⟩)
  rw [show [so1].map (Ob.commit (madeN [(2, 5)]) 1) = [sa1] by decide +kernel] at c4
  have c5 := R25_Same_ok sx1 sx1 ⟨by decide, by decide⟩
  rw [decide_eq_true rfl] at c5
  generalize madeN [(2, 5)] = M at *
  refine EvP.of_wpf false hm c_L31_alive rfl ?_
  refine wpf_seq1 ?_
  conv => whnf
  repeat' ((first | refine brP_t (by assumption) ?_ | refine brP_f (by assumption) ?_ | refine brP_t (decide_eq_true (by omega)) ?_ | refine brP_f (decide_eq_false (by omega)) ?_ | refine brP_t (nd_t (by omega)) ?_ | refine brP_f (nd_f (by omega)) ?_ | refine brP_t (decide_eq_true rfl) ?_ | refine wpfS_seq1 ?_ | refine wpfS_go ?_ | fail) <;> conv => whnf)
  (first | refine callK_p c0 ?_ | refine callM_p c0 rfl ?_ | refine callK_pf rfl c0 ?_ | refine callK_pk rfl c0 ?_)
  conv => whnf
  repeat' ((first | refine brP_t (by assumption) ?_ | refine brP_f (by assumption) ?_ | refine brP_t (decide_eq_true (by omega)) ?_ | refine brP_f (decide_eq_false (by omega)) ?_ | refine brP_t (nd_t (by omega)) ?_ | refine brP_f (nd_f (by omega)) ?_ | refine brP_t (decide_eq_true rfl) ?_ | refine wpfS_seq1 ?_ | refine wpfS_go ?_ | fail) <;> conv => whnf)
  (first | refine callK_p c1 ?_ | refine callM_p c1 rfl ?_ | refine callK_pf rfl c1 ?_ | refine callK_pk rfl c1 ?_)
  conv => whnf
  repeat' ((first | refine brP_t (by assumption) ?_ | refine brP_f (by assumption) ?_ | refine brP_t (decide_eq_true (by omega)) ?_ | refine brP_f (decide_eq_false (by omega)) ?_ | refine brP_t (nd_t (by omega)) ?_ | refine brP_f (nd_f (by omega)) ?_ | refine brP_t (decide_eq_true rfl) ?_ | refine wpfS_seq1 ?_ | refine wpfS_go ?_ | fail) <;> conv => whnf)
  (first | refine callK_p c2 ?_ | refine callM_p c2 rfl ?_ | refine callK_pf rfl c2 ?_ | refine callK_pk rfl c2 ?_)
  conv => whnf
  repeat' ((first | refine brP_t (by assumption) ?_ | refine brP_f (by assumption) ?_ | refine brP_t (decide_eq_true (by omega)) ?_ | refine brP_f (decide_eq_false (by omega)) ?_ | refine brP_t (nd_t (by omega)) ?_ | refine brP_f (nd_f (by omega)) ?_ | refine brP_t (decide_eq_true rfl) ?_ | refine wpfS_seq1 ?_ | refine wpfS_go ?_ | fail) <;> conv => whnf)
  (first | refine callK_p c3 ?_ | refine callM_p c3 rfl ?_ | refine callK_pf rfl c3 ?_ | refine callK_pk rfl c3 ?_)
  conv => whnf
  repeat' ((first | refine brP_t (by assumption) ?_ | refine brP_f (by assumption) ?_ | refine brP_t (decide_eq_true (by omega)) ?_ | refine brP_f (decide_eq_false (by omega)) ?_ | refine brP_t (nd_t (by omega)) ?_ | refine brP_f (nd_f (by omega)) ?_ | refine brP_t (decide_eq_true rfl) ?_ | refine wpfS_seq1 ?_ | refine wpfS_go ?_ | fail) <;> conv => whnf)
  (first | refine callK_p c4 ?_ | refine callM_p c4 rfl ?_ | refine callK_pf rfl c4 ?_ | refine callK_pk rfl c4 ?_)
  conv => whnf
  repeat' ((first | refine brP_t (by assumption) ?_ | refine brP_f (by assumption) ?_ | refine brP_t (decide_eq_true (by omega)) ?_ | refine brP_f (decide_eq_false (by omega)) ?_ | refine brP_t (nd_t (by omega)) ?_ | refine brP_f (nd_f (by omega)) ?_ | refine brP_t (decide_eq_true rfl) ?_ | refine wpfS_seq1 ?_ | refine wpfS_go ?_ | fail) <;> conv => whnf)
  (first | refine callK_p c5 ?_ | refine callM_p c5 rfl ?_ | refine callK_pf rfl c5 ?_ | refine callK_pk rfl c5 ?_)
  conv => whnf
  repeat' ((first | refine brP_t (by assumption) ?_ | refine brP_f (by assumption) ?_ | refine brP_t (decide_eq_true (by omega)) ?_ | refine brP_f (decide_eq_false (by omega)) ?_ | refine brP_t (nd_t (by omega)) ?_ | refine brP_f (nd_f (by omega)) ?_ | refine brP_t (decide_eq_true rfl) ?_ | refine wpfS_seq1 ?_ | refine wpfS_go ?_ | fail) <;> conv => whnf)
  (first | refine callK_p c5 ?_ | refine callM_p c5 rfl ?_ | refine callK_pf rfl c5 ?_ | refine callK_pk rfl c5 ?_)
  conv => whnf
  repeat' ((first | refine brP_t (by assumption) ?_ | refine brP_f (by assumption) ?_ | refine brP_t (decide_eq_true (by omega)) ?_ | refine brP_f (decide_eq_false (by omega)) ?_ | refine brP_t (nd_t (by omega)) ?_ | refine brP_f (nd_f (by omega)) ?_ | refine brP_t (decide_eq_true rfl) ?_ | refine wpfS_seq1 ?_ | refine wpfS_go ?_ | fail) <;> conv => whnf)
  rfl
/-! ### StampOnes -/
end Go.Ab.S
