/- ReleaseKeeps and ReleaseLets. No condition. -/
import Derived.Test.YtidmpmdhgiopgaaDoorLE3
import Derived.Test.YtidmpmdhgiopgaaDoorLP16
import Derived.Test.YtidmpmdhgiopgaaDoorLPA
import Derived.Test.YtidmpmdhgiopgaaDoorLU2
set_option linter.unusedSimpArgs false
set_option linter.unusedVariables false
namespace Go.Ab.S
open Go Go.Ab Go.Proofs
attribute [local irreducible] SemS
set_option maxRecDepth 100000
/-! ### The calls at the end of each statement of layer 32 -/
def rq : Pol := setOwn firstP 2 16
def rm : Msg := ⟨0, 0, 0, 65535, 0, 4, []⟩
def ro : Ob := ⟨0, 0, 2, 0, 0, 0, 0, false, 0, 0, 0, [], false, ⟨1, [], [rm], []⟩⟩
def ry : Ob := ⟨0, 0, 2, 0, 0, 0, 0, false, 0, 0, 0, [], false, ⟨1, [rm], [], []⟩⟩
def rz : Ob := ⟨0, 0, 2, 0, 0, 0, 0, false, 0, 0, 0, [], false, ⟨1, [], [], [rm]⟩⟩
theorem rm_ok : rm.Ok := ⟨⟨by decide, by decide⟩, ⟨by decide, by decide⟩, by decide, by decide, ⟨by decide, by decide⟩, by decide⟩
theorem ro_ok : ∀ m ∈ ro.bx.a, m.Ok := fun m hm => by rw [List.mem_singleton.1 hm]; exact rm_ok
theorem first_okE : firstP.Ok := ⟨by decide, fun r _ => by show (0 : Nat) < 65536; decide, fun r _ => by show (if r = 0 then 65535 else 0) < 65536; split <;> decide, fun r _ => by show (0 : Nat) < 65536; decide, fun r _ => by show (0 : Nat) ≤ 255; decide, by decide⟩
theorem rq_ok : rq.Ok := ⟨first_okE.live, first_okE.ls, first_okE.li, first_okE.acts, fun r hr => by
  show (if r = 2 then 16 else 0) ≤ 255
  split <;> omega, first_okE.active⟩
theorem id_ok : ∀ i, i < 16 → (id : Nat → Nat) i ≤ 255 := fun i hi => by show i ≤ 255; omega
theorem keep1 : keepB firstP id 1 rm = true := by decide +kernel
theorem keep2 : keepB rq id 1 rm = false := by decide +kernel
set_option maxHeartbeats 4000000 in
theorem L32_alive_ok : EvP PR G f_L32_alive [] (bv true) := by
  have c1 := policy_First_ok
  have c2 := label_Bottom_ok
  have c3 := R04_Same_ok
  have c4 := release_Let_ok firstP first_okE id id_ok 1 ro (by decide) ro_ok
  have hy : ro.let_ (keepB firstP id 1) = ry := by
    show ({ ro with bx := ⟨1, isort ([] ++ List.filter (keepB firstP id 1) [rm]), [], isort ([] ++ List.filter (fun m => !keepB firstP id 1 m) [rm])⟩ } : Ob) = ry
    rw [List.filter_cons, List.filter_cons, keep1]; rfl
  have hev : evsL firstP id 1 ro ro.bx.a = [evR ro 1 (asIt id 1 rm)] := by
    show List.map _ (List.filter (keepB firstP id 1) [rm]) = _
    rw [List.filter_cons, keep1]; rfl
  rw [hy, hev] at c4
  have c5 := release_Let_ok rq rq_ok id id_ok 1 ro (by decide) ro_ok
  have hz : ro.let_ (keepB rq id 1) = rz := by
    show ({ ro with bx := ⟨1, isort ([] ++ List.filter (keepB rq id 1) [rm]), [], isort ([] ++ List.filter (fun m => !keepB rq id 1 m) [rm])⟩ } : Ob) = rz
    rw [List.filter_cons, List.filter_cons, keep2]; rfl
  have hew : evsL rq id 1 ro ro.bx.a = [] := by
    show List.map _ (List.filter (keepB rq id 1) [rm]) = _
    rw [List.filter_cons, keep2]; rfl
  rw [hz, hew] at c5
  have c6 := release_Keep_ok firstP first_okE id id_ok 1 rm rm_ok
  rw [keep1] at c6
  have c7 := release_Keep_ok rq rq_ok id id_ok 1 rm rm_ok
  rw [keep2] at c7
  have hM : mapOk (madeN [(2, 3)]) := fun i hi => by have := made_lt [(2, 3)] i hi; omega
  have c8 := R04_Made_ok [(2, 3)] (by decide)
  have c9 := release_AsItIs_ok (madeN [(2, 3)]) hM 1 rm rm_ok
  rw [show asIt (madeN [(2, 3)]) 1 rm = ⟨0, 0, 0, 65531, 0, 8, []⟩ by decide +kernel] at c9
  generalize madeN [(2, 3)] = M at *
  have hrq : putAt firstP.row (0 + 49 + 2 * 1) [.int .u8 (16 : Nat)] = rq.row := pol_putown firstP (r := 2) (by decide) 16
  have hx : evR ro 1 (asIt id 1 rm) = [.int .i64 4, .int .u16 (asIt id 1 rm).s, .int .u16 (asIt id 1 rm).i, .int .u16 (0 : Nat), .int .u16 (0 : Nat), .int .i64 1, .int .i64 (asIt id 1 rm).role, .int .u16 (asIt id 1 rm).s, .int .u16 (asIt id 1 rm).i, .int .u16 (asIt id 1 rm).used] := rfl
  rw [hx] at c4
  generalize asIt id 1 rm = am at *
  refine EvP.of_wpf false hm c_L32_alive rfl ?_
  refine wpf_seq1 ?_
  conv => whnf
  repeat' ((first | refine brP_t (by assumption) ?_ | refine brP_f (by assumption) ?_ | refine brP_t (decide_eq_true (by omega)) ?_ | refine brP_f (decide_eq_false (by omega)) ?_ | refine brP_t (nd_t (by omega)) ?_ | refine brP_f (nd_f (by omega)) ?_ | refine brP_t (decide_eq_true rfl) ?_ | refine wpfS_seq1 ?_ | refine wpfS_go ?_ | fail) <;> conv => whnf)
  (first | refine callK_p c1 ?_ | refine callM_p c1 rfl ?_ | refine callK_pf rfl c1 ?_ | refine callK_pk rfl c1 ?_)
  conv => whnf
  repeat' ((first | refine brP_t (by assumption) ?_ | refine brP_f (by assumption) ?_ | refine brP_t (decide_eq_true (by omega)) ?_ | refine brP_f (decide_eq_false (by omega)) ?_ | refine brP_t (nd_t (by omega)) ?_ | refine brP_f (nd_f (by omega)) ?_ | refine brP_t (decide_eq_true rfl) ?_ | refine wpfS_seq1 ?_ | refine wpfS_go ?_ | fail) <;> conv => whnf)
  (first | refine callK_p c2 ?_ | refine callM_p c2 rfl ?_ | refine callK_pf rfl c2 ?_ | refine callK_pk rfl c2 ?_)
  conv => whnf
  repeat' ((first | refine brP_t (by assumption) ?_ | refine brP_f (by assumption) ?_ | refine brP_t (decide_eq_true (by omega)) ?_ | refine brP_f (decide_eq_false (by omega)) ?_ | refine brP_t (nd_t (by omega)) ?_ | refine brP_f (nd_f (by omega)) ?_ | refine brP_t (decide_eq_true rfl) ?_ | refine wpfS_seq1 ?_ | refine wpfS_go ?_ | fail) <;> conv => whnf)
  (first | refine callK_p c3 ?_ | refine callM_p c3 rfl ?_ | refine callK_pf rfl c3 ?_ | refine callK_pk rfl c3 ?_)
  conv => whnf
  repeat' ((first | refine brP_t (by assumption) ?_ | refine brP_f (by assumption) ?_ | refine brP_t (decide_eq_true (by omega)) ?_ | refine brP_f (decide_eq_false (by omega)) ?_ | refine brP_t (nd_t (by omega)) ?_ | refine brP_f (nd_f (by omega)) ?_ | refine brP_t (decide_eq_true rfl) ?_ | refine wpfS_seq1 ?_ | refine wpfS_go ?_ | fail) <;> conv => whnf)
  (first | refine callK_p c4 ?_ | refine callM_p c4 rfl ?_ | refine callK_pf rfl c4 ?_ | refine callK_pk rfl c4 ?_)
  conv => whnf
  repeat' ((first | refine brP_t (by assumption) ?_ | refine brP_f (by assumption) ?_ | refine brP_t (decide_eq_true (by omega)) ?_ | refine brP_f (decide_eq_false (by omega)) ?_ | refine brP_t (nd_t (by omega)) ?_ | refine brP_f (nd_f (by omega)) ?_ | refine brP_t (decide_eq_true rfl) ?_ | refine wpfS_seq1 ?_ | refine wpfS_go ?_ | fail) <;> conv => whnf)
  (first | refine callK_p c5 ?_ | refine callM_p c5 rfl ?_ | refine callK_pf rfl c5 ?_ | refine callK_pk rfl c5 ?_)
  conv => whnf
  repeat' ((first | refine brP_t (by assumption) ?_ | refine brP_f (by assumption) ?_ | refine brP_t (decide_eq_true (by omega)) ?_ | refine brP_f (decide_eq_false (by omega)) ?_ | refine brP_t (nd_t (by omega)) ?_ | refine brP_f (nd_f (by omega)) ?_ | refine brP_t (decide_eq_true rfl) ?_ | refine wpfS_seq1 ?_ | refine wpfS_go ?_ | fail) <;> conv => whnf)
  (first | refine callK_p c6 ?_ | refine callM_p c6 rfl ?_ | refine callK_pf rfl c6 ?_ | refine callK_pk rfl c6 ?_)
  conv => whnf
  repeat' ((first | refine brP_t (by assumption) ?_ | refine brP_f (by assumption) ?_ | refine brP_t (decide_eq_true (by omega)) ?_ | refine brP_f (decide_eq_false (by omega)) ?_ | refine brP_t (nd_t (by omega)) ?_ | refine brP_f (nd_f (by omega)) ?_ | refine brP_t (decide_eq_true rfl) ?_ | refine wpfS_seq1 ?_ | refine wpfS_go ?_ | fail) <;> conv => whnf)
  (first | refine callK_p c7 ?_ | refine callM_p c7 rfl ?_ | refine callK_pf rfl c7 ?_ | refine callK_pk rfl c7 ?_)
  conv => whnf
  repeat' ((first | refine brP_t (by assumption) ?_ | refine brP_f (by assumption) ?_ | refine brP_t (decide_eq_true (by omega)) ?_ | refine brP_f (decide_eq_false (by omega)) ?_ | refine brP_t (nd_t (by omega)) ?_ | refine brP_f (nd_f (by omega)) ?_ | refine brP_t (decide_eq_true rfl) ?_ | refine wpfS_seq1 ?_ | refine wpfS_go ?_ | fail) <;> conv => whnf)
  (first | refine callK_p c8 ?_ | refine callM_p c8 rfl ?_ | refine callK_pf rfl c8 ?_ | refine callK_pk rfl c8 ?_)
  conv => whnf
  repeat' ((first | refine brP_t (by assumption) ?_ | refine brP_f (by assumption) ?_ | refine brP_t (decide_eq_true (by omega)) ?_ | refine brP_f (decide_eq_false (by omega)) ?_ | refine brP_t (nd_t (by omega)) ?_ | refine brP_f (nd_f (by omega)) ?_ | refine brP_t (decide_eq_true rfl) ?_ | refine wpfS_seq1 ?_ | refine wpfS_go ?_ | fail) <;> conv => whnf)
  (first | refine callK_p c9 ?_ | refine callM_p c9 rfl ?_ | refine callK_pf rfl c9 ?_ | refine callK_pk rfl c9 ?_)
  conv => whnf
  repeat' ((first | refine brP_t (by assumption) ?_ | refine brP_f (by assumption) ?_ | refine brP_t (decide_eq_true (by omega)) ?_ | refine brP_f (decide_eq_false (by omega)) ?_ | refine brP_t (nd_t (by omega)) ?_ | refine brP_f (nd_f (by omega)) ?_ | refine brP_t (decide_eq_true rfl) ?_ | refine wpfS_seq1 ?_ | refine wpfS_go ?_ | fail) <;> conv => whnf)
  rfl
/-! ### ReleaseKeeps -/
/-! ### ReleaseLets -/
theorem ev_self (o : Ob) (e : Int) (x : Msg) : (!(decide ((4 : Int) = 4) && (decide ((x.s : Int) = x.s) && (decide ((x.i : Int) = x.i) && (decide ((o.ls : Int) = o.ls) && (decide ((o.li : Int) = o.li) && (decide (e = e) && (decide (x.role = x.role) && (decide ((x.s : Int) = x.s) && (decide ((x.i : Int) = x.i) && (decide ((x.used : Int) = x.used) && true))))))))))) = false := by simp
set_option maxHeartbeats 4000000 in
theorem R30_Same_ev (o : Ob) (e : Int) (l : List Msg) (hl : l.length < 2 ^ 62) : EvP PR G f_R30_Same [slv (l.map (evR o e)), slv (l.map (evR o e))] (bv true) := by
  have hlen : (l.map (evR o e)).length = l.length := List.length_map _
  refine EvP.of_wpf false hm c_R30_Same rfl ?_
  refine wpf_seq1 ?_
  conv => whnf
  repeat' ((first | refine brP_t (by assumption) ?_ | refine brP_f (by assumption) ?_ | refine brP_t (decide_eq_true (by omega)) ?_ | refine brP_f (decide_eq_false (by omega)) ?_ | refine brP_t (nd_t (by omega)) ?_ | refine brP_f (nd_f (by omega)) ?_ | ((rw [hlen])) | refine brP_f (nd_f rfl) ?_ | refine wpfS_seq1 ?_ | refine wpfS_go ?_ | fail) <;> conv => whnf)
  refine SemS.loopF false hm (σ := Nat) (fun i => [(5, iv i), (1, slv (l.map (evR o e))), (0, slv (l.map (evR o e)))]) (fun _ => ⟨[], []⟩) (fun i => l.length - i) (fun i => i ≤ l.length) 0 (Nat.zero_le _) ⟨rfl, rfl, rfl, trivial⟩ rfl ?_
  intro i hi
  refine wpf_seq1 ?_
  conv => whnf
  rw [hlen]
  refine brP_mk (fun h => ?_) (fun h => ?_)
  · have hi' : i < l.length := by have := of_decide_eq_true h; omega
    clear h
    have hget : (l.map (evR o e))[i]? = some (evR o e l[i]) := by rw [List.getElem?_map, List.getElem?_eq_getElem hi']; rfl
    have hw2 : IntKind.i64.wrap ((i : Int) + 1) = ((i + 1 : Nat) : Int) := by rw [wrap64 (by omega)]; rfl
    generalize l[i] = x at *
    repeat' ((first | refine brP_t (by assumption) ?_ | refine brP_f (by assumption) ?_ | refine brP_t (decide_eq_true (by omega)) ?_ | refine brP_f (decide_eq_false (by omega)) ?_ | refine brP_t (nd_t (by omega)) ?_ | refine brP_f (nd_f (by omega)) ?_ | ((rw [hlen])) | ((conv in (opS _ _ _ _) => whnf); rw [Int.toNat_natCast, hget]) | ((conv in (opM _ _ _ _ _) => whnf); (conv in (opS _ _ _ _) => whnf); rw [Int.toNat_natCast, hget]) | refine brP_f (ev_self o e x) ?_ | ((rw [hw2])) | refine wpfS_seq1 ?_ | refine wpfS_go ?_ | fail) <;> conv => whnf)
    exact ⟨i + 1, hi', (show l.length - (i + 1) < l.length - i by omega), ⟨rfl, rfl, rfl, trivial⟩, rfl⟩
  · repeat' ((first | refine brP_t (by assumption) ?_ | refine brP_f (by assumption) ?_ | refine brP_t (decide_eq_true (by omega)) ?_ | refine brP_f (decide_eq_false (by omega)) ?_ | refine brP_t (nd_t (by omega)) ?_ | refine brP_f (nd_f (by omega)) ?_ | refine wpfS_seq1 ?_ | refine wpfS_go ?_ | fail) <;> conv => whnf)
    rfl
theorem evs_map (p : Pol) (M : Nat → Nat) (e : Int) (o : Ob) (l : List Msg) : evsL p M e o l = ((l.filter (keepB p M e)).map (asIt M e)).map (evR o e) := by
  rw [evsL, List.map_map]; rfl
set_option maxHeartbeats 16000000 in
theorem releaseLets_ok (p : Pol) (hp : p.Ok) (l : List (Int × Int)) (hl63 : l.length < 2 ^ 63) (ep : Nat) (hep : ep < 256) (o : Ob) (ho : o.Ok) (hlim : o.Lim) : EvP PR G f_L32_ReleaseLets [p.v, slv (prows l), .c (.p (.int .u8 ep)), .agg o.row] (bv true) := by
  have hlen : (prows l).length = l.length := by simp [prows]
  have cF := R25_Fine_ok o hlim
  refine EvP.of_wpf false hm c_L32_ReleaseLets rfl ?_
  refine wpf_seq1 ?_
  conv => whnf
  by_cases h20 : 20 < l.length
  · repeat' ((first | refine brP_t (by assumption) ?_ | refine brP_f (by assumption) ?_ | refine brP_t (decide_eq_true (by omega)) ?_ | refine brP_f (decide_eq_false (by omega)) ?_ | refine brP_t (nd_t (by omega)) ?_ | refine brP_f (nd_f (by omega)) ?_ | ((rw [hlen])) | refine callK_p L32_alive_ok ?_ | refine callM_p L32_alive_ok rfl ?_ | refine callK_pf rfl L32_alive_ok ?_ | refine callK_pk rfl L32_alive_ok ?_ | refine wpfS_seq1 ?_ | refine wpfS_go ?_ | fail) <;> conv => whnf)
    rfl
  by_cases hk : o.k = 2
  case neg =>
    repeat' ((first | refine brP_t (by assumption) ?_ | refine brP_f (by assumption) ?_ | refine brP_t (decide_eq_true (by omega)) ?_ | refine brP_f (decide_eq_false (by omega)) ?_ | refine brP_t (nd_t (by omega)) ?_ | refine brP_f (nd_f (by omega)) ?_ | ((rw [hlen])) | refine callK_p L32_alive_ok ?_ | refine callM_p L32_alive_ok rfl ?_ | refine callK_pf rfl L32_alive_ok ?_ | refine callK_pk rfl L32_alive_ok ?_ | refine wpfS_seq1 ?_ | refine wpfS_go ?_ | fail) <;> conv => whnf)
    rfl
  cases hf : o.fine with
  | false =>
    rw [hf] at cF
    repeat' ((first | refine brP_t (by assumption) ?_ | refine brP_f (by assumption) ?_ | refine brP_t (decide_eq_true (by omega)) ?_ | refine brP_f (decide_eq_false (by omega)) ?_ | refine brP_t (nd_t (by omega)) ?_ | refine brP_f (nd_f (by omega)) ?_ | ((rw [hlen])) | refine callK_p cF ?_ | refine callM_p cF rfl ?_ | refine callK_pf rfl cF ?_ | refine callK_pk rfl cF ?_ | refine callK_p L32_alive_ok ?_ | refine callM_p L32_alive_ok rfl ?_ | refine callK_pf rfl L32_alive_ok ?_ | refine callK_pk rfl L32_alive_ok ?_ | refine wpfS_seq1 ?_ | refine wpfS_go ?_ | fail) <;> conv => whnf)
    rfl
  | true =>
  rw [hf] at cF
  have hM : mapOk (madeN l) := fun i hi => by have := made_lt l i hi; omega
  have c0 := R04_Made_ok l (by omega)
  generalize madeN l = M at *
  have hwe : IntKind.i64.wrap (ep : Int) = (ep : Int) := wrap64 (by omega)
  have hg := fine_good hf hk
  have h8 := hg.len
  have hbl : o.bx.len = o.bx.q.length + o.bx.a.length + o.bx.h.length := rfl
  have c1 := R12_Mend_ok p hp
  have hq := mend_ok hp
  generalize mendP p = q at *
  have c2 := release_Let_ok q hq M hM ep o (by omega) ho.bx.a
  have c3 := R32_Let_ok q hq M hM ep o hg ho.bx
  have hll : (o.let_ (keepB q M ep)).Lim := ⟨by
    show (o.bx.letK (keepB q M ep)).len < _
    rw [← Bx.all_len, (let_perm o.bx _).length_eq, Bx.all_len]; exact hlim.bx, hlim.buf⟩
  have c4 := R25_Same_ok (o.let_ (keepB q M ep)) (o.let_ (keepB q M ep)) hll
  rw [decide_eq_true rfl] at c4
  have c5 := R30_Same_ev o ep ((o.bx.a.filter (keepB q M ep)).map (asIt M ep)) (by
    rw [List.length_map]
    exact Nat.lt_of_le_of_lt (List.length_filter_le _ _) (by omega))
  rw [← evs_map] at c5
  generalize evsL q M ep o o.bx.a = EV at *
  generalize o.let_ (keepB q M ep) = X at *
  repeat' ((first | refine brP_t (by assumption) ?_ | refine brP_f (by assumption) ?_ | refine brP_t (decide_eq_true (by omega)) ?_ | refine brP_f (decide_eq_false (by omega)) ?_ | refine brP_t (nd_t (by omega)) ?_ | refine brP_f (nd_f (by omega)) ?_ | ((rw [hlen])) | ((rw [hwe])) | refine wpfS_seq1 ?_ | refine wpfS_go ?_ | fail) <;> conv => whnf)
  (first | refine callK_p cF ?_ | refine callM_p cF rfl ?_ | refine callK_pf rfl cF ?_ | refine callK_pk rfl cF ?_)
  conv => whnf
  repeat' ((first | refine brP_t (by assumption) ?_ | refine brP_f (by assumption) ?_ | refine brP_t (decide_eq_true (by omega)) ?_ | refine brP_f (decide_eq_false (by omega)) ?_ | refine brP_t (nd_t (by omega)) ?_ | refine brP_f (nd_f (by omega)) ?_ | ((rw [hlen])) | ((rw [hwe])) | refine wpfS_seq1 ?_ | refine wpfS_go ?_ | fail) <;> conv => whnf)
  (first | refine callK_p c1 ?_ | refine callM_p c1 rfl ?_ | refine callK_pf rfl c1 ?_ | refine callK_pk rfl c1 ?_)
  conv => whnf
  repeat' ((first | refine brP_t (by assumption) ?_ | refine brP_f (by assumption) ?_ | refine brP_t (decide_eq_true (by omega)) ?_ | refine brP_f (decide_eq_false (by omega)) ?_ | refine brP_t (nd_t (by omega)) ?_ | refine brP_f (nd_f (by omega)) ?_ | ((rw [hlen])) | ((rw [hwe])) | refine wpfS_seq1 ?_ | refine wpfS_go ?_ | fail) <;> conv => whnf)
  (first | refine callK_p c0 ?_ | refine callM_p c0 rfl ?_ | refine callK_pf rfl c0 ?_ | refine callK_pk rfl c0 ?_)
  conv => whnf
  repeat' ((first | refine brP_t (by assumption) ?_ | refine brP_f (by assumption) ?_ | refine brP_t (decide_eq_true (by omega)) ?_ | refine brP_f (decide_eq_false (by omega)) ?_ | refine brP_t (nd_t (by omega)) ?_ | refine brP_f (nd_f (by omega)) ?_ | ((rw [hlen])) | ((rw [hwe])) | refine wpfS_seq1 ?_ | refine wpfS_go ?_ | fail) <;> conv => whnf)
  (first | refine callK_p c2 ?_ | refine callM_p c2 rfl ?_ | refine callK_pf rfl c2 ?_ | refine callK_pk rfl c2 ?_)
  conv => whnf
  repeat' ((first | refine brP_t (by assumption) ?_ | refine brP_f (by assumption) ?_ | refine brP_t (decide_eq_true (by omega)) ?_ | refine brP_f (decide_eq_false (by omega)) ?_ | refine brP_t (nd_t (by omega)) ?_ | refine brP_f (nd_f (by omega)) ?_ | ((rw [hlen])) | ((rw [hwe])) | refine wpfS_seq1 ?_ | refine wpfS_go ?_ | fail) <;> conv => whnf)
  (first | refine callK_p c3 ?_ | refine callM_p c3 rfl ?_ | refine callK_pf rfl c3 ?_ | refine callK_pk rfl c3 ?_)
  conv => whnf
  repeat' ((first | refine brP_t (by assumption) ?_ | refine brP_f (by assumption) ?_ | refine brP_t (decide_eq_true (by omega)) ?_ | refine brP_f (decide_eq_false (by omega)) ?_ | refine brP_t (nd_t (by omega)) ?_ | refine brP_f (nd_f (by omega)) ?_ | ((rw [hlen])) | ((rw [hwe])) | refine wpfS_seq1 ?_ | refine wpfS_go ?_ | fail) <;> conv => whnf)
  (first | refine callK_p c4 ?_ | refine callM_p c4 rfl ?_ | refine callK_pf rfl c4 ?_ | refine callK_pk rfl c4 ?_)
  conv => whnf
  repeat' ((first | refine brP_t (by assumption) ?_ | refine brP_f (by assumption) ?_ | refine brP_t (decide_eq_true (by omega)) ?_ | refine brP_f (decide_eq_false (by omega)) ?_ | refine brP_t (nd_t (by omega)) ?_ | refine brP_f (nd_f (by omega)) ?_ | ((rw [hlen])) | ((rw [hwe])) | refine wpfS_seq1 ?_ | refine wpfS_go ?_ | fail) <;> conv => whnf)
  (first | refine callK_p c5 ?_ | refine callM_p c5 rfl ?_ | refine callK_pf rfl c5 ?_ | refine callK_pk rfl c5 ?_)
  conv => whnf
  repeat' ((first | refine brP_t (by assumption) ?_ | refine brP_f (by assumption) ?_ | refine brP_t (decide_eq_true (by omega)) ?_ | refine brP_f (decide_eq_false (by omega)) ?_ | refine brP_t (nd_t (by omega)) ?_ | refine brP_f (nd_f (by omega)) ?_ | ((rw [hlen])) | ((rw [hwe])) | refine wpfS_seq1 ?_ | refine wpfS_go ?_ | fail) <;> conv => whnf)
  (first | refine callK_p L32_alive_ok ?_ | refine callM_p L32_alive_ok rfl ?_ | refine callK_pf rfl L32_alive_ok ?_ | refine callK_pk rfl L32_alive_ok ?_)
  conv => whnf
  repeat' ((first | refine brP_t (by assumption) ?_ | refine brP_f (by assumption) ?_ | refine brP_t (decide_eq_true (by omega)) ?_ | refine brP_f (decide_eq_false (by omega)) ?_ | refine brP_t (nd_t (by omega)) ?_ | refine brP_f (nd_f (by omega)) ?_ | ((rw [hlen])) | ((rw [hwe])) | refine wpfS_seq1 ?_ | refine wpfS_go ?_ | fail) <;> conv => whnf)
  rfl
theorem law_releaseLets (pvss : List (List PV)) (hw : wts [shPol, shMoves, .int .u8, shOb] pvss) : EvP PR G f_L32_ReleaseLets (argAVs [shPol, shMoves, .int .u8, shOb] pvss) (.c (.p (.bool true))) := by
  obtain ⟨a, _, rfl, ha, hw⟩ := wts_cons hw
  obtain ⟨b, _, rfl, hb, hw⟩ := wts_cons hw
  obtain ⟨c, _, rfl, hc, hw⟩ := wts_cons hw
  obtain ⟨d, _, rfl, hd, hw⟩ := wts_cons hw
  cases wts_nil hw
  obtain ⟨p, rfl, hp⟩ := pol_of ha
  obtain ⟨t, rfl, -, hl, ht⟩ := hb
  obtain ⟨t, rfl⟩ := prows_of ht
  obtain ⟨e, rfl, he⟩ := hc
  obtain ⟨e', rfl, he'⟩ := u8_of he
  obtain ⟨o, rfl, ho, hol⟩ := ob_lim hd
  have : t.length < 2 ^ 63 := by
    have := len63 hl
    simpa [prows] using this
  exact releaseLets_ok p hp t this e' he' o ho hol
end Go.Ab.S
