/- Part of a proof; no condition. -/
import Derived.Test.YtbiaoocflpkmeaaDoorLits
set_option linter.unusedSimpArgs false
set_option linter.unusedVariables false
namespace Go.Ab.S
open Go Go.Ab Go.Proofs
attribute [local irreducible] SemS
def G : Gl := fun n => match n with | 0 => some [.int .i64 0, .int .i64 0, .int .i64 0, .int .i64 11, .int .i64 0, .int .i64 3, .int .i64 0, .int .i64 0, .int .i64 1, .int .i64 12] | _ => none
theorem hm : Tryd.prog.follows .mixedOrders = true := by kernel_rfl
def cur (p a : Int) : AV := .agg [.int .i64 p, .int .i64 a]
def allL : List (Int × Int) := [(1,0),(1,1),(1,2),(1,3),(1,4),(1,5),(1,6),(1,7),(1,8),(1,9),(1,10),(1,11),(2,0),(2,1),(2,2),(2,3),(3,0),(0,0)]
def backL : List (Int × Int) := [(4,12),(4,11),(4,10),(4,9),(4,8),(4,7),(4,6),(4,5),(4,4),(4,3),(4,2),(4,1),(0,0)]
def rows (l : List (Int × Int)) : List (List PV) := l.map fun q => [.int .i64 q.1, .int .i64 q.2]
def slL (l : List (Int × Int)) : AV := .c (.p (.sl (rows l)))
def tt : AV := .c (.p (.bool true))
def R0 : Run := { G, own := fun _ => false, kn := fun _ _ => none, tab, L := 100 }
theorem R0_ok : R0.Ok Tryd.prog := ⟨hm, tab_ok, by intro g args v h; cases h⟩
set_option maxRecDepth 100000
theorem e25 : EvP Tryd.prog G 25 [] (slL backL) := EvP.of_run R0_ok 10 (by kernel_rfl) (by kernel_rfl)
theorem e16o : EvR Tryd.prog G 16 [] ⟨[], [.row [.int .i64 0, .int .i64 0]]⟩ (.c (.os (.loc 1) 18)) ⟨[], [.row [.int .i64 0, .int .i64 0], .arr 2 false (rows allL)]⟩ := R0_ok.call 10 false 16 [] _ _ _ (by kernel_rfl)
def anyL : List (Int × Int) := allL ++ backL
theorem e8 (n : Int) (h0 : 0 ≤ n) (h1 : n ≤ 255) : ∃ p a, (p, a) ∈ anyL ∧ EvP Tryd.prog G 8 [.c (.p (.int .u8 n))] (cur p a) := by
  have hw : IntKind.i64.wrap n = n := by simp [IntKind.wrap, IntKind.signed, IntKind.bits]; omega
  have hL : ((rows allL ++ rows backL).length : Int) = 31 := rfl
  obtain ⟨r, hr⟩ : ∃ r : Nat, n.tmod 31 = r := ⟨(n.tmod 31).toNat, by rw [Int.toNat_of_nonneg]; exact Int.tmod_nonneg _ h0⟩
  have hlt : r < 31 := by
    have := Int.tmod_lt_of_pos n (show (0 : Int) < 31 by omega)
    omega
  have hg : ∃ p a, (p, a) ∈ anyL ∧ (rows allL ++ rows backL)[r]? = some [.int .i64 p, .int .i64 a] := by
    have hh : anyL[r]? = some anyL[r] := List.getElem?_eq_getElem hlt
    refine ⟨anyL[r].1, anyL[r].2, List.getElem_mem hlt, ?_⟩
    rw [show rows allL ++ rows backL = rows anyL by simp [rows, anyL], rows, List.getElem?_map, hh]
    rfl
  obtain ⟨p, a, hm', hg⟩ := hg
  refine ⟨p, a, hm', ?_⟩
  refine EvP.of_wpf true hm c8 rfl ?_
  conv => whnf
  refine callK_r e16o ?_
  conv => whnf
  refine callK_p e25 ?_
  conv => whnf
  rw [hw, hL, hr]
  refine brP_t (decide_eq_true ⟨by omega, Int.ofNat_lt.2 hlt, rfl, rfl⟩) ?_
  conv => whnf
  conv in (opS _ _ _ _) => whnf
  rw [Int.toNat_natCast, hg]
  conv => whnf
  rfl

theorem e15 : EvP Tryd.prog G 15 [] (cur 1 0) := EvP.of_run R0_ok 10 (by kernel_rfl) (by kernel_rfl)
theorem e16 : EvP Tryd.prog G 16 [] (slL allL) := EvP.of_run R0_ok 10 (by kernel_rfl) (by kernel_rfl)
theorem e23 : EvP Tryd.prog G 23 [] tt := EvP.of_run R0_ok 10 (by kernel_rfl) (by kernel_rfl)
def kn1 (g : FuncId) (args : List AV) : Option AV := match g, args with
  | 16, [] => some (slL allL)
  | 25, [] => some (slL backL)
  | 15, [] => some (cur 1 0)
  | 23, [] => some tt
  | _, _ => none
theorem kn1_ok : KnOk Tryd.prog G kn1 := by
  intro g args v h
  unfold kn1 at h
  split at h <;> cases h
  · exact e16
  · exact e25
  · exact e15
  · exact e23
def R1 : Run := { G, own := fun _ => false, kn := kn1, tab, L := 100 }
theorem R1_ok : R1.Ok Tryd.prog := ⟨hm, tab_ok, kn1_ok⟩


def rest2 : SC → SC
  | .seq _ (.seq _ r) => r
  | s => s
def T4 (n : Int) (q : Int × Int) : Tm := [(3, .c (.ptr (.loc 0) 0)), (10, cur q.1 q.2), (9, .c (.p (.int .u8 n))), (2, .c (.p (.bool false))), (0, .c (.p (.int .u8 n)))]
def H4 (q : Int × Int) : Hp := ⟨[], [.row [.int .i64 q.1, .int .i64 q.2]]⟩
set_option maxRecDepth 100000 in
theorem chk4 (n : Int) : (anyL.all fun q => isT (runRest R1 (R1.call 10) true (rest2 s4.body) s4.res (T4 n q) (H4 q))) = true := by kernel_rfl
theorem e4 (n : Int) (h0 : 0 ≤ n) (h1 : n ≤ 255) : EvP Tryd.prog G 4 [.c (.p (.int .u8 n))] tt := by
  obtain ⟨p, a, hpa, h8⟩ := e8 n h0 h1
  refine EvP.of_wpf true hm c4 rfl ?_
  refine wpf_seq1 ?_
  conv => whnf
  refine wpfS_seq1 ?_
  conv => whnf
  refine callK_p h8 ?_
  conv => whnf
  refine wpfS_go ?_
  exact wpf_isT R1_ok 10 (List.all_eq_true.1 (chk4 n) (p, a) hpa)
end Go.Ab.S
