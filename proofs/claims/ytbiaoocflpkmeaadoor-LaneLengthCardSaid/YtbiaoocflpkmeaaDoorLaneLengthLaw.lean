/- Part of a proof; no condition. -/
import Derived.Test.YtbiaoocflpkmeaaDoorLaneStepsLaw
set_option linter.unusedSimpArgs false
set_option linter.unusedVariables false
namespace Go.Ab.S
open Go Go.Ab Go.Proofs
attribute [local irreducible] SemS
set_option maxRecDepth 100000
def rest3 : SC → SC
  | .seq _ (.seq _ (.seq _ r)) => r
  | s => s
def T5 (n : Int) (r : Nat) : Tm := [(4, .c (.p (.int .i64 r))), (15, .c (.p (.int .i64 r))), (14, .c (.p (.int .i64 n))), (13, .c (.p (.int .u8 n))), (3, .c (.ptr (.loc 0) 0)), (12, cur 1 0), (2, .c (.p (.bool false))), (0, .c (.p (.int .u8 n)))]
def H5 : Hp := ⟨[], [.row [.int .i64 1, .int .i64 0]]⟩
theorem chk5 (n : Int) : ((List.range 20).all fun r => isT (runRest R1 (R1.call 10) true (rest3 s5.body) s5.res (T5 n r) H5)) = true := by kernel_rfl
theorem e5 (n : Int) (h0 : 0 ≤ n) (h1 : n ≤ 255) : EvP Tryd.prog G 5 [.c (.p (.int .u8 n))] tt := by
  have hw : IntKind.i64.wrap n = n := by simp [IntKind.wrap, IntKind.signed, IntKind.bits]; omega
  obtain ⟨r, hr⟩ : ∃ r : Nat, n.tmod 20 = r := ⟨(n.tmod 20).toNat, by rw [Int.toNat_of_nonneg]; exact Int.tmod_nonneg _ h0⟩
  have hlt : r < 20 := by
    have := Int.tmod_lt_of_pos n (show (0 : Int) < 20 by omega)
    omega
  refine EvP.of_wpf true hm c5 rfl ?_
  refine wpf_seq1 ?_
  conv => whnf
  refine wpfS_seq1 ?_
  conv => whnf
  refine callK_p e15 ?_
  conv => whnf
  refine wpfS_seq1 ?_
  conv => whnf
  rw [hw, hr]
  refine wpfS_go ?_
  exact wpf_isT R1_ok 10 (List.all_eq_true.1 (chk5 n) r (List.mem_range.2 hlt))
end Go.Ab.S
