/- Part of a proof; no condition. -/
import Derived.Test.YtjdkjlmcnpjohaaDoorLibN1
set_option linter.unusedSimpArgs false
set_option linter.unusedVariables false
namespace Go.Ab.S
open Go Go.Ab Go.Proofs
attribute [local irreducible] SemS
set_option maxRecDepth 100000
/-! ### What is known of Set, as a table -/
def kn1 (g : FuncId) (args : List AV) : Option AV := match Nat.beq g f_relabel_Set, args with
  | true, [.agg [.int .u8 (.ofNat a0), .int .u8 (.ofNat a1), .int .u8 (.ofNat a2), .int .u8 (.ofNat a3), .int .u8 (.ofNat a4), .int .u8 (.ofNat a5), .int .u8 (.ofNat a6), .int .u8 (.ofNat a7), .int .u8 (.ofNat a8), .int .u8 (.ofNat a9), .int .u8 (.ofNat a10), .int .u8 (.ofNat a11), .int .u8 (.ofNat a12), .int .u8 (.ofNat a13), .int .u8 (.ofNat a14), .int .u8 (.ofNat a15)], .c (.p (.int .u16 (.ofNat s)))] =>
    match (List.range 16).all (fun i => Nat.ble (listM [a0, a1, a2, a3, a4, a5, a6, a7, a8, a9, a10, a11, a12, a13, a14, a15] i) 255) && Nat.blt s 65536 with
    | true => some (uv (setN (listM [a0, a1, a2, a3, a4, a5, a6, a7, a8, a9, a10, a11, a12, a13, a14, a15]) s : Nat))
    | false => none
  | _, _ => none
theorem kn1_ok : KnOk PR G kn1 := by
  intro g args v h
  unfold kn1 at h
  split at h
  · rename_i hg
    split at h
    · rename_i hc
      cases h
      rw [Nat.eq_of_beq_eq_true hg]
      simp only [Bool.and_eq_true, Nat.blt_eq] at hc
      exact relabel_Set_ok (listM _) (fun i hi => by
        have := List.all_eq_true.1 hc.1 i (by simpa using hi)
        simpa using this) _ hc.2
    · cases h
  · cases h
def R1 : Run := { G, own := fun _ => false, kn := kn1, tab, L := 100 }
theorem R1_ok : R1.Ok PR := ⟨hm, tab_ok, kn1_ok⟩
end Go.Ab.S
