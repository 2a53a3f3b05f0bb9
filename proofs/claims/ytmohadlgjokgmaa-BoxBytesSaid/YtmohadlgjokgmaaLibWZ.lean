/- Part of a proof; no condition. -/
import Derived.Test.YtmohadlgjokgmaaLibWY
set_option linter.unusedSimpArgs false
set_option linter.unusedVariables false
namespace Go.Ab.S
open Go Go.Ab Go.Proofs
attribute [local irreducible] SemS
set_option maxRecDepth 100000
theorem okNum_of {n k : Nat} (hk : 1 ≤ k ∧ k ≤ 4) (h : n < 256 ^ k) : okNum n k = true := by
  refine decide_eq_true ⟨by omega, by omega, by omega, ?_⟩
  rw [Int.toNat_natCast]
  have : ((256 ^ k : Nat) : Int) = (256 : Int) ^ k := by rw [Int.natCast_pow]; rfl
  omega
theorem nv_err {s : St} {keep : Bool} (h : (s.num keep 1 255).e ≠ 0) : s.nv 1 255 = 0 := by
  unfold St.num at h
  unfold St.nv
  have h : numE s.e s.b 1 255 ≠ 0 := h
  unfold numE at h
  unfold numV
  split
  · rfl
  · rename_i h1
    rw [if_neg h1] at h
    split
    · rfl
    · rename_i h2
      rw [if_neg h2] at h
      split
      · rfl
      · rename_i h3
        rw [if_neg h3] at h
        split
        · rfl
        · rename_i h4
          rw [if_neg h4] at h
          exact absurd rfl h
/-- Something written by a writer that is new. -/
theorem fresh_w {g : FuncId} {args : List AV} {v : AV} {bs : List UInt8} (h : EvR PR G g args ⟨wrB 0 [], []⟩ v ⟨wrB 0 bs, []⟩) (ha : args.map (AV.ren (rho [.par 0, .loc 0] 1)) = args) (hi : args.all (inA 2) = true) (hv : v.ren (rho [.par 0, .loc 0] 1) = v) :
    EvR PR G g args ⟨[.mrow [.p (.int .i64 0), .nils]], []⟩ v ⟨[.mrow [.p (.int .i64 0), .os (.loc 0) bs.length]], [.arr 1 false (bytesOf bs)]⟩ := by
  have hf : Fits ⟨[.mrow [.p (.int .i64 0), .os (.loc 0) 0]], [.arr 1 false []]⟩ [.par 0, .loc 0] (wrB 0 []) := Fits.of rfl ⟨rfl, rfl, trivial⟩ rfl
  have h1 := EvR.frame h hf hi
  refine EvR.weakL (Weak.nils (id := .par 0) (j := 1) 1 (by omega) rfl rfl) ?_
  have h2 : EvR PR G g (args.map (AV.ren (rho [.par 0, .loc 0] 1))) ⟨[.mrow [.p (.int .i64 0), .os (.loc 0) 0]], [.arr 1 false []]⟩ (v.ren (rho [.par 0, .loc 0] 1)) ⟨[.mrow [.p (.int .i64 0), .os (.loc 0) bs.length]], [.arr 1 false (bytesOf bs)]⟩ := h1
  rw [ha, hv] at h2
  exact h2
theorem fresh_rw {g : FuncId} {args : List AV} {v : AV} {bs : List UInt8} (h : EvR PR G g args ⟨rwB 0 [], []⟩ v ⟨rwB 0 bs, []⟩) (ha : args.map (AV.ren (rho [.par 0, .loc 0] 1)) = args) (hi : args.all (inA 2) = true) (hv : v.ren (rho [.par 0, .loc 0] 1) = v) :
    EvR PR G g args ⟨[.mrow [.nils, .p (.int .i64 0)]], []⟩ v ⟨[.mrow [.os (.loc 0) bs.length, .p (.int .i64 0)]], [.arr 1 false (bytesOf bs)]⟩ := by
  have hf : Fits ⟨[.mrow [.os (.loc 0) 0, .p (.int .i64 0)]], [.arr 1 false []]⟩ [.par 0, .loc 0] (rwB 0 []) := Fits.of rfl ⟨rfl, rfl, trivial⟩ rfl
  have h1 := EvR.frame h hf hi
  refine EvR.weakL (Weak.nils (id := .par 0) (j := 0) 1 (by omega) rfl rfl) ?_
  have h2 : EvR PR G g (args.map (AV.ren (rho [.par 0, .loc 0] 1))) ⟨[.mrow [.os (.loc 0) 0, .p (.int .i64 0)]], [.arr 1 false []]⟩ (v.ren (rho [.par 0, .loc 0] 1)) ⟨[.mrow [.os (.loc 0) bs.length, .p (.int .i64 0)]], [.arr 1 false (bytesOf bs)]⟩ := h1
  rw [ha, hv] at h2
  exact h2
end Go.Ab.S
