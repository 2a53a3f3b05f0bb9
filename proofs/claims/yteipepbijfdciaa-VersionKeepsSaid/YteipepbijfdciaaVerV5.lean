/- VersionPlays for every input. No condition. -/
import Derived.Test.YteipepbijfdciaaVerV4
set_option linter.unusedSimpArgs false
set_option linter.unusedVariables false
namespace Go.Ab.S
open Go Go.Ab Go.Proofs
theorem urows_of : ∀ {es : List (List PV)}, (∀ r ∈ es, r.length = 1 ∧ wt (.int .u16) r) → ∃ l : List Nat, es = urows l ∧ ∀ n ∈ l, n < 65536
  | [], _ => ⟨[], rfl, by simp⟩
  | r :: es, h => by
    obtain ⟨l, rfl, hl⟩ := urows_of fun q hq => h q (List.mem_cons_of_mem _ hq)
    obtain ⟨-, n, rfl, h0, h1⟩ := h r List.mem_cons_self
    have h0' : 0 ≤ n := by simpa [IntKind.min, IntKind.signed] using h0
    have h1' : n ≤ 65535 := by simpa [IntKind.max, IntKind.signed, IntKind.bits] using h1
    refine ⟨n.toNat :: l, ?_, fun m hm => ?_⟩
    · show _ = [PV.int .u16 (n.toNat : Int)] :: urows l
      rw [Int.toNat_of_nonneg h0']
    · rcases List.mem_cons.1 hm with rfl | hm
      · omega
      · exact hl m hm
theorem irows_of : ∀ {es : List (List PV)}, (∀ r ∈ es, r.length = 1 ∧ wt (.int .i64) r) → ∃ l : List Int, es = irows l
  | [], _ => ⟨[], rfl⟩
  | r :: es, h => by
    obtain ⟨l, rfl⟩ := irows_of fun q hq => h q (List.mem_cons_of_mem _ hq)
    obtain ⟨-, n, rfl, -⟩ := h r List.mem_cons_self
    exact ⟨n :: l, rfl⟩
theorem law_plays (pvss : List (List PV)) (hw : wts [(.sl 1 2 (.int .u16)), (.sl 1 8 (.int .i64))] pvss) :
    EvP PR G f_L14_VersionPlays (argAVs [(.sl 1 2 (.int .u16)), (.sl 1 8 (.int .i64))] pvss) (.c (.p (.bool true))) := by
  obtain ⟨c, _, rfl, hc, hw⟩ := wts_cons hw
  obtain ⟨n, _, rfl, hn, hw⟩ := wts_cons hw
  cases wts_nil hw
  obtain ⟨es, rfl, -, -, hes⟩ := hc
  obtain ⟨es2, rfl, -, -, has⟩ := hn
  obtain ⟨l, rfl, hl⟩ := urows_of hes
  obtain ⟨k, rfl⟩ := irows_of has
  exact plays_ok l hl k
end Go.Ab.S
