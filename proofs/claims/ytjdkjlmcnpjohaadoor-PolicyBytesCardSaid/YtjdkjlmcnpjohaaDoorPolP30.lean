/- Part of a proof; no condition. -/
import Derived.Test.YtjdkjlmcnpjohaaDoorPolP29
set_option linter.unusedSimpArgs false
set_option linter.unusedVariables false
namespace Go.Ab.S
open Go Go.Ab Go.Proofs
theorem bytesw_of : ∀ {es : List (List PV)}, (∀ r ∈ es, r.length = 1 ∧ wt (.int .u8) r) → ∃ B : List UInt8, es = bytesOf B
  | [], _ => ⟨[], rfl⟩
  | r :: es, h => by
    obtain ⟨B, rfl⟩ := bytesw_of (es := es) fun x hx => h x (by simp [hx])
    obtain ⟨-, n, rfl, h0, h1⟩ := h r (by simp)
    have h0' : 0 ≤ n := by simpa [IntKind.min, IntKind.signed] using h0
    have h1' : n ≤ 255 := by simpa [IntKind.max, IntKind.signed, IntKind.bits] using h1
    refine ⟨UInt8.ofNat n.toNat :: B, ?_⟩
    have : (UInt8.ofNat n.toNat).toNat = n.toNat := by rw [UInt8.toNat_ofNat']; omega
    show [PV.int .u8 n] :: bytesOf B = [PV.int .u8 ((UInt8.ofNat n.toNat).toNat : Nat)] :: bytesOf B
    rw [this, Int.toNat_of_nonneg h0']
theorem law_policyBytes (pvss : List (List PV)) (hw : wts [shPol, .sl 1 1 (.int .u8)] pvss) : EvP PR G f_L12_PolicyBytes (argAVs [shPol, .sl 1 1 (.int .u8)] pvss) (.c (.p (.bool true))) := by
  obtain ⟨a, _, rfl, ha, hw⟩ := wts_cons hw
  obtain ⟨b, _, rfl, hb, hw⟩ := wts_cons hw
  cases wts_nil hw
  obtain ⟨p, rfl, hp⟩ := pol_of ha
  obtain ⟨es, rfl, -, hl, hes⟩ := hb
  obtain ⟨B, rfl⟩ := bytesw_of hes
  have hl : (bytesOf B).length ≤ maxLen := hl
  refine bytes12_ok p hp B ?_
  rw [bytesOf_len] at hl
  exact Nat.lt_of_le_of_lt hl (by decide)
end Go.Ab.S
