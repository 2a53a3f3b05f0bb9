/- ReleaseAll. No condition. -/
import Derived.Test.YtidmpmdhgiopgaaDoorLE5
import Derived.Test.YtidmpmdhgiopgaaDoorLS4
set_option linter.unusedSimpArgs false
set_option linter.unusedVariables false
namespace Go.Ab.S
open Go Go.Ab Go.Proofs
attribute [local irreducible] SemS
set_option maxRecDepth 100000
def noneB (l : List Msg) : Bool := l.all fun m => decide (m.used = 0)
theorem law_releaseFlows (pvss : List (List PV)) (hw : wts [shLb, shLb, .int .u16, shMoves] pvss) : EvP PR G f_L32_ReleaseFlows (argAVs [shLb, shLb, .int .u16, shMoves] pvss) (.c (.p (.bool true))) := by
  obtain ⟨a, _, rfl, ha, hw⟩ := wts_cons hw
  obtain ⟨b, _, rfl, hb, hw⟩ := wts_cons hw
  obtain ⟨c, _, rfl, hc, hw⟩ := wts_cons hw
  obtain ⟨d, _, rfl, hd, hw⟩ := wts_cons hw
  cases wts_nil hw
  obtain ⟨s, i, rfl, h1, h2⟩ := lab_of ha
  obtain ⟨s', i', rfl, h3, h4⟩ := lab_of hb
  obtain ⟨n, rfl, hn⟩ := hc
  obtain ⟨n', rfl, hn'⟩ := u16_of hn
  obtain ⟨t, rfl, -, hl, ht⟩ := hd
  obtain ⟨t, rfl⟩ := prows_of ht
  have : t.length < 2 ^ 63 := by
    have := len63 hl
    simpa [prows] using this
  exact releaseFlows_ok s i s' i' n' h1 h2 h3 h4 hn' t this
end Go.Ab.S
