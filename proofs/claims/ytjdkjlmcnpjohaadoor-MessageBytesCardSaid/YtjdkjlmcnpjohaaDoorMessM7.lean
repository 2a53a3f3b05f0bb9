/- MessageTells and MessageBytes for every input. No condition. -/
import Derived.Test.YtjdkjlmcnpjohaaDoorMessM6
import Derived.Test.YtjdkjlmcnpjohaaDoorFwE
set_option linter.unusedSimpArgs false
set_option linter.unusedVariables false
namespace Go.Ab.S
open Go Go.Ab Go.Proofs
theorem law_messageTells (pvss : List (List PV)) (hw : wts [shMsg, shMsg, shMoves] pvss) : EvP PR G f_L22_MessageTells (argAVs [shMsg, shMsg, shMoves] pvss) (.c (.p (.bool true))) := by
  obtain ⟨a, _, rfl, ha, hw⟩ := wts_cons hw
  obtain ⟨b, _, rfl, hb, hw⟩ := wts_cons hw
  obtain ⟨c, _, rfl, hc, hw⟩ := wts_cons hw
  cases wts_nil hw
  obtain ⟨x, rfl, hx⟩ := msg_of ha
  obtain ⟨y, rfl, -⟩ := msg_of hb
  obtain ⟨t, rfl, -, -, ht⟩ := hc
  obtain ⟨t, rfl⟩ := prows_of ht
  exact tells22_ok x y hx t
theorem law_messageBytes (pvss : List (List PV)) (hw : wts [.sl 7 56 shMsg, shBytes] pvss) : EvP PR G f_L22_MessageBytes (argAVs [.sl 7 56 shMsg, shBytes] pvss) (.c (.p (.bool true))) := by
  obtain ⟨a, _, rfl, ha, hw⟩ := wts_cons hw
  obtain ⟨b, _, rfl, hb, hw⟩ := wts_cons hw
  cases wts_nil hw
  obtain ⟨es, rfl, -, hl, hes⟩ := ha
  obtain ⟨l, rfl, hl'⟩ := msgs_of hes
  obtain ⟨bs, rfl, -, -, hbs⟩ := hb
  obtain ⟨B, rfl⟩ := bytes_of hbs
  rw [msgs_len] at hl
  exact bytes22_ok l hl' (len63 hl) B
end Go.Ab.S
