/- FenceTells, FenceFew, FenceFlows for every input. No condition. -/
import Derived.Test.YtjdkjlmcnpjohaaDoorFenceF4
import Derived.Test.YtjdkjlmcnpjohaaDoorFwE
set_option linter.unusedSimpArgs false
set_option linter.unusedVariables false
namespace Go.Ab.S
open Go Go.Ab Go.Proofs
abbrev shMoves : Sh := .sl 2 16 (.arr 2 1 (.int .i64))
abbrev shSeen : Sh := .st (.cons 1 (.int .u8) (.cons 1 (.int .u8) (.cons 1 shMoves (.cons 1 shMoves .nil))))
theorem seen_of {cs : List PV} (h : wt shSeen cs) : ∃ (e n : Nat) (t l : List (Int × Int)), cs = [.int .u8 e, .int .u8 n, .sl (prows t), .sl (prows l)] ∧ e < 256 ∧ n < 256 := by
  obtain ⟨a, _, rfl, -, ⟨e, rfl, he⟩, b, _, rfl, -, ⟨n, rfl, hn⟩, c, _, rfl, -, ⟨t, rfl, -, -, ht⟩, d, _, rfl, -, ⟨l, rfl, -, -, hl⟩, rfl⟩ := h
  obtain ⟨e, rfl, he'⟩ := u8_of he
  obtain ⟨n, rfl, hn'⟩ := u8_of hn
  obtain ⟨t, rfl⟩ := prows_of ht
  obtain ⟨l, rfl⟩ := prows_of hl
  exact ⟨e, n, t, l, rfl, he', hn'⟩
theorem law_fenceTells (pvss : List (List PV)) (hw : wts [shSeen, shId, shOb] pvss) : EvP PR G f_L29_FenceTells (argAVs [shSeen, shId, shOb] pvss) (.c (.p (.bool true))) := by
  obtain ⟨a, _, rfl, ha, hw⟩ := wts_cons hw
  obtain ⟨b, _, rfl, hb, hw⟩ := wts_cons hw
  obtain ⟨c, _, rfl, hc, hw⟩ := wts_cons hw
  cases wts_nil hw
  obtain ⟨e, n, t, l, rfl, he, hn⟩ := seen_of ha
  obtain ⟨s, i, k, m, rfl, hs, hi, -, -⟩ := id_of hb
  obtain ⟨o, rfl, ho⟩ := ob_of hc
  exact fenceTells_ok e n he hn t l s i hs hi k m o ho
theorem law_fenceFew (pvss : List (List PV)) (hw : wts [shSeen, shId] pvss) : EvP PR G f_L29_FenceFew (argAVs [shSeen, shId] pvss) (.c (.p (.bool true))) := by
  obtain ⟨a, _, rfl, ha, hw⟩ := wts_cons hw
  obtain ⟨b, _, rfl, hb, hw⟩ := wts_cons hw
  cases wts_nil hw
  obtain ⟨e, n, t, l, rfl, he, hn⟩ := seen_of ha
  obtain ⟨s, i, k, m, rfl, hs, hi, -, -⟩ := id_of hb
  exact fenceFew_ok e n he hn t l s i hs hi k m
theorem law_fenceFlows (pvss : List (List PV)) (hw : wts [shSeen, shId, shId] pvss) : EvP PR G f_L29_FenceFlows (argAVs [shSeen, shId, shId] pvss) (.c (.p (.bool true))) := by
  obtain ⟨a, _, rfl, ha, hw⟩ := wts_cons hw
  obtain ⟨b, _, rfl, hb, hw⟩ := wts_cons hw
  obtain ⟨c, _, rfl, hc, hw⟩ := wts_cons hw
  cases wts_nil hw
  obtain ⟨e, n, t, l, rfl, he, hn⟩ := seen_of ha
  obtain ⟨s, i, k, m, rfl, hs, hi, -, -⟩ := id_of hb
  obtain ⟨s', i', k', m', rfl, hs', hi', -, -⟩ := id_of hc
  exact fenceFlows_ok e n he hn t l s i hs hi k m s' i' hs' hi' k' m'
end Go.Ab.S
