/- Part of a proof; no condition. -/
import Derived.Test.YtjdkjlmcnpjohaaDoorPolP18
import Derived.Test.YtjdkjlmcnpjohaaDoorPolP19
set_option linter.unusedSimpArgs false
set_option linter.unusedVariables false
namespace Go.Ab.S
open Go Go.Ab Go.Proofs
theorem law_policyTells (pvss : List (List PV)) (hw : wts [.st (.cons 66 shPol (.cons 1 (.int .i64) (.cons 1 (.int .i64) (.cons 2 shLb (.cons 1 (.int .u16) .nil)))))] pvss) : EvP PR G f_L12_PolicyTells (argAVs [.st (.cons 66 shPol (.cons 1 (.int .i64) (.cons 1 (.int .i64) (.cons 2 shLb (.cons 1 (.int .u16) .nil)))))] pvss) (.c (.p (.bool true))) := by
  obtain ⟨a, _, rfl, ha, hw⟩ := wts_cons hw
  cases wts_nil hw
  obtain ⟨a, b, rfl, -, h1, c, d, rfl, -, ⟨n, rfl, -⟩, e, f, rfl, -, ⟨m, rfl, -⟩, g, k, rfl, -, h2, u, v, rfl, -, h3, rfl⟩ := ha
  obtain ⟨p, rfl, hp⟩ := pol_of h1
  obtain ⟨s, i, rfl, hs, hi⟩ := lb_of h2
  obtain ⟨r, rfl, hr⟩ := u16w_of h3
  exact tells12_ok p hp n m s i r hs hi hr
theorem law_policyHides (pvss : List (List PV)) (hw : wts [shPol, .int .i64, .int .i64, shLb] pvss) : EvP PR G f_L12_PolicyHides (argAVs [shPol, .int .i64, .int .i64, shLb] pvss) (.c (.p (.bool true))) := by
  obtain ⟨a, _, rfl, ha, hw⟩ := wts_cons hw
  obtain ⟨b, _, rfl, hb, hw⟩ := wts_cons hw
  obtain ⟨c, _, rfl, hc, hw⟩ := wts_cons hw
  obtain ⟨d, _, rfl, hd, hw⟩ := wts_cons hw
  cases wts_nil hw
  obtain ⟨n, rfl, -⟩ := hb
  obtain ⟨m, rfl, -⟩ := hc
  obtain ⟨p, rfl, hp⟩ := pol_of ha
  obtain ⟨s, i, rfl, hs, hi⟩ := lb_of hd
  exact hides12_ok p hp n m s i hs hi
theorem law_policyMore (pvss : List (List PV)) (hw : wts [shPol, .int .i64, shLb, shLb] pvss) : EvP PR G f_L12_PolicyMore (argAVs [shPol, .int .i64, shLb, shLb] pvss) (.c (.p (.bool true))) := by
  obtain ⟨a, _, rfl, ha, hw⟩ := wts_cons hw
  obtain ⟨b, _, rfl, hb, hw⟩ := wts_cons hw
  obtain ⟨c, _, rfl, hc, hw⟩ := wts_cons hw
  obtain ⟨d, _, rfl, hd, hw⟩ := wts_cons hw
  cases wts_nil hw
  obtain ⟨n, rfl, -⟩ := hb
  obtain ⟨p, rfl, hp⟩ := pol_of ha
  obtain ⟨s, i, rfl, hs, hi⟩ := lb_of hc
  obtain ⟨s', i', rfl, hs', hi'⟩ := lb_of hd
  exact more12_ok p hp n s i s' i' hs hi hs' hi'
end Go.Ab.S
