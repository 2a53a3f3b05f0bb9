/- VersionOf and VersionKeeps for every input. No condition. -/
import Derived.Test.YteipepbijfdciaaVerV5
import Derived.Test.YteipepbijfdciaaVerV6
import Derived.Test.YteipepbijfdciaaVerV7
set_option linter.unusedSimpArgs false
set_option linter.unusedVariables false
namespace Go.Ab.S
open Go Go.Ab Go.Proofs
theorem law_of (pvss : List (List PV)) (hw : wts [(.int .i64), (.sl 1 2 (.int .u16)), (.int .i64)] pvss) :
    EvP PR G f_L14_VersionOf (argAVs [(.int .i64), (.sl 1 2 (.int .u16)), (.int .i64)] pvss) (.c (.p (.bool true))) := by
  obtain ⟨a, _, rfl, ha, hw⟩ := wts_cons hw
  obtain ⟨c, _, rfl, hc, hw⟩ := wts_cons hw
  obtain ⟨b, _, rfl, hb, hw⟩ := wts_cons hw
  cases wts_nil hw
  obtain ⟨e, rfl, -⟩ := ha
  obtain ⟨es, rfl, -, -, hes⟩ := hc
  obtain ⟨k, rfl, -⟩ := hb
  obtain ⟨l, rfl, hl⟩ := urows_of hes
  exact of_ok e l hl k
theorem law_keeps (pvss : List (List PV)) (hw : wts [(.sl 1 2 (.int .u16))] pvss) :
    EvP PR G f_L14_VersionKeeps (argAVs [(.sl 1 2 (.int .u16))] pvss) (.c (.p (.bool true))) := by
  obtain ⟨c, _, rfl, hc, hw⟩ := wts_cons hw
  cases wts_nil hw
  obtain ⟨es, rfl, -, -, hes⟩ := hc
  obtain ⟨l, rfl, hl⟩ := urows_of hes
  exact keeps_ok l hl
end Go.Ab.S
