/- WireReads, WireBack, WireNobody for every input. No condition. -/
import Derived.Test.YteipepbijfdciaaWireW5
import Derived.Test.YteipepbijfdciaaWireW11
set_option linter.unusedSimpArgs false
set_option linter.unusedVariables false
namespace Go.Ab.S
open Go Go.Ab Go.Proofs
theorem bytes_of : ∀ {es : List (List PV)}, (∀ r ∈ es, r.length = 1 ∧ wt (.int .u8) r) → ∃ l : List UInt8, es = bytesOf l
  | [], _ => ⟨[], rfl⟩
  | r :: es, h => by
    obtain ⟨l, rfl⟩ := bytes_of fun q hq => h q (List.mem_cons_of_mem _ hq)
    obtain ⟨-, n, rfl, h0, h1⟩ := h r List.mem_cons_self
    have h0 : (0 : Int) ≤ n := h0
    have h1 : n ≤ (255 : Int) := h1
    refine ⟨UInt8.ofNat n.toNat :: l, ?_⟩
    show _ = [PV.int .u8 ((UInt8.ofNat n.toNat).toNat : Int)] :: bytesOf l
    have : ((UInt8.ofNat n.toNat).toNat : Int) = n := by simp; omega
    rw [this]
theorem law_reads (pvss : List (List PV)) (hw : wts [(.sl 1 1 (.int .u8)), (.sl 5 48 (.st (.cons 1 .bool (.cons 1 (.int .i64) (.cons 1 (.int .i64) (.cons 1 (.int .i64) (.cons 1 .str .nil))))))), (.int .i64), (.int .i64)] pvss) :
    EvP PR G f_L05_WireReads (argAVs [(.sl 1 1 (.int .u8)), (.sl 5 48 (.st (.cons 1 .bool (.cons 1 (.int .i64) (.cons 1 (.int .i64) (.cons 1 (.int .i64) (.cons 1 .str .nil))))))), (.int .i64), (.int .i64)] pvss) (.c (.p (.bool true))) := by
  obtain ⟨b, _, rfl, hb, hw⟩ := wts_cons hw
  obtain ⟨c, _, rfl, hc, hw⟩ := wts_cons hw
  obtain ⟨x, _, rfl, hx, hw⟩ := wts_cons hw
  obtain ⟨y, _, rfl, hy, hw⟩ := wts_cons hw
  cases wts_nil hw
  obtain ⟨bs, rfl, -, -, hbs⟩ := hb
  obtain ⟨B, rfl⟩ := bytes_of hbs
  obtain ⟨es, rfl, -, hml, hes⟩ := hc
  obtain ⟨l, rfl, hl⟩ := prts_of hes
  obtain ⟨x, rfl, -⟩ := hx
  obtain ⟨y, rfl, -⟩ := hy
  refine reads_ok B l ?_ (fun p hp => (hl p hp).2.2.1) x y
  rw [prts_len] at hml
  exact Nat.lt_of_le_of_lt hml (by decide)
theorem law_back (pvss : List (List PV)) (hw : wts [(.sl 5 48 (.st (.cons 1 .bool (.cons 1 (.int .i64) (.cons 1 (.int .i64) (.cons 1 (.int .i64) (.cons 1 .str .nil)))))))] pvss) :
    EvP PR G f_L05_WireBack (argAVs [(.sl 5 48 (.st (.cons 1 .bool (.cons 1 (.int .i64) (.cons 1 (.int .i64) (.cons 1 (.int .i64) (.cons 1 .str .nil)))))))] pvss) (.c (.p (.bool true))) := by
  obtain ⟨c, _, rfl, hc, hw⟩ := wts_cons hw
  cases wts_nil hw
  obtain ⟨es, rfl, -, hml, hes⟩ := hc
  obtain ⟨l, rfl, hl⟩ := prts_of hes
  refine back_ok l ?_
  rw [prts_len] at hml
  exact Nat.lt_of_le_of_lt hml (by decide)
theorem law_nobody (pvss : List (List PV)) (hw : wts [(.int .i64), (.int .i64), .str] pvss) :
    EvP PR G f_L05_WireNobody (argAVs [(.int .i64), (.int .i64), .str] pvss) (.c (.p (.bool true))) := by
  obtain ⟨a, _, rfl, ha, hw⟩ := wts_cons hw
  obtain ⟨b, _, rfl, hb, hw⟩ := wts_cons hw
  obtain ⟨c, _, rfl, hc, hw⟩ := wts_cons hw
  cases wts_nil hw
  obtain ⟨a, rfl, -⟩ := ha
  obtain ⟨b, rfl, -⟩ := hb
  obtain ⟨c, rfl, -⟩ := hc
  exact nobody_ok a b c
end Go.Ab.S
