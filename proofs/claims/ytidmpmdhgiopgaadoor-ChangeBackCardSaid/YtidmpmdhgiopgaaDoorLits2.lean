/- What the functions' code comes to, looked up in the program's tables. No condition. -/
import Derived.Test.YtidmpmdhgiopgaaDoorLits1
set_option linter.unusedSimpArgs false
set_option linter.unusedVariables false
namespace Go.Ab.S
open Go Go.Ab Go.Proofs
abbrev f_tagset_Each_1 : Nat := 141
def s_tagset_Each_1 : SF := ⟨2, 16, [], (.seq (.reg false [⟨(some 4), (.load false 1 (.t 1)), none⟩, ⟨(some 3), (.move (.t 4)), none⟩]) (.block 0 (.loop (.seq (.seq (.reg false [⟨(some 5), (.move (.t 3)), none⟩, ⟨(some 6), (.eq false .int (.t 5) (.v (.c (.p (.int .u16 0))))), none⟩]) (.cond (.t 6) .skip (.exit 0))) (.seq (.block 1 (.seq (.reg false [⟨(some 11), (.move (.t 0)), none⟩, ⟨(some 12), (.move (.t 3)), none⟩, ⟨(some 13), (.call true (.v (.c (.fn 142 []))) [(.t 12)]), none⟩, ⟨(some 14), (.call false (.t 11) [(.t 13)]), none⟩, ⟨(some 15), (.un .not (.t 14)), none⟩]) (.cond (.t 15) .ret .skip))) (.reg false [⟨(some 7), (.move (.t 3)), none⟩, ⟨(some 8), (.move (.t 3)), none⟩, ⟨(some 9), (.bin .sub (.t 8) (.v (.c (.p (.int .u16 1))))), none⟩, ⟨(some 10), (.bin .and (.t 7) (.t 9)), none⟩, ⟨(some 3), (.move (.t 10)), none⟩]))))))⟩
theorem c_tagset_Each_1 : compF Tryd.prog f_tagset_Each_1 = some s_tagset_Each_1 := by kernel_rfl
abbrev f_math_bits_TrailingZeros16 : Nat := 142
def s_math_bits_TrailingZeros16 : SF := ⟨1, 15, [(.t 2)], (.seq (.reg false [⟨(some 2), (.move (.v (.c (.p (.int .i64 0))))), none⟩]) (.seq (.seq (.reg false [⟨(some 3), (.move (.t 0)), none⟩, ⟨(some 4), (.eq true .int (.t 3) (.v (.c (.p (.int .u16 0))))), none⟩]) (.cond (.t 4) (.seq (.reg false [⟨(some 2), (.move (.v (.c (.p (.int .i64 16))))), none⟩]) .ret) .skip)) (.seq (.reg false [⟨(some 5), (.move (.t 0)), none⟩, ⟨(some 6), (.move (.t 0)), none⟩, ⟨(some 7), (.un .neg (.t 6)), none⟩, ⟨(some 8), (.bin .and (.t 5) (.t 7)), none⟩, ⟨(some 9), (.cInt .u32 (.t 8)), none⟩, ⟨(some 10), (.bin .mul (.t 9) (.v (.c (.p (.int .u32 125613361))))), none⟩, ⟨(some 11), (.sh .shr (.t 10) (.v (.c (.p (.int .u64 27))))), none⟩, ⟨(some 12), (.ixArr 32 1 (.g 0) (.t 11)), none⟩, ⟨(some 13), (.load false 1 (.t 12)), none⟩, ⟨(some 14), (.cInt .i64 (.t 13)), none⟩, ⟨(some 2), (.move (.t 14)), none⟩]) .ret)))⟩
theorem c_math_bits_TrailingZeros16 : compF Tryd.prog f_math_bits_TrailingZeros16 = some s_math_bits_TrailingZeros16 := by kernel_rfl
abbrev f_graph_Down : Nat := 143
def s_graph_Down : SF := ⟨3, 18, [(.t 6)], (.seq (.reg false [⟨(some 3), (.box (.t 0)), none⟩, ⟨(some 5), (.box (.t 2)), none⟩, ⟨(some 6), (.move (.v (.c (.p (.int .u16 0))))), none⟩]) (.seq (.reg false [⟨(some 7), (.alloc (.row [(.int .u16 0)])), none⟩]) (.seq (.reg false [⟨(some 8), (.alloc (.row [.nilf])), none⟩]) (.seq (.reg false [⟨(some 10), (.fn 163 [(.t 5), (.t 7), (.t 3), (.t 8)]), none⟩, ⟨none, (.store 1 (.t 8) (.t 10)), none⟩]) (.seq (.seq (.reg false [⟨(some 11), (.move (.t 1)), none⟩, ⟨(some 12), (.call false (.v (.c (.fn 101 []))) [(.t 11)]), none⟩]) (.block 0 (.rf (.t 12) [13] (.reg false [⟨(some 9), (.move (.t 13)), none⟩]) (.block 1 (.reg false [⟨(some 14), (.load false 1 (.t 8)), none⟩, ⟨(some 15), (.move (.t 9)), none⟩, ⟨(some 16), (.call false (.t 14) [(.t 15)]), none⟩]))))) (.seq (.reg false [⟨(some 17), (.load false 1 (.t 7)), none⟩, ⟨(some 6), (.move (.t 17)), none⟩]) .ret))))))⟩
theorem c_graph_Down : compF Tryd.prog f_graph_Down = some s_graph_Down := by kernel_rfl
abbrev f_wire_Reader_take : Nat := 146
def s_wire_Reader_take : SF := ⟨2, 37, [(.t 4)], (.seq (.reg false [⟨(some 4), (.move (.v (.c .nils))), none⟩]) (.seq (.seq (.reg false [⟨(some 6), (.move (.t 1)), none⟩, ⟨(some 7), (.move (.t 0)), none⟩, ⟨(some 8), (.chk (.t 7)), none⟩, ⟨(some 9), (.fld 1 (.t 8)), none⟩, ⟨(some 10), (.load false 1 (.t 9)), none⟩, ⟨(some 11), (.len false (.t 10)), none⟩, ⟨(some 12), (.bin .gtr (.t 6) (.t 11)), none⟩]) (.cond (.t 12) (.reg false [⟨(some 13), (.move (.t 0)), none⟩, ⟨(some 14), (.call false (.v (.c (.fn 109 []))) [(.t 13), (.v (.c (.p (.int .i64 4))))]), none⟩]) .skip)) (.seq (.seq (.reg false [⟨(some 15), (.move (.t 0)), none⟩, ⟨(some 16), (.chk (.t 15)), none⟩, ⟨(some 17), (.fld 0 (.t 16)), none⟩, ⟨(some 18), (.fld 0 (.t 17)), none⟩, ⟨(some 19), (.load false 1 (.t 18)), none⟩, ⟨(some 20), (.eq false .int (.t 19) (.v (.c (.p (.int .i64 0))))), none⟩]) (.cond (.t 20) (.seq (.reg false [⟨(some 4), (.move (.v (.c .nils))), none⟩]) .ret) .skip)) (.seq (.reg false [⟨(some 21), (.move (.t 0)), none⟩, ⟨(some 22), (.chk (.t 21)), none⟩, ⟨(some 23), (.fld 1 (.t 22)), none⟩, ⟨(some 24), (.load false 1 (.t 23)), none⟩, ⟨(some 25), (.move (.t 1)), none⟩, ⟨(some 26), (.slSl 1 (.t 24) none (some (.t 25)) none), none⟩, ⟨(some 5), (.move (.t 26)), none⟩]) (.seq (.reg false [⟨(some 27), (.move (.t 0)), none⟩, ⟨(some 28), (.move (.t 0)), none⟩, ⟨(some 29), (.chk (.t 28)), none⟩, ⟨(some 30), (.fld 1 (.t 29)), none⟩, ⟨(some 31), (.load false 1 (.t 30)), none⟩, ⟨(some 32), (.move (.t 1)), none⟩, ⟨(some 33), (.slSl 1 (.t 31) (some (.t 32)) none none), none⟩, ⟨(some 34), (.chk (.t 27)), none⟩, ⟨(some 35), (.fld 1 (.t 34)), none⟩, ⟨none, (.store 1 (.t 35) (.t 33)), none⟩]) (.seq (.reg false [⟨(some 36), (.move (.t 5)), none⟩, ⟨(some 4), (.move (.t 36)), none⟩]) .ret))))))⟩
theorem c_wire_Reader_take : compF Tryd.prog f_wire_Reader_take = some s_wire_Reader_take := by kernel_rfl
abbrev f_wire_fault_fail : Nat := 147
def s_wire_fault_fail : SF := ⟨2, 13, [], (.seq (.reg false [⟨(some 4), (.move (.t 0)), none⟩, ⟨(some 5), (.chk (.t 4)), none⟩, ⟨(some 6), (.fld 0 (.t 5)), none⟩, ⟨(some 7), (.load false 1 (.t 6)), none⟩, ⟨(some 8), (.eq true .int (.t 7) (.v (.c (.p (.int .i64 0))))), none⟩]) (.cond (.t 8) (.reg false [⟨(some 9), (.move (.t 0)), none⟩, ⟨(some 10), (.move (.t 1)), none⟩, ⟨(some 11), (.chk (.t 9)), none⟩, ⟨(some 12), (.fld 0 (.t 11)), none⟩, ⟨none, (.store 1 (.t 12) (.t 10)), none⟩]) .skip))⟩
theorem c_wire_fault_fail : compF Tryd.prog f_wire_fault_fail = some s_wire_fault_fail := by kernel_rfl
abbrev f_wire_most : Nat := 148
def s_wire_most : SF := ⟨1, 7, [(.t 2)], (.seq (.reg false [⟨(some 2), (.move (.v (.c (.p (.int .i64 0))))), none⟩]) (.seq (.reg false [⟨(some 3), (.move (.t 0)), none⟩, ⟨(some 4), (.bin .mul (.v (.c (.p (.int .i64 8)))) (.t 3)), none⟩, ⟨(some 5), (.sh .shl (.v (.c (.p (.int .i64 1)))) (.t 4)), none⟩, ⟨(some 6), (.bin .sub (.t 5) (.v (.c (.p (.int .i64 1))))), none⟩, ⟨(some 2), (.move (.t 6)), none⟩]) .ret))⟩
theorem c_wire_most : compF Tryd.prog f_wire_most = some s_wire_most := by kernel_rfl
abbrev f_bytes_Clone : Nat := 149
def s_bytes_Clone : SF := ⟨1, 8, [(.t 2)], (.seq (.reg false [⟨(some 2), (.move (.v (.c .nils))), none⟩]) (.seq (.seq (.reg false [⟨(some 3), (.move (.t 0)), none⟩, ⟨(some 4), (.isnil true (.t 3)), none⟩]) (.cond (.t 4) (.seq (.reg false [⟨(some 2), (.move (.v (.c .nils))), none⟩]) .ret) .skip)) (.seq (.reg false [⟨(some 5), (.lit 1 []), none⟩, ⟨(some 6), (.move (.t 0)), none⟩, ⟨(some 7), (.app 1 1 false (.t 5) (.t 6)), none⟩, ⟨(some 2), (.move (.t 7)), none⟩]) .ret)))⟩
theorem c_bytes_Clone : compF Tryd.prog f_bytes_Clone = some s_bytes_Clone := by kernel_rfl
abbrev f_relabel_stays : Nat := 150
def s_relabel_stays : SF := ⟨2, 19, [(.t 4)], (.seq (.reg false [⟨(some 2), (.box (.t 0)), none⟩, ⟨(some 4), (.move (.v (.c (.p (.bool false))))), none⟩]) (.seq (.reg false [⟨(some 5), (.move (.t 1)), none⟩, ⟨(some 6), (.bin .geq (.t 5) (.v (.c (.p (.int .i64 0))))), none⟩, ⟨(some 7), (.move (.t 6)), none⟩, ⟨(some 8), (.move (.t 1)), (some (7, true))⟩, ⟨(some 9), (.bin .lss (.t 8) (.v (.c (.p (.int .i64 16))))), (some (7, true))⟩, ⟨(some 10), (.pick (.t 7) (.t 9) (.v (.c (.p (.bool false))))), none⟩, ⟨(some 11), (.move (.t 10)), none⟩, ⟨(some 12), (.move (.t 1)), (some (11, true))⟩, ⟨(some 13), (.ixArr 16 1 (.t 2) (.t 12)), (some (11, true))⟩, ⟨(some 14), (.load false 1 (.t 13)), (some (11, true))⟩, ⟨(some 15), (.cInt .i64 (.t 14)), (some (11, true))⟩, ⟨(some 16), (.move (.t 1)), (some (11, true))⟩, ⟨(some 17), (.eq true .int (.t 15) (.t 16)), (some (11, true))⟩, ⟨(some 18), (.pick (.t 11) (.t 17) (.v (.c (.p (.bool false))))), none⟩, ⟨(some 4), (.move (.t 18)), none⟩]) .ret))⟩
theorem c_relabel_stays : compF Tryd.prog f_relabel_stays = some s_relabel_stays := by kernel_rfl
abbrev f_change_live : Nat := 161
def s_change_live : SF := ⟨2, 19, [(.t 4)], (.seq (.reg false [⟨(some 2), (.box (.t 0)), none⟩, ⟨(some 4), (.move (.v (.c (.p (.bool false))))), none⟩]) (.seq (.seq (.reg false [⟨(some 7), (.move (.t 1)), none⟩, ⟨(some 8), (.len false (.t 7)), none⟩, ⟨(some 9), (.move (.v (.c (.p (.int .i64 0))))), none⟩]) (.block 0 (.loop (.seq (.reg false [⟨(some 10), (.bin .lss (.t 9) (.t 8)), none⟩]) (.seq (.cond (.t 10) .skip (.exit 0)) (.seq (.block 1 (.seq (.reg false [⟨(some 11), (.ixSl 1 (.t 7) (.t 9)), none⟩, ⟨(some 12), (.load false 1 (.t 11)), none⟩, ⟨(some 6), (.move (.t 12)), none⟩]) (.seq (.reg false [⟨(some 13), (.fld 0 (.t 2)), none⟩, ⟨(some 14), (.load false 1 (.t 13)), none⟩, ⟨(some 15), (.move (.t 6)), none⟩, ⟨(some 16), (.call true (.v (.c (.fn 107 []))) [(.t 14), (.t 15)]), none⟩, ⟨(some 17), (.un .not (.t 16)), none⟩]) (.cond (.t 17) (.seq (.reg false [⟨(some 4), (.move (.v (.c (.p (.bool false))))), none⟩]) .ret) .skip)))) (.reg false [⟨(some 18), (.bin .add (.t 9) (.v (.c (.p (.int .i64 1))))), none⟩, ⟨(some 9), (.move (.t 18)), none⟩]))))))) (.seq (.reg false [⟨(some 4), (.move (.v (.c (.p (.bool true))))), none⟩]) .ret)))⟩
theorem c_change_live : compF Tryd.prog f_change_live = some s_change_live := by kernel_rfl
abbrev f_policy_Mapped : Nat := 162
def s_policy_Mapped : SF := ⟨2, 34, [(.cell 4 true 66)], (.seq (.reg false [⟨(some 2), (.box (.t 0)), none⟩, ⟨(some 3), (.box (.t 1)), none⟩, ⟨(some 4), (.alloc (.row [(.int .u16 0), (.int .u16 0), (.int .u16 0), (.int .u16 0), (.int .u16 0), (.int .u16 0), (.int .u16 0), (.int .u16 0), (.int .u16 0), (.int .u16 0), (.int .u16 0), (.int .u16 0), (.int .u16 0), (.int .u16 0), (.int .u16 0), (.int .u16 0), (.int .u16 0), (.int .u16 0), (.int .u16 0), (.int .u16 0), (.int .u16 0), (.int .u16 0), (.int .u16 0), (.int .u16 0), (.int .u16 0), (.int .u16 0), (.int .u16 0), (.int .u16 0), (.int .u16 0), (.int .u16 0), (.int .u16 0), (.int .u16 0), (.int .u16 0), (.int .u16 0), (.int .u16 0), (.int .u16 0), (.int .u16 0), (.int .u16 0), (.int .u16 0), (.int .u16 0), (.int .u16 0), (.int .u16 0), (.int .u16 0), (.int .u16 0), (.int .u16 0), (.int .u16 0), (.int .u16 0), (.int .u16 0), (.int .u16 0), (.int .u8 0), (.int .u8 0), (.int .u8 0), (.int .u8 0), (.int .u8 0), (.int .u8 0), (.int .u8 0), (.int .u8 0), (.int .u8 0), (.int .u8 0), (.int .u8 0), (.int .u8 0), (.int .u8 0), (.int .u8 0), (.int .u8 0), (.int .u8 0), (.int .u16 0)])), none⟩]) (.seq (.seq (.reg false [⟨(some 7), (.fld 0 (.t 2)), none⟩, ⟨(some 8), (.load false 1 (.t 7)), none⟩, ⟨(some 9), (.call false (.v (.c (.fn 101 []))) [(.t 8)]), none⟩]) (.block 0 (.rf (.t 9) [10] (.reg false [⟨(some 5), (.move (.t 10)), none⟩]) (.block 1 (.reg true [⟨(some 11), (.move (.t 5)), none⟩, ⟨(some 12), (.load true 16 (.t 3)), none⟩, ⟨(some 13), (.move (.t 5)), none⟩, ⟨(some 14), (.fld 1 (.t 2)), none⟩, ⟨(some 15), (.ixArr 16 2 (.t 14) (.t 13)), none⟩, ⟨(some 16), (.load true 2 (.t 15)), none⟩, ⟨(some 17), (.call true (.v (.c (.fn 37 []))) [(.t 12), (.t 16)]), none⟩, ⟨(some 18), (.fld 1 (.t 2)), none⟩, ⟨(some 19), (.ixArr 16 2 (.t 18) (.t 11)), none⟩, ⟨none, (.store 2 (.t 19) (.t 17)), none⟩]))))) (.seq (.seq (.reg false [⟨(some 20), (.load true 16 (.t 3)), none⟩, ⟨(some 21), (.call true (.v (.c (.fn 124 []))) [(.t 20)]), none⟩, ⟨(some 22), (.call false (.v (.c (.fn 101 []))) [(.t 21)]), none⟩]) (.block 2 (.rf (.t 22) [23] (.reg false [⟨(some 6), (.move (.t 23)), none⟩]) (.block 3 (.reg false [⟨(some 24), (.move (.t 6)), none⟩, ⟨(some 25), (.fld 49 (.t 2)), none⟩, ⟨(some 26), (.ixArr 16 1 (.t 25) (.t 24)), none⟩, ⟨none, (.store 1 (.t 26) (.v (.c (.p (.int .u8 16))))), none⟩]))))) (.seq (.reg true [⟨(some 27), (.fld 65 (.t 2)), none⟩, ⟨(some 28), (.load false 1 (.t 27)), none⟩, ⟨(some 29), (.load true 16 (.t 3)), none⟩, ⟨(some 30), (.call true (.v (.c (.fn 124 []))) [(.t 29)]), none⟩, ⟨(some 31), (.bin .andNot (.t 28) (.t 30)), none⟩, ⟨(some 32), (.fld 65 (.t 2)), none⟩, ⟨none, (.store 1 (.t 32) (.t 31)), none⟩]) (.seq (.reg false [⟨(some 33), (.load true 66 (.t 2)), none⟩, ⟨none, (.store 66 (.t 4) (.t 33)), none⟩]) .ret)))))⟩
theorem c_policy_Mapped : compF Tryd.prog f_policy_Mapped = some s_policy_Mapped := by kernel_rfl
abbrev f_graph_Down_1 : Nat := 163
def s_graph_Down_1 : SF := ⟨5, 28, [], (.seq (.seq (.reg false [⟨(some 7), (.load false 1 (.t 1)), none⟩, ⟨(some 8), (.move (.t 0)), none⟩, ⟨(some 9), (.call true (.v (.c (.fn 107 []))) [(.t 7), (.t 8)]), none⟩, ⟨(some 10), (.un .not (.t 9)), none⟩, ⟨(some 11), (.move (.t 10)), none⟩, ⟨(some 12), (.load false 1 (.t 2)), (some (11, false))⟩, ⟨(some 13), (.move (.t 0)), (some (11, false))⟩, ⟨(some 14), (.call true (.v (.c (.fn 107 []))) [(.t 12), (.t 13)]), (some (11, false))⟩, ⟨(some 15), (.pick (.t 11) (.v (.c (.p (.bool true)))) (.t 14)), none⟩]) (.cond (.t 15) .ret .skip)) (.seq (.reg true [⟨(some 16), (.load false 1 (.t 2)), none⟩, ⟨(some 17), (.move (.t 0)), none⟩, ⟨(some 18), (.sh .shl (.v (.c (.p (.int .u16 1)))) (.t 17)), none⟩, ⟨(some 19), (.bin .or (.t 16) (.t 18)), none⟩, ⟨none, (.store 1 (.t 2) (.t 19)), none⟩]) (.seq (.reg false [⟨(some 20), (.move (.t 0)), none⟩, ⟨(some 21), (.ixArr 16 1 (.t 3) (.t 20)), none⟩, ⟨(some 22), (.load false 1 (.t 21)), none⟩, ⟨(some 23), (.call false (.v (.c (.fn 101 []))) [(.t 22)]), none⟩]) (.block 0 (.rf (.t 23) [24] (.reg false [⟨(some 6), (.move (.t 24)), none⟩]) (.block 1 (.reg false [⟨(some 25), (.load false 1 (.t 4)), none⟩, ⟨(some 26), (.move (.t 6)), none⟩, ⟨(some 27), (.call false (.t 25) [(.t 26)]), none⟩])))))))⟩
theorem c_graph_Down_1 : compF Tryd.prog f_graph_Down_1 = some s_graph_Down_1 := by kernel_rfl
def tab : FuncId → Option SF
  | 17 => some s_R04_Made
  | 37 => some s_relabel_Label
  | 47 => some s_label_Top
  | 59 => some s_policy_Fine
  | 72 => some s_R04_Same
  | 73 => some s_R04_Move
  | 75 => some s_R04_Label
  | 83 => some s_policy_First
  | 84 => some s_label_Bottom
  | 89 => some s_R04_Set
  | 95 => some s_tagset_Sub
  | 96 => some s_relabel_Set
  | 101 => some s_tagset_Each
  | 102 => some s_label_Flows
  | 107 => some s_tagset_Has
  | 115 => some s_relabel_Same
  | 116 => some s_relabel_Move
  | 123 => some s_label_Tags
  | 124 => some s_relabel_Moved
  | 128 => some s_R04_Moved
  | 132 => some s_tagset_Of
  | 141 => some s_tagset_Each_1
  | 150 => some s_relabel_stays
  | _ => none
set_option maxRecDepth 100000 in
theorem tab_ok (g : FuncId) (sf : SF) (h : tab g = some sf) : compF Tryd.prog g = some sf := by
  unfold tab at h
  split at h
  · rw [← h]; exact c_R04_Made
  · rw [← h]; exact c_relabel_Label
  · rw [← h]; exact c_label_Top
  · rw [← h]; exact c_policy_Fine
  · rw [← h]; exact c_R04_Same
  · rw [← h]; exact c_R04_Move
  · rw [← h]; exact c_R04_Label
  · rw [← h]; exact c_policy_First
  · rw [← h]; exact c_label_Bottom
  · rw [← h]; exact c_R04_Set
  · rw [← h]; exact c_tagset_Sub
  · rw [← h]; exact c_relabel_Set
  · rw [← h]; exact c_tagset_Each
  · rw [← h]; exact c_label_Flows
  · rw [← h]; exact c_tagset_Has
  · rw [← h]; exact c_relabel_Same
  · rw [← h]; exact c_relabel_Move
  · rw [← h]; exact c_label_Tags
  · rw [← h]; exact c_relabel_Moved
  · rw [← h]; exact c_R04_Moved
  · rw [← h]; exact c_tagset_Of
  · rw [← h]; exact c_tagset_Each_1
  · rw [← h]; exact c_relabel_stays
  · cases h
end Go.Ab.S
