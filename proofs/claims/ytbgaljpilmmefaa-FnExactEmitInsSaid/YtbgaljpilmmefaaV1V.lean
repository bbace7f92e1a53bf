import Derived.Test.YtbgaljpilmmefaaV1Mvl
import Derived.Test.YtbgaljpilmmefaaV1T
/- Tables for the walk by value. -/
namespace Go.Proofs.YtbgaljpilmmefaaM
open Go
set_option linter.unusedVariables false
section
variable {st : St} {r t : Nat} {x y : DV}
theorem vg_3 : Γ 3 = some ⟨.int .i64, 1, 8, [Value.int IntKind.i64 0]⟩ := nr rfl
theorem vz_3 : tz Γ 3 = some (false, 1) := nr rfl
theorem v0_3 : zero2 Γ 3 = some (.int .i64 0) := nr rfl
attribute [go_sem] vg_3 vz_3 v0_3
theorem vg_4 : Γ 4 = some ⟨.bool, 1, 1, [Value.bool false]⟩ := nr rfl
theorem vz_4 : tz Γ 4 = some (false, 1) := nr rfl
theorem v0_4 : zero2 Γ 4 = some (.bool false) := nr rfl
attribute [go_sem] vg_4 vz_4 v0_4
theorem vg_5 : Γ 5 = some ⟨.int .u8, 1, 1, [Value.int IntKind.u8 0]⟩ := nr rfl
theorem vz_5 : tz Γ 5 = some (false, 1) := nr rfl
theorem v0_5 : zero2 Γ 5 = some (.int .u8 0) := nr rfl
attribute [go_sem] vg_5 vz_5 v0_5
theorem vg_9 : Γ 9 = some ⟨.str, 1, 16, [Value.string ByteArray.empty]⟩ := nr rfl
theorem vz_9 : tz Γ 9 = some (false, 1) := nr rfl
theorem v0_9 : zero2 Γ 9 = some (.str .empty) := nr rfl
attribute [go_sem] vg_9 vz_9 v0_9
theorem vg_25 : Γ 25 = some ⟨.struct [(0, 3), (1, 3), (2, 3), (3, 3), (4, 3)], 5, 40, [Value.int IntKind.i64 0, Value.int IntKind.i64 0, Value.int IntKind.i64 0, Value.int IntKind.i64 0, Value.int IntKind.i64 0]⟩ := nr rfl
theorem vz_25 : tz Γ 25 = some (true, 5) := nr rfl
theorem v0_25 : zero2 Γ 25 = some (.agg [(.int .i64 0), (.int .i64 0), (.int .i64 0), (.int .i64 0), (.int .i64 0)]) := nr rfl
theorem vb_25 {ps : List (Nat × Operand)} : bd2 Γ st 25 ps = (bdF Γ [(0, 3), (1, 3), (2, 3), (3, 3), (4, 3)] (([(.int .i64 0), (.int .i64 0), (.int .i64 0), (.int .i64 0), (.int .i64 0)] : List FV).map .fv) (ps.map fun p => (p.1, ev2 st p.2))).map mkA := bd2_eq vg_25 v0_25 (nr rfl)
attribute [go_sem] vg_25 vz_25 v0_25 vb_25
theorem vg_28 : Γ 28 = some ⟨.slice 5, 1, 24, [Value.slice none 0 0]⟩ := nr rfl
theorem vz_28 : tz Γ 28 = some (false, 1) := nr rfl
theorem v0_28 : zero2 Γ 28 = some .nil := nr rfl
theorem v1_28 : es1 Γ 28 = some 1 := nr rfl
theorem vm_28 : ms2 Γ st r 28 x y = msA st r 1 (zero2 Γ 5) x y := ms2_eq v1_28 vg_28
attribute [go_sem] vg_28 vz_28 v0_28 v1_28 vm_28
theorem vg_39 : Γ 39 = some ⟨.slice 25, 1, 24, [Value.slice none 0 0]⟩ := nr rfl
theorem vz_39 : tz Γ 39 = some (false, 1) := nr rfl
theorem v0_39 : zero2 Γ 39 = some .nil := nr rfl
theorem v1_39 : es1 Γ 39 = some 5 := nr rfl
theorem vm_39 : ms2 Γ st r 39 x y = msA st r 5 (zero2 Γ 25) x y := ms2_eq v1_39 vg_39
attribute [go_sem] vg_39 vz_39 v0_39 v1_39 vm_39
theorem vg_47 : Γ 47 = some ⟨.struct [(0, 3), (1, 3), (2, 3), (3, 3), (4, 3)], 5, 40, [Value.int IntKind.i64 0, Value.int IntKind.i64 0, Value.int IntKind.i64 0, Value.int IntKind.i64 0, Value.int IntKind.i64 0]⟩ := nr rfl
theorem vz_47 : tz Γ 47 = some (true, 5) := nr rfl
theorem v0_47 : zero2 Γ 47 = some (.agg [(.int .i64 0), (.int .i64 0), (.int .i64 0), (.int .i64 0), (.int .i64 0)]) := nr rfl
theorem vb_47 {ps : List (Nat × Operand)} : bd2 Γ st 47 ps = (bdF Γ [(0, 3), (1, 3), (2, 3), (3, 3), (4, 3)] (([(.int .i64 0), (.int .i64 0), (.int .i64 0), (.int .i64 0), (.int .i64 0)] : List FV).map .fv) (ps.map fun p => (p.1, ev2 st p.2))).map mkA := bd2_eq vg_47 v0_47 (nr rfl)
attribute [go_sem] vg_47 vz_47 v0_47 vb_47
theorem vg_49 : Γ 49 = some ⟨.struct [(0, 3), (1, 3), (2, 3), (3, 3), (4, 3)], 5, 40, [Value.int IntKind.i64 0, Value.int IntKind.i64 0, Value.int IntKind.i64 0, Value.int IntKind.i64 0, Value.int IntKind.i64 0]⟩ := nr rfl
theorem vz_49 : tz Γ 49 = some (true, 5) := nr rfl
theorem v0_49 : zero2 Γ 49 = some (.agg [(.int .i64 0), (.int .i64 0), (.int .i64 0), (.int .i64 0), (.int .i64 0)]) := nr rfl
theorem vb_49 {ps : List (Nat × Operand)} : bd2 Γ st 49 ps = (bdF Γ [(0, 3), (1, 3), (2, 3), (3, 3), (4, 3)] (([(.int .i64 0), (.int .i64 0), (.int .i64 0), (.int .i64 0), (.int .i64 0)] : List FV).map .fv) (ps.map fun p => (p.1, ev2 st p.2))).map mkA := bd2_eq vg_49 v0_49 (nr rfl)
attribute [go_sem] vg_49 vz_49 v0_49 vb_49
theorem vg_56 : Γ 56 = some ⟨.slice 3, 1, 24, [Value.slice none 0 0]⟩ := nr rfl
theorem vz_56 : tz Γ 56 = some (false, 1) := nr rfl
theorem v0_56 : zero2 Γ 56 = some .nil := nr rfl
theorem v1_56 : es1 Γ 56 = some 1 := nr rfl
theorem vm_56 : ms2 Γ st r 56 x y = msA st r 1 (zero2 Γ 3) x y := ms2_eq v1_56 vg_56
attribute [go_sem] vg_56 vz_56 v0_56 v1_56 vm_56
end
end Go.Proofs.YtbgaljpilmmefaaM
