import Derived.Test.YtjkcliabfboecaaV8Mvl
import Derived.Test.YtjkcliabfboecaaV8T
/- Tables for the walk by value. -/
namespace Go.Proofs.YtjkcliabfboecaaM
open Go
set_option linter.unusedVariables false
section
variable {st : St} {r t : Nat} {x y : DV}
theorem vg_3 : Γ 3 = some ⟨.int .i64, 1, 8, [Value.int IntKind.i64 0]⟩ := nr rfl
theorem vz_3 : tz Γ 3 = some (false, 1) := nr rfl
theorem v0_3 : zero2 Γ 3 = some (.int .i64 0) := nr rfl
attribute [go_sem] vg_3 vz_3 v0_3
theorem vg_4 : Γ 4 = some ⟨.bool, 1, 1, [Value.bool false]⟩ := nr rfl
theorem vz_4 : tz Γ 4 = some (false, 1) := nr rfl
theorem v0_4 : zero2 Γ 4 = some (.bool false) := nr rfl
attribute [go_sem] vg_4 vz_4 v0_4
theorem vg_5 : Γ 5 = some ⟨.int .u8, 1, 1, [Value.int IntKind.u8 0]⟩ := nr rfl
theorem vz_5 : tz Γ 5 = some (false, 1) := nr rfl
theorem v0_5 : zero2 Γ 5 = some (.int .u8 0) := nr rfl
attribute [go_sem] vg_5 vz_5 v0_5
theorem vg_9 : Γ 9 = some ⟨.str, 1, 16, [Value.string ByteArray.empty]⟩ := nr rfl
theorem vz_9 : tz Γ 9 = some (false, 1) := nr rfl
theorem v0_9 : zero2 Γ 9 = some (.str .empty) := nr rfl
attribute [go_sem] vg_9 vz_9 v0_9
theorem vg_22 : Γ 22 = some ⟨.slice 78, 1, 24, [Value.slice none 0 0]⟩ := nr rfl
theorem vz_22 : tz Γ 22 = some (false, 1) := nr rfl
theorem v0_22 : zero2 Γ 22 = some .nil := nr rfl
theorem v1_22 : es1 Γ 22 = some 6 := nr rfl
theorem vm_22 : ms2 Γ st r 22 x y = msA st r 6 (zero2 Γ 78) x y := ms2_eq v1_22 vg_22
theorem va_22 {z : Nat} {v : List FV} : anE Γ .eql 22 (.fv (.row z v)) (.fv .nil) = v.isEmpty := anE_row vg_22
theorem vreql_22 {z : Nat} {v : List FV} : bin2 Γ E .eql 22 (.fv (.row z v)) (.fv .nil) = if v.isEmpty = true then none else some (.fv (.bool false)) := by
  show (if v.isEmpty = true then none else some false).map _ = _
  split <;> rfl
theorem vheql_22 {p : Pt} {z n : Nat} : bin2 Γ E .eql 22 (.hdr p z n) (.fv .nil) = some (.fv (.bool false)) := nr rfl
theorem vneql_22 : bin2 Γ E .eql 22 (.fv .nil) (.fv .nil) = some (.fv (.bool true)) := nr rfl
theorem vrneq_22 {z : Nat} {v : List FV} : bin2 Γ E .neq 22 (.fv (.row z v)) (.fv .nil) = if v.isEmpty = true then none else some (.fv (.bool true)) := by
  show (if v.isEmpty = true then none else some false).map _ = _
  split <;> rfl
theorem vhneq_22 {p : Pt} {z n : Nat} : bin2 Γ E .neq 22 (.hdr p z n) (.fv .nil) = some (.fv (.bool true)) := nr rfl
theorem vnneq_22 : bin2 Γ E .neq 22 (.fv .nil) (.fv .nil) = some (.fv (.bool false)) := nr rfl
attribute [go_sem] vg_22 vz_22 v0_22 v1_22 vm_22 va_22 vreql_22 vheql_22 vneql_22 vrneq_22 vhneq_22 vnneq_22
theorem vg_24 : Γ 24 = some ⟨.struct [(0, 22), (1, 3)], 2, 32, [Value.slice none 0 0, Value.int IntKind.i64 0]⟩ := nr rfl
theorem vz_24 : tz Γ 24 = some (true, 2) := nr rfl
theorem v0_24 : zero2 Γ 24 = some (.agg [.nil, (.int .i64 0)]) := nr rfl
theorem vb_24 {ps : List (Nat × Operand)} : bd2 Γ st 24 ps = (bdF Γ [(0, 22), (1, 3)] (([.nil, (.int .i64 0)] : List FV).map .fv) (ps.map fun p => (p.1, ev2 st p.2))).map mkA := bd2_eq vg_24 v0_24 (nr rfl)
attribute [go_sem] vg_24 vz_24 v0_24 vb_24
theorem vg_25 : Γ 25 = some ⟨.slice 3, 1, 24, [Value.slice none 0 0]⟩ := nr rfl
theorem vz_25 : tz Γ 25 = some (false, 1) := nr rfl
theorem v0_25 : zero2 Γ 25 = some .nil := nr rfl
theorem v1_25 : es1 Γ 25 = some 1 := nr rfl
theorem vm_25 : ms2 Γ st r 25 x y = msA st r 1 (zero2 Γ 3) x y := ms2_eq v1_25 vg_25
theorem va_25 {z : Nat} {v : List FV} : anE Γ .eql 25 (.fv (.row z v)) (.fv .nil) = v.isEmpty := anE_row vg_25
theorem vreql_25 {z : Nat} {v : List FV} : bin2 Γ E .eql 25 (.fv (.row z v)) (.fv .nil) = if v.isEmpty = true then none else some (.fv (.bool false)) := by
  show (if v.isEmpty = true then none else some false).map _ = _
  split <;> rfl
theorem vheql_25 {p : Pt} {z n : Nat} : bin2 Γ E .eql 25 (.hdr p z n) (.fv .nil) = some (.fv (.bool false)) := nr rfl
theorem vneql_25 : bin2 Γ E .eql 25 (.fv .nil) (.fv .nil) = some (.fv (.bool true)) := nr rfl
theorem vrneq_25 {z : Nat} {v : List FV} : bin2 Γ E .neq 25 (.fv (.row z v)) (.fv .nil) = if v.isEmpty = true then none else some (.fv (.bool true)) := by
  show (if v.isEmpty = true then none else some false).map _ = _
  split <;> rfl
theorem vhneq_25 {p : Pt} {z n : Nat} : bin2 Γ E .neq 25 (.hdr p z n) (.fv .nil) = some (.fv (.bool true)) := nr rfl
theorem vnneq_25 : bin2 Γ E .neq 25 (.fv .nil) (.fv .nil) = some (.fv (.bool false)) := nr rfl
attribute [go_sem] vg_25 vz_25 v0_25 v1_25 vm_25 va_25 vreql_25 vheql_25 vneql_25 vrneq_25 vhneq_25 vnneq_25
theorem vg_28 : Γ 28 = some ⟨.slice 63, 1, 24, [Value.slice none 0 0]⟩ := nr rfl
theorem vz_28 : tz Γ 28 = some (false, 1) := nr rfl
theorem v0_28 : zero2 Γ 28 = some .nil := nr rfl
theorem v1_28 : es1 Γ 28 = some 6 := nr rfl
theorem vm_28 : ms2 Γ st r 28 x y = msA st r 6 (zero2 Γ 63) x y := ms2_eq v1_28 vg_28
theorem va_28 {z : Nat} {v : List FV} : anE Γ .eql 28 (.fv (.row z v)) (.fv .nil) = v.isEmpty := anE_row vg_28
theorem vreql_28 {z : Nat} {v : List FV} : bin2 Γ E .eql 28 (.fv (.row z v)) (.fv .nil) = if v.isEmpty = true then none else some (.fv (.bool false)) := by
  show (if v.isEmpty = true then none else some false).map _ = _
  split <;> rfl
theorem vheql_28 {p : Pt} {z n : Nat} : bin2 Γ E .eql 28 (.hdr p z n) (.fv .nil) = some (.fv (.bool false)) := nr rfl
theorem vneql_28 : bin2 Γ E .eql 28 (.fv .nil) (.fv .nil) = some (.fv (.bool true)) := nr rfl
theorem vrneq_28 {z : Nat} {v : List FV} : bin2 Γ E .neq 28 (.fv (.row z v)) (.fv .nil) = if v.isEmpty = true then none else some (.fv (.bool true)) := by
  show (if v.isEmpty = true then none else some false).map _ = _
  split <;> rfl
theorem vhneq_28 {p : Pt} {z n : Nat} : bin2 Γ E .neq 28 (.hdr p z n) (.fv .nil) = some (.fv (.bool true)) := nr rfl
theorem vnneq_28 : bin2 Γ E .neq 28 (.fv .nil) (.fv .nil) = some (.fv (.bool false)) := nr rfl
attribute [go_sem] vg_28 vz_28 v0_28 v1_28 vm_28 va_28 vreql_28 vheql_28 vneql_28 vrneq_28 vhneq_28 vnneq_28
theorem vg_30 : Γ 30 = some ⟨.struct [(0, 28), (1, 3)], 2, 32, [Value.slice none 0 0, Value.int IntKind.i64 0]⟩ := nr rfl
theorem vz_30 : tz Γ 30 = some (true, 2) := nr rfl
theorem v0_30 : zero2 Γ 30 = some (.agg [.nil, (.int .i64 0)]) := nr rfl
theorem vb_30 {ps : List (Nat × Operand)} : bd2 Γ st 30 ps = (bdF Γ [(0, 28), (1, 3)] (([.nil, (.int .i64 0)] : List FV).map .fv) (ps.map fun p => (p.1, ev2 st p.2))).map mkA := bd2_eq vg_30 v0_30 (nr rfl)
attribute [go_sem] vg_30 vz_30 v0_30 vb_30
theorem vg_45 : Γ 45 = some ⟨.slice 54, 1, 24, [Value.slice none 0 0]⟩ := nr rfl
theorem vz_45 : tz Γ 45 = some (false, 1) := nr rfl
theorem v0_45 : zero2 Γ 45 = some .nil := nr rfl
theorem v1_45 : es1 Γ 45 = some 1 := nr rfl
theorem vm_45 : ms2 Γ st r 45 x y = msA st r 1 (zero2 Γ 54) x y := ms2_eq v1_45 vg_45
theorem va_45 {z : Nat} {v : List FV} : anE Γ .eql 45 (.fv (.row z v)) (.fv .nil) = v.isEmpty := anE_row vg_45
theorem vreql_45 {z : Nat} {v : List FV} : bin2 Γ E .eql 45 (.fv (.row z v)) (.fv .nil) = if v.isEmpty = true then none else some (.fv (.bool false)) := by
  show (if v.isEmpty = true then none else some false).map _ = _
  split <;> rfl
theorem vheql_45 {p : Pt} {z n : Nat} : bin2 Γ E .eql 45 (.hdr p z n) (.fv .nil) = some (.fv (.bool false)) := nr rfl
theorem vneql_45 : bin2 Γ E .eql 45 (.fv .nil) (.fv .nil) = some (.fv (.bool true)) := nr rfl
theorem vrneq_45 {z : Nat} {v : List FV} : bin2 Γ E .neq 45 (.fv (.row z v)) (.fv .nil) = if v.isEmpty = true then none else some (.fv (.bool true)) := by
  show (if v.isEmpty = true then none else some false).map _ = _
  split <;> rfl
theorem vhneq_45 {p : Pt} {z n : Nat} : bin2 Γ E .neq 45 (.hdr p z n) (.fv .nil) = some (.fv (.bool true)) := nr rfl
theorem vnneq_45 : bin2 Γ E .neq 45 (.fv .nil) (.fv .nil) = some (.fv (.bool false)) := nr rfl
attribute [go_sem] vg_45 vz_45 v0_45 v1_45 vm_45 va_45 vreql_45 vheql_45 vneql_45 vrneq_45 vhneq_45 vnneq_45
theorem vg_53 : Γ 53 = some ⟨.fn, 1, 8, [Value.nilFunc]⟩ := nr rfl
theorem vz_53 : tz Γ 53 = some (false, 1) := nr rfl
attribute [go_sem] vg_53 vz_53
theorem vg_54 : Γ 54 = some ⟨.slice 4, 1, 24, [Value.slice none 0 0]⟩ := nr rfl
theorem vz_54 : tz Γ 54 = some (false, 1) := nr rfl
theorem v0_54 : zero2 Γ 54 = some .nil := nr rfl
theorem v1_54 : es1 Γ 54 = some 1 := nr rfl
theorem vm_54 : ms2 Γ st r 54 x y = msA st r 1 (zero2 Γ 4) x y := ms2_eq v1_54 vg_54
theorem va_54 {z : Nat} {v : List FV} : anE Γ .eql 54 (.fv (.row z v)) (.fv .nil) = v.isEmpty := anE_row vg_54
theorem vreql_54 {z : Nat} {v : List FV} : bin2 Γ E .eql 54 (.fv (.row z v)) (.fv .nil) = if v.isEmpty = true then none else some (.fv (.bool false)) := by
  show (if v.isEmpty = true then none else some false).map _ = _
  split <;> rfl
theorem vheql_54 {p : Pt} {z n : Nat} : bin2 Γ E .eql 54 (.hdr p z n) (.fv .nil) = some (.fv (.bool false)) := nr rfl
theorem vneql_54 : bin2 Γ E .eql 54 (.fv .nil) (.fv .nil) = some (.fv (.bool true)) := nr rfl
theorem vrneq_54 {z : Nat} {v : List FV} : bin2 Γ E .neq 54 (.fv (.row z v)) (.fv .nil) = if v.isEmpty = true then none else some (.fv (.bool true)) := by
  show (if v.isEmpty = true then none else some false).map _ = _
  split <;> rfl
theorem vhneq_54 {p : Pt} {z n : Nat} : bin2 Γ E .neq 54 (.hdr p z n) (.fv .nil) = some (.fv (.bool true)) := nr rfl
theorem vnneq_54 : bin2 Γ E .neq 54 (.fv .nil) (.fv .nil) = some (.fv (.bool false)) := nr rfl
attribute [go_sem] vg_54 vz_54 v0_54 v1_54 vm_54 va_54 vreql_54 vheql_54 vneql_54 vrneq_54 vhneq_54 vnneq_54
theorem vg_58 : Γ 58 = some ⟨.slice 98, 1, 24, [Value.slice none 0 0]⟩ := nr rfl
theorem vz_58 : tz Γ 58 = some (false, 1) := nr rfl
theorem v0_58 : zero2 Γ 58 = some .nil := nr rfl
theorem v1_58 : es1 Γ 58 = some 2 := nr rfl
theorem vm_58 : ms2 Γ st r 58 x y = msA st r 2 (zero2 Γ 98) x y := ms2_eq v1_58 vg_58
theorem va_58 {z : Nat} {v : List FV} : anE Γ .eql 58 (.fv (.row z v)) (.fv .nil) = v.isEmpty := anE_row vg_58
theorem vreql_58 {z : Nat} {v : List FV} : bin2 Γ E .eql 58 (.fv (.row z v)) (.fv .nil) = if v.isEmpty = true then none else some (.fv (.bool false)) := by
  show (if v.isEmpty = true then none else some false).map _ = _
  split <;> rfl
theorem vheql_58 {p : Pt} {z n : Nat} : bin2 Γ E .eql 58 (.hdr p z n) (.fv .nil) = some (.fv (.bool false)) := nr rfl
theorem vneql_58 : bin2 Γ E .eql 58 (.fv .nil) (.fv .nil) = some (.fv (.bool true)) := nr rfl
theorem vrneq_58 {z : Nat} {v : List FV} : bin2 Γ E .neq 58 (.fv (.row z v)) (.fv .nil) = if v.isEmpty = true then none else some (.fv (.bool true)) := by
  show (if v.isEmpty = true then none else some false).map _ = _
  split <;> rfl
theorem vhneq_58 {p : Pt} {z n : Nat} : bin2 Γ E .neq 58 (.hdr p z n) (.fv .nil) = some (.fv (.bool true)) := nr rfl
theorem vnneq_58 : bin2 Γ E .neq 58 (.fv .nil) (.fv .nil) = some (.fv (.bool false)) := nr rfl
attribute [go_sem] vg_58 vz_58 v0_58 v1_58 vm_58 va_58 vreql_58 vheql_58 vneql_58 vrneq_58 vhneq_58 vnneq_58
theorem vg_59 : Γ 59 = some ⟨.slice 69, 1, 24, [Value.slice none 0 0]⟩ := nr rfl
theorem vz_59 : tz Γ 59 = some (false, 1) := nr rfl
theorem v0_59 : zero2 Γ 59 = some .nil := nr rfl
theorem v1_59 : es1 Γ 59 = some 5 := nr rfl
theorem vm_59 : ms2 Γ st r 59 x y = msA st r 5 (zero2 Γ 69) x y := ms2_eq v1_59 vg_59
theorem va_59 {z : Nat} {v : List FV} : anE Γ .eql 59 (.fv (.row z v)) (.fv .nil) = v.isEmpty := anE_row vg_59
theorem vreql_59 {z : Nat} {v : List FV} : bin2 Γ E .eql 59 (.fv (.row z v)) (.fv .nil) = if v.isEmpty = true then none else some (.fv (.bool false)) := by
  show (if v.isEmpty = true then none else some false).map _ = _
  split <;> rfl
theorem vheql_59 {p : Pt} {z n : Nat} : bin2 Γ E .eql 59 (.hdr p z n) (.fv .nil) = some (.fv (.bool false)) := nr rfl
theorem vneql_59 : bin2 Γ E .eql 59 (.fv .nil) (.fv .nil) = some (.fv (.bool true)) := nr rfl
theorem vrneq_59 {z : Nat} {v : List FV} : bin2 Γ E .neq 59 (.fv (.row z v)) (.fv .nil) = if v.isEmpty = true then none else some (.fv (.bool true)) := by
  show (if v.isEmpty = true then none else some false).map _ = _
  split <;> rfl
theorem vhneq_59 {p : Pt} {z n : Nat} : bin2 Γ E .neq 59 (.hdr p z n) (.fv .nil) = some (.fv (.bool true)) := nr rfl
theorem vnneq_59 : bin2 Γ E .neq 59 (.fv .nil) (.fv .nil) = some (.fv (.bool false)) := nr rfl
attribute [go_sem] vg_59 vz_59 v0_59 v1_59 vm_59 va_59 vreql_59 vheql_59 vneql_59 vrneq_59 vhneq_59 vnneq_59
theorem vg_61 : Γ 61 = some ⟨.struct [(0, 3), (1, 3), (2, 3), (3, 3)], 4, 32, [Value.int IntKind.i64 0, Value.int IntKind.i64 0, Value.int IntKind.i64 0, Value.int IntKind.i64 0]⟩ := nr rfl
theorem vz_61 : tz Γ 61 = some (true, 4) := nr rfl
theorem v0_61 : zero2 Γ 61 = some (.agg [(.int .i64 0), (.int .i64 0), (.int .i64 0), (.int .i64 0)]) := nr rfl
theorem vb_61 {ps : List (Nat × Operand)} : bd2 Γ st 61 ps = (bdF Γ [(0, 3), (1, 3), (2, 3), (3, 3)] (([(.int .i64 0), (.int .i64 0), (.int .i64 0), (.int .i64 0)] : List FV).map .fv) (ps.map fun p => (p.1, ev2 st p.2))).map mkA := bd2_eq vg_61 v0_61 (nr rfl)
attribute [go_sem] vg_61 vz_61 v0_61 vb_61
theorem vg_63 : Γ 63 = some ⟨.struct [(0, 58), (1, 59), (2, 61)], 6, 80, [Value.slice none 0 0, Value.slice none 0 0, Value.int IntKind.i64 0, Value.int IntKind.i64 0, Value.int IntKind.i64 0, Value.int IntKind.i64 0]⟩ := nr rfl
theorem vz_63 : tz Γ 63 = some (true, 6) := nr rfl
theorem v0_63 : zero2 Γ 63 = some (.agg [.nil, .nil, (.agg [(.int .i64 0), (.int .i64 0), (.int .i64 0), (.int .i64 0)])]) := nr rfl
theorem vb_63 {ps : List (Nat × Operand)} : bd2 Γ st 63 ps = (bdF Γ [(0, 58), (1, 59), (2, 61)] (([.nil, .nil, (.agg [(.int .i64 0), (.int .i64 0), (.int .i64 0), (.int .i64 0)])] : List FV).map .fv) (ps.map fun p => (p.1, ev2 st p.2))).map mkA := bd2_eq vg_63 v0_63 (nr rfl)
attribute [go_sem] vg_63 vz_63 v0_63 vb_63
theorem vg_69 : Γ 69 = some ⟨.struct [(0, 3), (1, 3), (2, 3), (3, 3), (4, 3)], 5, 40, [Value.int IntKind.i64 0, Value.int IntKind.i64 0, Value.int IntKind.i64 0, Value.int IntKind.i64 0, Value.int IntKind.i64 0]⟩ := nr rfl
theorem vz_69 : tz Γ 69 = some (true, 5) := nr rfl
theorem v0_69 : zero2 Γ 69 = some (.agg [(.int .i64 0), (.int .i64 0), (.int .i64 0), (.int .i64 0), (.int .i64 0)]) := nr rfl
theorem vb_69 {ps : List (Nat × Operand)} : bd2 Γ st 69 ps = (bdF Γ [(0, 3), (1, 3), (2, 3), (3, 3), (4, 3)] (([(.int .i64 0), (.int .i64 0), (.int .i64 0), (.int .i64 0), (.int .i64 0)] : List FV).map .fv) (ps.map fun p => (p.1, ev2 st p.2))).map mkA := bd2_eq vg_69 v0_69 (nr rfl)
attribute [go_sem] vg_69 vz_69 v0_69 vb_69
theorem vg_74 : Γ 74 = some ⟨.slice 120, 1, 24, [Value.slice none 0 0]⟩ := nr rfl
theorem vz_74 : tz Γ 74 = some (false, 1) := nr rfl
theorem v0_74 : zero2 Γ 74 = some .nil := nr rfl
theorem v1_74 : es1 Γ 74 = some 2 := nr rfl
theorem vm_74 : ms2 Γ st r 74 x y = msA st r 2 (zero2 Γ 120) x y := ms2_eq v1_74 vg_74
theorem va_74 {z : Nat} {v : List FV} : anE Γ .eql 74 (.fv (.row z v)) (.fv .nil) = v.isEmpty := anE_row vg_74
theorem vreql_74 {z : Nat} {v : List FV} : bin2 Γ E .eql 74 (.fv (.row z v)) (.fv .nil) = if v.isEmpty = true then none else some (.fv (.bool false)) := by
  show (if v.isEmpty = true then none else some false).map _ = _
  split <;> rfl
theorem vheql_74 {p : Pt} {z n : Nat} : bin2 Γ E .eql 74 (.hdr p z n) (.fv .nil) = some (.fv (.bool false)) := nr rfl
theorem vneql_74 : bin2 Γ E .eql 74 (.fv .nil) (.fv .nil) = some (.fv (.bool true)) := nr rfl
theorem vrneq_74 {z : Nat} {v : List FV} : bin2 Γ E .neq 74 (.fv (.row z v)) (.fv .nil) = if v.isEmpty = true then none else some (.fv (.bool true)) := by
  show (if v.isEmpty = true then none else some false).map _ = _
  split <;> rfl
theorem vhneq_74 {p : Pt} {z n : Nat} : bin2 Γ E .neq 74 (.hdr p z n) (.fv .nil) = some (.fv (.bool true)) := nr rfl
theorem vnneq_74 : bin2 Γ E .neq 74 (.fv .nil) (.fv .nil) = some (.fv (.bool false)) := nr rfl
attribute [go_sem] vg_74 vz_74 v0_74 v1_74 vm_74 va_74 vreql_74 vheql_74 vneql_74 vrneq_74 vhneq_74 vnneq_74
theorem vg_75 : Γ 75 = some ⟨.slice 126, 1, 24, [Value.slice none 0 0]⟩ := nr rfl
theorem vz_75 : tz Γ 75 = some (false, 1) := nr rfl
theorem v0_75 : zero2 Γ 75 = some .nil := nr rfl
theorem v1_75 : es1 Γ 75 = some 5 := nr rfl
theorem vm_75 : ms2 Γ st r 75 x y = msA st r 5 (zero2 Γ 126) x y := ms2_eq v1_75 vg_75
theorem va_75 {z : Nat} {v : List FV} : anE Γ .eql 75 (.fv (.row z v)) (.fv .nil) = v.isEmpty := anE_row vg_75
theorem vreql_75 {z : Nat} {v : List FV} : bin2 Γ E .eql 75 (.fv (.row z v)) (.fv .nil) = if v.isEmpty = true then none else some (.fv (.bool false)) := by
  show (if v.isEmpty = true then none else some false).map _ = _
  split <;> rfl
theorem vheql_75 {p : Pt} {z n : Nat} : bin2 Γ E .eql 75 (.hdr p z n) (.fv .nil) = some (.fv (.bool false)) := nr rfl
theorem vneql_75 : bin2 Γ E .eql 75 (.fv .nil) (.fv .nil) = some (.fv (.bool true)) := nr rfl
theorem vrneq_75 {z : Nat} {v : List FV} : bin2 Γ E .neq 75 (.fv (.row z v)) (.fv .nil) = if v.isEmpty = true then none else some (.fv (.bool true)) := by
  show (if v.isEmpty = true then none else some false).map _ = _
  split <;> rfl
theorem vhneq_75 {p : Pt} {z n : Nat} : bin2 Γ E .neq 75 (.hdr p z n) (.fv .nil) = some (.fv (.bool true)) := nr rfl
theorem vnneq_75 : bin2 Γ E .neq 75 (.fv .nil) (.fv .nil) = some (.fv (.bool false)) := nr rfl
attribute [go_sem] vg_75 vz_75 v0_75 v1_75 vm_75 va_75 vreql_75 vheql_75 vneql_75 vrneq_75 vhneq_75 vnneq_75
theorem vg_76 : Γ 76 = some ⟨.struct [(0, 3), (1, 3), (2, 3), (3, 3)], 4, 32, [Value.int IntKind.i64 0, Value.int IntKind.i64 0, Value.int IntKind.i64 0, Value.int IntKind.i64 0]⟩ := nr rfl
theorem vz_76 : tz Γ 76 = some (true, 4) := nr rfl
theorem v0_76 : zero2 Γ 76 = some (.agg [(.int .i64 0), (.int .i64 0), (.int .i64 0), (.int .i64 0)]) := nr rfl
theorem vb_76 {ps : List (Nat × Operand)} : bd2 Γ st 76 ps = (bdF Γ [(0, 3), (1, 3), (2, 3), (3, 3)] (([(.int .i64 0), (.int .i64 0), (.int .i64 0), (.int .i64 0)] : List FV).map .fv) (ps.map fun p => (p.1, ev2 st p.2))).map mkA := bd2_eq vg_76 v0_76 (nr rfl)
attribute [go_sem] vg_76 vz_76 v0_76 vb_76
theorem vg_78 : Γ 78 = some ⟨.struct [(0, 74), (1, 75), (2, 76)], 6, 80, [Value.slice none 0 0, Value.slice none 0 0, Value.int IntKind.i64 0, Value.int IntKind.i64 0, Value.int IntKind.i64 0, Value.int IntKind.i64 0]⟩ := nr rfl
theorem vz_78 : tz Γ 78 = some (true, 6) := nr rfl
theorem v0_78 : zero2 Γ 78 = some (.agg [.nil, .nil, (.agg [(.int .i64 0), (.int .i64 0), (.int .i64 0), (.int .i64 0)])]) := nr rfl
theorem vb_78 {ps : List (Nat × Operand)} : bd2 Γ st 78 ps = (bdF Γ [(0, 74), (1, 75), (2, 76)] (([.nil, .nil, (.agg [(.int .i64 0), (.int .i64 0), (.int .i64 0), (.int .i64 0)])] : List FV).map .fv) (ps.map fun p => (p.1, ev2 st p.2))).map mkA := bd2_eq vg_78 v0_78 (nr rfl)
attribute [go_sem] vg_78 vz_78 v0_78 vb_78
theorem vg_81 : Γ 81 = some ⟨.fn, 1, 8, [Value.nilFunc]⟩ := nr rfl
theorem vz_81 : tz Γ 81 = some (false, 1) := nr rfl
attribute [go_sem] vg_81 vz_81
theorem vg_96 : Γ 96 = some ⟨.slice 123, 1, 24, [Value.slice none 0 0]⟩ := nr rfl
theorem vz_96 : tz Γ 96 = some (false, 1) := nr rfl
theorem v0_96 : zero2 Γ 96 = some .nil := nr rfl
theorem v1_96 : es1 Γ 96 = some 2 := nr rfl
theorem vm_96 : ms2 Γ st r 96 x y = msA st r 2 (zero2 Γ 123) x y := ms2_eq v1_96 vg_96
theorem va_96 {z : Nat} {v : List FV} : anE Γ .eql 96 (.fv (.row z v)) (.fv .nil) = v.isEmpty := anE_row vg_96
theorem vreql_96 {z : Nat} {v : List FV} : bin2 Γ E .eql 96 (.fv (.row z v)) (.fv .nil) = if v.isEmpty = true then none else some (.fv (.bool false)) := by
  show (if v.isEmpty = true then none else some false).map _ = _
  split <;> rfl
theorem vheql_96 {p : Pt} {z n : Nat} : bin2 Γ E .eql 96 (.hdr p z n) (.fv .nil) = some (.fv (.bool false)) := nr rfl
theorem vneql_96 : bin2 Γ E .eql 96 (.fv .nil) (.fv .nil) = some (.fv (.bool true)) := nr rfl
theorem vrneq_96 {z : Nat} {v : List FV} : bin2 Γ E .neq 96 (.fv (.row z v)) (.fv .nil) = if v.isEmpty = true then none else some (.fv (.bool true)) := by
  show (if v.isEmpty = true then none else some false).map _ = _
  split <;> rfl
theorem vhneq_96 {p : Pt} {z n : Nat} : bin2 Γ E .neq 96 (.hdr p z n) (.fv .nil) = some (.fv (.bool true)) := nr rfl
theorem vnneq_96 : bin2 Γ E .neq 96 (.fv .nil) (.fv .nil) = some (.fv (.bool false)) := nr rfl
attribute [go_sem] vg_96 vz_96 v0_96 v1_96 vm_96 va_96 vreql_96 vheql_96 vneql_96 vrneq_96 vhneq_96 vnneq_96
theorem vg_98 : Γ 98 = some ⟨.struct [(0, 3), (1, 96)], 2, 32, [Value.int IntKind.i64 0, Value.slice none 0 0]⟩ := nr rfl
theorem vz_98 : tz Γ 98 = some (true, 2) := nr rfl
theorem v0_98 : zero2 Γ 98 = some (.agg [(.int .i64 0), .nil]) := nr rfl
theorem vb_98 {ps : List (Nat × Operand)} : bd2 Γ st 98 ps = (bdF Γ [(0, 3), (1, 96)] (([(.int .i64 0), .nil] : List FV).map .fv) (ps.map fun p => (p.1, ev2 st p.2))).map mkA := bd2_eq vg_98 v0_98 (nr rfl)
attribute [go_sem] vg_98 vz_98 v0_98 vb_98
theorem vg_104 : Γ 104 = some ⟨.fn, 1, 8, [Value.nilFunc]⟩ := nr rfl
theorem vz_104 : tz Γ 104 = some (false, 1) := nr rfl
attribute [go_sem] vg_104 vz_104
theorem vg_106 : Γ 106 = some ⟨.fn, 1, 8, [Value.nilFunc]⟩ := nr rfl
theorem vz_106 : tz Γ 106 = some (false, 1) := nr rfl
attribute [go_sem] vg_106 vz_106
theorem vg_116 : Γ 116 = some ⟨.slice 5, 1, 24, [Value.slice none 0 0]⟩ := nr rfl
theorem vz_116 : tz Γ 116 = some (false, 1) := nr rfl
theorem v0_116 : zero2 Γ 116 = some .nil := nr rfl
theorem v1_116 : es1 Γ 116 = some 1 := nr rfl
theorem vm_116 : ms2 Γ st r 116 x y = msA st r 1 (zero2 Γ 5) x y := ms2_eq v1_116 vg_116
theorem va_116 {z : Nat} {v : List FV} : anE Γ .eql 116 (.fv (.row z v)) (.fv .nil) = v.isEmpty := anE_row vg_116
theorem vreql_116 {z : Nat} {v : List FV} : bin2 Γ E .eql 116 (.fv (.row z v)) (.fv .nil) = if v.isEmpty = true then none else some (.fv (.bool false)) := by
  show (if v.isEmpty = true then none else some false).map _ = _
  split <;> rfl
theorem vheql_116 {p : Pt} {z n : Nat} : bin2 Γ E .eql 116 (.hdr p z n) (.fv .nil) = some (.fv (.bool false)) := nr rfl
theorem vneql_116 : bin2 Γ E .eql 116 (.fv .nil) (.fv .nil) = some (.fv (.bool true)) := nr rfl
theorem vrneq_116 {z : Nat} {v : List FV} : bin2 Γ E .neq 116 (.fv (.row z v)) (.fv .nil) = if v.isEmpty = true then none else some (.fv (.bool true)) := by
  show (if v.isEmpty = true then none else some false).map _ = _
  split <;> rfl
theorem vhneq_116 {p : Pt} {z n : Nat} : bin2 Γ E .neq 116 (.hdr p z n) (.fv .nil) = some (.fv (.bool true)) := nr rfl
theorem vnneq_116 : bin2 Γ E .neq 116 (.fv .nil) (.fv .nil) = some (.fv (.bool false)) := nr rfl
attribute [go_sem] vg_116 vz_116 v0_116 v1_116 vm_116 va_116 vreql_116 vheql_116 vneql_116 vrneq_116 vhneq_116 vnneq_116
theorem vg_118 : Γ 118 = some ⟨.slice 140, 1, 24, [Value.slice none 0 0]⟩ := nr rfl
theorem vz_118 : tz Γ 118 = some (false, 1) := nr rfl
theorem v0_118 : zero2 Γ 118 = some .nil := nr rfl
theorem v1_118 : es1 Γ 118 = some 2 := nr rfl
theorem vm_118 : ms2 Γ st r 118 x y = msA st r 2 (zero2 Γ 140) x y := ms2_eq v1_118 vg_118
theorem va_118 {z : Nat} {v : List FV} : anE Γ .eql 118 (.fv (.row z v)) (.fv .nil) = v.isEmpty := anE_row vg_118
theorem vreql_118 {z : Nat} {v : List FV} : bin2 Γ E .eql 118 (.fv (.row z v)) (.fv .nil) = if v.isEmpty = true then none else some (.fv (.bool false)) := by
  show (if v.isEmpty = true then none else some false).map _ = _
  split <;> rfl
theorem vheql_118 {p : Pt} {z n : Nat} : bin2 Γ E .eql 118 (.hdr p z n) (.fv .nil) = some (.fv (.bool false)) := nr rfl
theorem vneql_118 : bin2 Γ E .eql 118 (.fv .nil) (.fv .nil) = some (.fv (.bool true)) := nr rfl
theorem vrneq_118 {z : Nat} {v : List FV} : bin2 Γ E .neq 118 (.fv (.row z v)) (.fv .nil) = if v.isEmpty = true then none else some (.fv (.bool true)) := by
  show (if v.isEmpty = true then none else some false).map _ = _
  split <;> rfl
theorem vhneq_118 {p : Pt} {z n : Nat} : bin2 Γ E .neq 118 (.hdr p z n) (.fv .nil) = some (.fv (.bool true)) := nr rfl
theorem vnneq_118 : bin2 Γ E .neq 118 (.fv .nil) (.fv .nil) = some (.fv (.bool false)) := nr rfl
attribute [go_sem] vg_118 vz_118 v0_118 v1_118 vm_118 va_118 vreql_118 vheql_118 vneql_118 vrneq_118 vhneq_118 vnneq_118
theorem vg_120 : Γ 120 = some ⟨.struct [(0, 3), (1, 118)], 2, 32, [Value.int IntKind.i64 0, Value.slice none 0 0]⟩ := nr rfl
theorem vz_120 : tz Γ 120 = some (true, 2) := nr rfl
theorem v0_120 : zero2 Γ 120 = some (.agg [(.int .i64 0), .nil]) := nr rfl
theorem vb_120 {ps : List (Nat × Operand)} : bd2 Γ st 120 ps = (bdF Γ [(0, 3), (1, 118)] (([(.int .i64 0), .nil] : List FV).map .fv) (ps.map fun p => (p.1, ev2 st p.2))).map mkA := bd2_eq vg_120 v0_120 (nr rfl)
attribute [go_sem] vg_120 vz_120 v0_120 vb_120
theorem vg_123 : Γ 123 = some ⟨.struct [(0, 3), (1, 3)], 2, 16, [Value.int IntKind.i64 0, Value.int IntKind.i64 0]⟩ := nr rfl
theorem vz_123 : tz Γ 123 = some (true, 2) := nr rfl
theorem v0_123 : zero2 Γ 123 = some (.agg [(.int .i64 0), (.int .i64 0)]) := nr rfl
theorem vb_123 {ps : List (Nat × Operand)} : bd2 Γ st 123 ps = (bdF Γ [(0, 3), (1, 3)] (([(.int .i64 0), (.int .i64 0)] : List FV).map .fv) (ps.map fun p => (p.1, ev2 st p.2))).map mkA := bd2_eq vg_123 v0_123 (nr rfl)
attribute [go_sem] vg_123 vz_123 v0_123 vb_123
theorem vg_126 : Γ 126 = some ⟨.struct [(0, 3), (1, 3), (2, 3), (3, 3), (4, 3)], 5, 40, [Value.int IntKind.i64 0, Value.int IntKind.i64 0, Value.int IntKind.i64 0, Value.int IntKind.i64 0, Value.int IntKind.i64 0]⟩ := nr rfl
theorem vz_126 : tz Γ 126 = some (true, 5) := nr rfl
theorem v0_126 : zero2 Γ 126 = some (.agg [(.int .i64 0), (.int .i64 0), (.int .i64 0), (.int .i64 0), (.int .i64 0)]) := nr rfl
theorem vb_126 {ps : List (Nat × Operand)} : bd2 Γ st 126 ps = (bdF Γ [(0, 3), (1, 3), (2, 3), (3, 3), (4, 3)] (([(.int .i64 0), (.int .i64 0), (.int .i64 0), (.int .i64 0), (.int .i64 0)] : List FV).map .fv) (ps.map fun p => (p.1, ev2 st p.2))).map mkA := bd2_eq vg_126 v0_126 (nr rfl)
attribute [go_sem] vg_126 vz_126 v0_126 vb_126
theorem vg_130 : Γ 130 = some ⟨.fn, 1, 8, [Value.nilFunc]⟩ := nr rfl
theorem vz_130 : tz Γ 130 = some (false, 1) := nr rfl
attribute [go_sem] vg_130 vz_130
theorem vg_140 : Γ 140 = some ⟨.struct [(0, 3), (1, 3)], 2, 16, [Value.int IntKind.i64 0, Value.int IntKind.i64 0]⟩ := nr rfl
theorem vz_140 : tz Γ 140 = some (true, 2) := nr rfl
theorem v0_140 : zero2 Γ 140 = some (.agg [(.int .i64 0), (.int .i64 0)]) := nr rfl
theorem vb_140 {ps : List (Nat × Operand)} : bd2 Γ st 140 ps = (bdF Γ [(0, 3), (1, 3)] (([(.int .i64 0), (.int .i64 0)] : List FV).map .fv) (ps.map fun p => (p.1, ev2 st p.2))).map mkA := bd2_eq vg_140 v0_140 (nr rfl)
attribute [go_sem] vg_140 vz_140 v0_140 vb_140
theorem vc_9_116 {b : ByteArray} : cvA Γ st r 9 116 (.fv (.str b)) (cv2 Γ 9 116 (.fv (.str b))) = some ((r, .own 1 (bytesF b)) :: klS atL (clr r st)) := cv2_sb vg_9 vg_116 vg_5
attribute [go_sem] vc_9_116
end
end Go.Proofs.YtjkcliabfboecaaM
