import Derived.Test.YtgbaininmgdnoaaV3Mvl
import Derived.Test.YtgbaininmgdnoaaV3T
/- Tables for the walk by value. -/
namespace Go.Proofs.YtgbaininmgdnoaaM
open Go
set_option linter.unusedVariables false
section
variable {st : St} {r t : Nat} {x y : DV}
theorem vg_3 : Γ 3 = some ⟨.int .i64, 1, 8, [Value.int IntKind.i64 0]⟩ := nr rfl
theorem vz_3 : tz Γ 3 = some (false, 1) := nr rfl
theorem v0_3 : zero2 Γ 3 = some (.int .i64 0) := nr rfl
attribute [go_sem] vg_3 vz_3 v0_3
theorem vg_4 : Γ 4 = some ⟨.bool, 1, 1, [Value.bool false]⟩ := nr rfl
theorem vz_4 : tz Γ 4 = some (false, 1) := nr rfl
theorem v0_4 : zero2 Γ 4 = some (.bool false) := nr rfl
attribute [go_sem] vg_4 vz_4 v0_4
theorem vg_5 : Γ 5 = some ⟨.int .u8, 1, 1, [Value.int IntKind.u8 0]⟩ := nr rfl
theorem vz_5 : tz Γ 5 = some (false, 1) := nr rfl
theorem v0_5 : zero2 Γ 5 = some (.int .u8 0) := nr rfl
attribute [go_sem] vg_5 vz_5 v0_5
theorem vg_9 : Γ 9 = some ⟨.str, 1, 16, [Value.string ByteArray.empty]⟩ := nr rfl
theorem vz_9 : tz Γ 9 = some (false, 1) := nr rfl
theorem v0_9 : zero2 Γ 9 = some (.str .empty) := nr rfl
attribute [go_sem] vg_9 vz_9 v0_9
theorem vg_22 : Γ 22 = some ⟨.slice 5, 1, 24, [Value.slice none 0 0]⟩ := nr rfl
theorem vz_22 : tz Γ 22 = some (false, 1) := nr rfl
theorem v0_22 : zero2 Γ 22 = some .nil := nr rfl
theorem v1_22 : es1 Γ 22 = some 1 := nr rfl
theorem vm_22 : ms2 Γ st r 22 x y = msA st r 1 (zero2 Γ 5) x y := ms2_eq v1_22 vg_22
theorem va_22 {z : Nat} {v : List FV} : anE Γ .eql 22 (.fv (.row z v)) (.fv .nil) = v.isEmpty := anE_row vg_22
theorem vreql_22 {z : Nat} {v : List FV} : bin2 Γ E .eql 22 (.fv (.row z v)) (.fv .nil) = if v.isEmpty = true then none else some (.fv (.bool false)) := by
  show (if v.isEmpty = true then none else some false).map _ = _
  split <;> rfl
theorem vheql_22 {p : Pt} {z n : Nat} : bin2 Γ E .eql 22 (.hdr p z n) (.fv .nil) = some (.fv (.bool false)) := nr rfl
theorem vneql_22 : bin2 Γ E .eql 22 (.fv .nil) (.fv .nil) = some (.fv (.bool true)) := nr rfl
theorem vrneq_22 {z : Nat} {v : List FV} : bin2 Γ E .neq 22 (.fv (.row z v)) (.fv .nil) = if v.isEmpty = true then none else some (.fv (.bool true)) := by
  show (if v.isEmpty = true then none else some false).map _ = _
  split <;> rfl
theorem vhneq_22 {p : Pt} {z n : Nat} : bin2 Γ E .neq 22 (.hdr p z n) (.fv .nil) = some (.fv (.bool true)) := nr rfl
theorem vnneq_22 : bin2 Γ E .neq 22 (.fv .nil) (.fv .nil) = some (.fv (.bool false)) := nr rfl
attribute [go_sem] vg_22 vz_22 v0_22 v1_22 vm_22 va_22 vreql_22 vheql_22 vneql_22 vrneq_22 vhneq_22 vnneq_22
theorem vg_31 : Γ 31 = some ⟨.struct [(0, 3), (1, 3), (2, 3), (3, 3), (4, 3)], 5, 40, [Value.int IntKind.i64 0, Value.int IntKind.i64 0, Value.int IntKind.i64 0, Value.int IntKind.i64 0, Value.int IntKind.i64 0]⟩ := nr rfl
theorem vz_31 : tz Γ 31 = some (true, 5) := nr rfl
theorem v0_31 : zero2 Γ 31 = some (.agg [(.int .i64 0), (.int .i64 0), (.int .i64 0), (.int .i64 0), (.int .i64 0)]) := nr rfl
theorem vb_31 {ps : List (Nat × Operand)} : bd2 Γ st 31 ps = (bdF Γ [(0, 3), (1, 3), (2, 3), (3, 3), (4, 3)] (([(.int .i64 0), (.int .i64 0), (.int .i64 0), (.int .i64 0), (.int .i64 0)] : List FV).map .fv) (ps.map fun p => (p.1, ev2 st p.2))).map mkA := bd2_eq vg_31 v0_31 (nr rfl)
attribute [go_sem] vg_31 vz_31 v0_31 vb_31
theorem vg_41 : Γ 41 = some ⟨.slice 3, 1, 24, [Value.slice none 0 0]⟩ := nr rfl
theorem vz_41 : tz Γ 41 = some (false, 1) := nr rfl
theorem v0_41 : zero2 Γ 41 = some .nil := nr rfl
theorem v1_41 : es1 Γ 41 = some 1 := nr rfl
theorem vm_41 : ms2 Γ st r 41 x y = msA st r 1 (zero2 Γ 3) x y := ms2_eq v1_41 vg_41
theorem va_41 {z : Nat} {v : List FV} : anE Γ .eql 41 (.fv (.row z v)) (.fv .nil) = v.isEmpty := anE_row vg_41
theorem vreql_41 {z : Nat} {v : List FV} : bin2 Γ E .eql 41 (.fv (.row z v)) (.fv .nil) = if v.isEmpty = true then none else some (.fv (.bool false)) := by
  show (if v.isEmpty = true then none else some false).map _ = _
  split <;> rfl
theorem vheql_41 {p : Pt} {z n : Nat} : bin2 Γ E .eql 41 (.hdr p z n) (.fv .nil) = some (.fv (.bool false)) := nr rfl
theorem vneql_41 : bin2 Γ E .eql 41 (.fv .nil) (.fv .nil) = some (.fv (.bool true)) := nr rfl
theorem vrneq_41 {z : Nat} {v : List FV} : bin2 Γ E .neq 41 (.fv (.row z v)) (.fv .nil) = if v.isEmpty = true then none else some (.fv (.bool true)) := by
  show (if v.isEmpty = true then none else some false).map _ = _
  split <;> rfl
theorem vhneq_41 {p : Pt} {z n : Nat} : bin2 Γ E .neq 41 (.hdr p z n) (.fv .nil) = some (.fv (.bool true)) := nr rfl
theorem vnneq_41 : bin2 Γ E .neq 41 (.fv .nil) (.fv .nil) = some (.fv (.bool false)) := nr rfl
attribute [go_sem] vg_41 vz_41 v0_41 v1_41 vm_41 va_41 vreql_41 vheql_41 vneql_41 vrneq_41 vhneq_41 vnneq_41
theorem vg_51 : Γ 51 = some ⟨.slice 172, 1, 24, [Value.slice none 0 0]⟩ := nr rfl
theorem vz_51 : tz Γ 51 = some (false, 1) := nr rfl
theorem v0_51 : zero2 Γ 51 = some .nil := nr rfl
theorem v1_51 : es1 Γ 51 = some 6 := nr rfl
theorem vm_51 : ms2 Γ st r 51 x y = msA st r 6 (zero2 Γ 172) x y := ms2_eq v1_51 vg_51
theorem va_51 {z : Nat} {v : List FV} : anE Γ .eql 51 (.fv (.row z v)) (.fv .nil) = v.isEmpty := anE_row vg_51
theorem vreql_51 {z : Nat} {v : List FV} : bin2 Γ E .eql 51 (.fv (.row z v)) (.fv .nil) = if v.isEmpty = true then none else some (.fv (.bool false)) := by
  show (if v.isEmpty = true then none else some false).map _ = _
  split <;> rfl
theorem vheql_51 {p : Pt} {z n : Nat} : bin2 Γ E .eql 51 (.hdr p z n) (.fv .nil) = some (.fv (.bool false)) := nr rfl
theorem vneql_51 : bin2 Γ E .eql 51 (.fv .nil) (.fv .nil) = some (.fv (.bool true)) := nr rfl
theorem vrneq_51 {z : Nat} {v : List FV} : bin2 Γ E .neq 51 (.fv (.row z v)) (.fv .nil) = if v.isEmpty = true then none else some (.fv (.bool true)) := by
  show (if v.isEmpty = true then none else some false).map _ = _
  split <;> rfl
theorem vhneq_51 {p : Pt} {z n : Nat} : bin2 Γ E .neq 51 (.hdr p z n) (.fv .nil) = some (.fv (.bool true)) := nr rfl
theorem vnneq_51 : bin2 Γ E .neq 51 (.fv .nil) (.fv .nil) = some (.fv (.bool false)) := nr rfl
attribute [go_sem] vg_51 vz_51 v0_51 v1_51 vm_51 va_51 vreql_51 vheql_51 vneql_51 vrneq_51 vhneq_51 vnneq_51
theorem vg_53 : Γ 53 = some ⟨.struct [(0, 51), (1, 3)], 2, 32, [Value.slice none 0 0, Value.int IntKind.i64 0]⟩ := nr rfl
theorem vz_53 : tz Γ 53 = some (true, 2) := nr rfl
theorem v0_53 : zero2 Γ 53 = some (.agg [.nil, (.int .i64 0)]) := nr rfl
theorem vb_53 {ps : List (Nat × Operand)} : bd2 Γ st 53 ps = (bdF Γ [(0, 51), (1, 3)] (([.nil, (.int .i64 0)] : List FV).map .fv) (ps.map fun p => (p.1, ev2 st p.2))).map mkA := bd2_eq vg_53 v0_53 (nr rfl)
attribute [go_sem] vg_53 vz_53 v0_53 vb_53
theorem vg_57 : Γ 57 = some ⟨.slice 127, 1, 24, [Value.slice none 0 0]⟩ := nr rfl
theorem vz_57 : tz Γ 57 = some (false, 1) := nr rfl
theorem v0_57 : zero2 Γ 57 = some .nil := nr rfl
theorem v1_57 : es1 Γ 57 = some 6 := nr rfl
theorem vm_57 : ms2 Γ st r 57 x y = msA st r 6 (zero2 Γ 127) x y := ms2_eq v1_57 vg_57
theorem va_57 {z : Nat} {v : List FV} : anE Γ .eql 57 (.fv (.row z v)) (.fv .nil) = v.isEmpty := anE_row vg_57
theorem vreql_57 {z : Nat} {v : List FV} : bin2 Γ E .eql 57 (.fv (.row z v)) (.fv .nil) = if v.isEmpty = true then none else some (.fv (.bool false)) := by
  show (if v.isEmpty = true then none else some false).map _ = _
  split <;> rfl
theorem vheql_57 {p : Pt} {z n : Nat} : bin2 Γ E .eql 57 (.hdr p z n) (.fv .nil) = some (.fv (.bool false)) := nr rfl
theorem vneql_57 : bin2 Γ E .eql 57 (.fv .nil) (.fv .nil) = some (.fv (.bool true)) := nr rfl
theorem vrneq_57 {z : Nat} {v : List FV} : bin2 Γ E .neq 57 (.fv (.row z v)) (.fv .nil) = if v.isEmpty = true then none else some (.fv (.bool true)) := by
  show (if v.isEmpty = true then none else some false).map _ = _
  split <;> rfl
theorem vhneq_57 {p : Pt} {z n : Nat} : bin2 Γ E .neq 57 (.hdr p z n) (.fv .nil) = some (.fv (.bool true)) := nr rfl
theorem vnneq_57 : bin2 Γ E .neq 57 (.fv .nil) (.fv .nil) = some (.fv (.bool false)) := nr rfl
attribute [go_sem] vg_57 vz_57 v0_57 v1_57 vm_57 va_57 vreql_57 vheql_57 vneql_57 vrneq_57 vhneq_57 vnneq_57
theorem vg_59 : Γ 59 = some ⟨.struct [(0, 57), (1, 3)], 2, 32, [Value.slice none 0 0, Value.int IntKind.i64 0]⟩ := nr rfl
theorem vz_59 : tz Γ 59 = some (true, 2) := nr rfl
theorem v0_59 : zero2 Γ 59 = some (.agg [.nil, (.int .i64 0)]) := nr rfl
theorem vb_59 {ps : List (Nat × Operand)} : bd2 Γ st 59 ps = (bdF Γ [(0, 57), (1, 3)] (([.nil, (.int .i64 0)] : List FV).map .fv) (ps.map fun p => (p.1, ev2 st p.2))).map mkA := bd2_eq vg_59 v0_59 (nr rfl)
attribute [go_sem] vg_59 vz_59 v0_59 vb_59
theorem vg_85 : Γ 85 = some ⟨.fn, 1, 8, [Value.nilFunc]⟩ := nr rfl
theorem vz_85 : tz Γ 85 = some (false, 1) := nr rfl
attribute [go_sem] vg_85 vz_85
theorem vg_122 : Γ 122 = some ⟨.slice 130, 1, 24, [Value.slice none 0 0]⟩ := nr rfl
theorem vz_122 : tz Γ 122 = some (false, 1) := nr rfl
theorem v0_122 : zero2 Γ 122 = some .nil := nr rfl
theorem v1_122 : es1 Γ 122 = some 2 := nr rfl
theorem vm_122 : ms2 Γ st r 122 x y = msA st r 2 (zero2 Γ 130) x y := ms2_eq v1_122 vg_122
theorem va_122 {z : Nat} {v : List FV} : anE Γ .eql 122 (.fv (.row z v)) (.fv .nil) = v.isEmpty := anE_row vg_122
theorem vreql_122 {z : Nat} {v : List FV} : bin2 Γ E .eql 122 (.fv (.row z v)) (.fv .nil) = if v.isEmpty = true then none else some (.fv (.bool false)) := by
  show (if v.isEmpty = true then none else some false).map _ = _
  split <;> rfl
theorem vheql_122 {p : Pt} {z n : Nat} : bin2 Γ E .eql 122 (.hdr p z n) (.fv .nil) = some (.fv (.bool false)) := nr rfl
theorem vneql_122 : bin2 Γ E .eql 122 (.fv .nil) (.fv .nil) = some (.fv (.bool true)) := nr rfl
theorem vrneq_122 {z : Nat} {v : List FV} : bin2 Γ E .neq 122 (.fv (.row z v)) (.fv .nil) = if v.isEmpty = true then none else some (.fv (.bool true)) := by
  show (if v.isEmpty = true then none else some false).map _ = _
  split <;> rfl
theorem vhneq_122 {p : Pt} {z n : Nat} : bin2 Γ E .neq 122 (.hdr p z n) (.fv .nil) = some (.fv (.bool true)) := nr rfl
theorem vnneq_122 : bin2 Γ E .neq 122 (.fv .nil) (.fv .nil) = some (.fv (.bool false)) := nr rfl
attribute [go_sem] vg_122 vz_122 v0_122 v1_122 vm_122 va_122 vreql_122 vheql_122 vneql_122 vrneq_122 vhneq_122 vnneq_122
theorem vg_123 : Γ 123 = some ⟨.slice 31, 1, 24, [Value.slice none 0 0]⟩ := nr rfl
theorem vz_123 : tz Γ 123 = some (false, 1) := nr rfl
theorem v0_123 : zero2 Γ 123 = some .nil := nr rfl
theorem v1_123 : es1 Γ 123 = some 5 := nr rfl
theorem vm_123 : ms2 Γ st r 123 x y = msA st r 5 (zero2 Γ 31) x y := ms2_eq v1_123 vg_123
theorem va_123 {z : Nat} {v : List FV} : anE Γ .eql 123 (.fv (.row z v)) (.fv .nil) = v.isEmpty := anE_row vg_123
theorem vreql_123 {z : Nat} {v : List FV} : bin2 Γ E .eql 123 (.fv (.row z v)) (.fv .nil) = if v.isEmpty = true then none else some (.fv (.bool false)) := by
  show (if v.isEmpty = true then none else some false).map _ = _
  split <;> rfl
theorem vheql_123 {p : Pt} {z n : Nat} : bin2 Γ E .eql 123 (.hdr p z n) (.fv .nil) = some (.fv (.bool false)) := nr rfl
theorem vneql_123 : bin2 Γ E .eql 123 (.fv .nil) (.fv .nil) = some (.fv (.bool true)) := nr rfl
theorem vrneq_123 {z : Nat} {v : List FV} : bin2 Γ E .neq 123 (.fv (.row z v)) (.fv .nil) = if v.isEmpty = true then none else some (.fv (.bool true)) := by
  show (if v.isEmpty = true then none else some false).map _ = _
  split <;> rfl
theorem vhneq_123 {p : Pt} {z n : Nat} : bin2 Γ E .neq 123 (.hdr p z n) (.fv .nil) = some (.fv (.bool true)) := nr rfl
theorem vnneq_123 : bin2 Γ E .neq 123 (.fv .nil) (.fv .nil) = some (.fv (.bool false)) := nr rfl
attribute [go_sem] vg_123 vz_123 v0_123 v1_123 vm_123 va_123 vreql_123 vheql_123 vneql_123 vrneq_123 vhneq_123 vnneq_123
theorem vg_125 : Γ 125 = some ⟨.struct [(0, 3), (1, 3), (2, 3), (3, 3)], 4, 32, [Value.int IntKind.i64 0, Value.int IntKind.i64 0, Value.int IntKind.i64 0, Value.int IntKind.i64 0]⟩ := nr rfl
theorem vz_125 : tz Γ 125 = some (true, 4) := nr rfl
theorem v0_125 : zero2 Γ 125 = some (.agg [(.int .i64 0), (.int .i64 0), (.int .i64 0), (.int .i64 0)]) := nr rfl
theorem vb_125 {ps : List (Nat × Operand)} : bd2 Γ st 125 ps = (bdF Γ [(0, 3), (1, 3), (2, 3), (3, 3)] (([(.int .i64 0), (.int .i64 0), (.int .i64 0), (.int .i64 0)] : List FV).map .fv) (ps.map fun p => (p.1, ev2 st p.2))).map mkA := bd2_eq vg_125 v0_125 (nr rfl)
attribute [go_sem] vg_125 vz_125 v0_125 vb_125
theorem vg_127 : Γ 127 = some ⟨.struct [(0, 122), (1, 123), (2, 125)], 6, 80, [Value.slice none 0 0, Value.slice none 0 0, Value.int IntKind.i64 0, Value.int IntKind.i64 0, Value.int IntKind.i64 0, Value.int IntKind.i64 0]⟩ := nr rfl
theorem vz_127 : tz Γ 127 = some (true, 6) := nr rfl
theorem v0_127 : zero2 Γ 127 = some (.agg [.nil, .nil, (.agg [(.int .i64 0), (.int .i64 0), (.int .i64 0), (.int .i64 0)])]) := nr rfl
theorem vb_127 {ps : List (Nat × Operand)} : bd2 Γ st 127 ps = (bdF Γ [(0, 122), (1, 123), (2, 125)] (([.nil, .nil, (.agg [(.int .i64 0), (.int .i64 0), (.int .i64 0), (.int .i64 0)])] : List FV).map .fv) (ps.map fun p => (p.1, ev2 st p.2))).map mkA := bd2_eq vg_127 v0_127 (nr rfl)
attribute [go_sem] vg_127 vz_127 v0_127 vb_127
theorem vg_128 : Γ 128 = some ⟨.slice 132, 1, 24, [Value.slice none 0 0]⟩ := nr rfl
theorem vz_128 : tz Γ 128 = some (false, 1) := nr rfl
theorem v0_128 : zero2 Γ 128 = some .nil := nr rfl
theorem v1_128 : es1 Γ 128 = some 2 := nr rfl
theorem vm_128 : ms2 Γ st r 128 x y = msA st r 2 (zero2 Γ 132) x y := ms2_eq v1_128 vg_128
theorem va_128 {z : Nat} {v : List FV} : anE Γ .eql 128 (.fv (.row z v)) (.fv .nil) = v.isEmpty := anE_row vg_128
theorem vreql_128 {z : Nat} {v : List FV} : bin2 Γ E .eql 128 (.fv (.row z v)) (.fv .nil) = if v.isEmpty = true then none else some (.fv (.bool false)) := by
  show (if v.isEmpty = true then none else some false).map _ = _
  split <;> rfl
theorem vheql_128 {p : Pt} {z n : Nat} : bin2 Γ E .eql 128 (.hdr p z n) (.fv .nil) = some (.fv (.bool false)) := nr rfl
theorem vneql_128 : bin2 Γ E .eql 128 (.fv .nil) (.fv .nil) = some (.fv (.bool true)) := nr rfl
theorem vrneq_128 {z : Nat} {v : List FV} : bin2 Γ E .neq 128 (.fv (.row z v)) (.fv .nil) = if v.isEmpty = true then none else some (.fv (.bool true)) := by
  show (if v.isEmpty = true then none else some false).map _ = _
  split <;> rfl
theorem vhneq_128 {p : Pt} {z n : Nat} : bin2 Γ E .neq 128 (.hdr p z n) (.fv .nil) = some (.fv (.bool true)) := nr rfl
theorem vnneq_128 : bin2 Γ E .neq 128 (.fv .nil) (.fv .nil) = some (.fv (.bool false)) := nr rfl
attribute [go_sem] vg_128 vz_128 v0_128 v1_128 vm_128 va_128 vreql_128 vheql_128 vneql_128 vrneq_128 vhneq_128 vnneq_128
theorem vg_130 : Γ 130 = some ⟨.struct [(0, 3), (1, 128)], 2, 32, [Value.int IntKind.i64 0, Value.slice none 0 0]⟩ := nr rfl
theorem vz_130 : tz Γ 130 = some (true, 2) := nr rfl
theorem v0_130 : zero2 Γ 130 = some (.agg [(.int .i64 0), .nil]) := nr rfl
theorem vb_130 {ps : List (Nat × Operand)} : bd2 Γ st 130 ps = (bdF Γ [(0, 3), (1, 128)] (([(.int .i64 0), .nil] : List FV).map .fv) (ps.map fun p => (p.1, ev2 st p.2))).map mkA := bd2_eq vg_130 v0_130 (nr rfl)
attribute [go_sem] vg_130 vz_130 v0_130 vb_130
theorem vg_132 : Γ 132 = some ⟨.struct [(0, 3), (1, 3)], 2, 16, [Value.int IntKind.i64 0, Value.int IntKind.i64 0]⟩ := nr rfl
theorem vz_132 : tz Γ 132 = some (true, 2) := nr rfl
theorem v0_132 : zero2 Γ 132 = some (.agg [(.int .i64 0), (.int .i64 0)]) := nr rfl
theorem vb_132 {ps : List (Nat × Operand)} : bd2 Γ st 132 ps = (bdF Γ [(0, 3), (1, 3)] (([(.int .i64 0), (.int .i64 0)] : List FV).map .fv) (ps.map fun p => (p.1, ev2 st p.2))).map mkA := bd2_eq vg_132 v0_132 (nr rfl)
attribute [go_sem] vg_132 vz_132 v0_132 vb_132
theorem vg_153 : Γ 153 = some ⟨.slice 4, 1, 24, [Value.slice none 0 0]⟩ := nr rfl
theorem vz_153 : tz Γ 153 = some (false, 1) := nr rfl
theorem v0_153 : zero2 Γ 153 = some .nil := nr rfl
theorem v1_153 : es1 Γ 153 = some 1 := nr rfl
theorem vm_153 : ms2 Γ st r 153 x y = msA st r 1 (zero2 Γ 4) x y := ms2_eq v1_153 vg_153
theorem va_153 {z : Nat} {v : List FV} : anE Γ .eql 153 (.fv (.row z v)) (.fv .nil) = v.isEmpty := anE_row vg_153
theorem vreql_153 {z : Nat} {v : List FV} : bin2 Γ E .eql 153 (.fv (.row z v)) (.fv .nil) = if v.isEmpty = true then none else some (.fv (.bool false)) := by
  show (if v.isEmpty = true then none else some false).map _ = _
  split <;> rfl
theorem vheql_153 {p : Pt} {z n : Nat} : bin2 Γ E .eql 153 (.hdr p z n) (.fv .nil) = some (.fv (.bool false)) := nr rfl
theorem vneql_153 : bin2 Γ E .eql 153 (.fv .nil) (.fv .nil) = some (.fv (.bool true)) := nr rfl
theorem vrneq_153 {z : Nat} {v : List FV} : bin2 Γ E .neq 153 (.fv (.row z v)) (.fv .nil) = if v.isEmpty = true then none else some (.fv (.bool true)) := by
  show (if v.isEmpty = true then none else some false).map _ = _
  split <;> rfl
theorem vhneq_153 {p : Pt} {z n : Nat} : bin2 Γ E .neq 153 (.hdr p z n) (.fv .nil) = some (.fv (.bool true)) := nr rfl
theorem vnneq_153 : bin2 Γ E .neq 153 (.fv .nil) (.fv .nil) = some (.fv (.bool false)) := nr rfl
attribute [go_sem] vg_153 vz_153 v0_153 v1_153 vm_153 va_153 vreql_153 vheql_153 vneql_153 vrneq_153 vhneq_153 vnneq_153
theorem vg_154 : Γ 154 = some ⟨.slice 153, 1, 24, [Value.slice none 0 0]⟩ := nr rfl
theorem vz_154 : tz Γ 154 = some (false, 1) := nr rfl
theorem v0_154 : zero2 Γ 154 = some .nil := nr rfl
theorem v1_154 : es1 Γ 154 = some 1 := nr rfl
theorem vm_154 : ms2 Γ st r 154 x y = msA st r 1 (zero2 Γ 153) x y := ms2_eq v1_154 vg_154
theorem va_154 {z : Nat} {v : List FV} : anE Γ .eql 154 (.fv (.row z v)) (.fv .nil) = v.isEmpty := anE_row vg_154
theorem vreql_154 {z : Nat} {v : List FV} : bin2 Γ E .eql 154 (.fv (.row z v)) (.fv .nil) = if v.isEmpty = true then none else some (.fv (.bool false)) := by
  show (if v.isEmpty = true then none else some false).map _ = _
  split <;> rfl
theorem vheql_154 {p : Pt} {z n : Nat} : bin2 Γ E .eql 154 (.hdr p z n) (.fv .nil) = some (.fv (.bool false)) := nr rfl
theorem vneql_154 : bin2 Γ E .eql 154 (.fv .nil) (.fv .nil) = some (.fv (.bool true)) := nr rfl
theorem vrneq_154 {z : Nat} {v : List FV} : bin2 Γ E .neq 154 (.fv (.row z v)) (.fv .nil) = if v.isEmpty = true then none else some (.fv (.bool true)) := by
  show (if v.isEmpty = true then none else some false).map _ = _
  split <;> rfl
theorem vhneq_154 {p : Pt} {z n : Nat} : bin2 Γ E .neq 154 (.hdr p z n) (.fv .nil) = some (.fv (.bool true)) := nr rfl
theorem vnneq_154 : bin2 Γ E .neq 154 (.fv .nil) (.fv .nil) = some (.fv (.bool false)) := nr rfl
attribute [go_sem] vg_154 vz_154 v0_154 v1_154 vm_154 va_154 vreql_154 vheql_154 vneql_154 vrneq_154 vhneq_154 vnneq_154
theorem vg_168 : Γ 168 = some ⟨.slice 236, 1, 24, [Value.slice none 0 0]⟩ := nr rfl
theorem vz_168 : tz Γ 168 = some (false, 1) := nr rfl
theorem v0_168 : zero2 Γ 168 = some .nil := nr rfl
theorem v1_168 : es1 Γ 168 = some 2 := nr rfl
theorem vm_168 : ms2 Γ st r 168 x y = msA st r 2 (zero2 Γ 236) x y := ms2_eq v1_168 vg_168
theorem va_168 {z : Nat} {v : List FV} : anE Γ .eql 168 (.fv (.row z v)) (.fv .nil) = v.isEmpty := anE_row vg_168
theorem vreql_168 {z : Nat} {v : List FV} : bin2 Γ E .eql 168 (.fv (.row z v)) (.fv .nil) = if v.isEmpty = true then none else some (.fv (.bool false)) := by
  show (if v.isEmpty = true then none else some false).map _ = _
  split <;> rfl
theorem vheql_168 {p : Pt} {z n : Nat} : bin2 Γ E .eql 168 (.hdr p z n) (.fv .nil) = some (.fv (.bool false)) := nr rfl
theorem vneql_168 : bin2 Γ E .eql 168 (.fv .nil) (.fv .nil) = some (.fv (.bool true)) := nr rfl
theorem vrneq_168 {z : Nat} {v : List FV} : bin2 Γ E .neq 168 (.fv (.row z v)) (.fv .nil) = if v.isEmpty = true then none else some (.fv (.bool true)) := by
  show (if v.isEmpty = true then none else some false).map _ = _
  split <;> rfl
theorem vhneq_168 {p : Pt} {z n : Nat} : bin2 Γ E .neq 168 (.hdr p z n) (.fv .nil) = some (.fv (.bool true)) := nr rfl
theorem vnneq_168 : bin2 Γ E .neq 168 (.fv .nil) (.fv .nil) = some (.fv (.bool false)) := nr rfl
attribute [go_sem] vg_168 vz_168 v0_168 v1_168 vm_168 va_168 vreql_168 vheql_168 vneql_168 vrneq_168 vhneq_168 vnneq_168
theorem vg_169 : Γ 169 = some ⟨.slice 239, 1, 24, [Value.slice none 0 0]⟩ := nr rfl
theorem vz_169 : tz Γ 169 = some (false, 1) := nr rfl
theorem v0_169 : zero2 Γ 169 = some .nil := nr rfl
theorem v1_169 : es1 Γ 169 = some 5 := nr rfl
theorem vm_169 : ms2 Γ st r 169 x y = msA st r 5 (zero2 Γ 239) x y := ms2_eq v1_169 vg_169
theorem va_169 {z : Nat} {v : List FV} : anE Γ .eql 169 (.fv (.row z v)) (.fv .nil) = v.isEmpty := anE_row vg_169
theorem vreql_169 {z : Nat} {v : List FV} : bin2 Γ E .eql 169 (.fv (.row z v)) (.fv .nil) = if v.isEmpty = true then none else some (.fv (.bool false)) := by
  show (if v.isEmpty = true then none else some false).map _ = _
  split <;> rfl
theorem vheql_169 {p : Pt} {z n : Nat} : bin2 Γ E .eql 169 (.hdr p z n) (.fv .nil) = some (.fv (.bool false)) := nr rfl
theorem vneql_169 : bin2 Γ E .eql 169 (.fv .nil) (.fv .nil) = some (.fv (.bool true)) := nr rfl
theorem vrneq_169 {z : Nat} {v : List FV} : bin2 Γ E .neq 169 (.fv (.row z v)) (.fv .nil) = if v.isEmpty = true then none else some (.fv (.bool true)) := by
  show (if v.isEmpty = true then none else some false).map _ = _
  split <;> rfl
theorem vhneq_169 {p : Pt} {z n : Nat} : bin2 Γ E .neq 169 (.hdr p z n) (.fv .nil) = some (.fv (.bool true)) := nr rfl
theorem vnneq_169 : bin2 Γ E .neq 169 (.fv .nil) (.fv .nil) = some (.fv (.bool false)) := nr rfl
attribute [go_sem] vg_169 vz_169 v0_169 v1_169 vm_169 va_169 vreql_169 vheql_169 vneql_169 vrneq_169 vhneq_169 vnneq_169
theorem vg_170 : Γ 170 = some ⟨.struct [(0, 3), (1, 3), (2, 3), (3, 3)], 4, 32, [Value.int IntKind.i64 0, Value.int IntKind.i64 0, Value.int IntKind.i64 0, Value.int IntKind.i64 0]⟩ := nr rfl
theorem vz_170 : tz Γ 170 = some (true, 4) := nr rfl
theorem v0_170 : zero2 Γ 170 = some (.agg [(.int .i64 0), (.int .i64 0), (.int .i64 0), (.int .i64 0)]) := nr rfl
theorem vb_170 {ps : List (Nat × Operand)} : bd2 Γ st 170 ps = (bdF Γ [(0, 3), (1, 3), (2, 3), (3, 3)] (([(.int .i64 0), (.int .i64 0), (.int .i64 0), (.int .i64 0)] : List FV).map .fv) (ps.map fun p => (p.1, ev2 st p.2))).map mkA := bd2_eq vg_170 v0_170 (nr rfl)
attribute [go_sem] vg_170 vz_170 v0_170 vb_170
theorem vg_172 : Γ 172 = some ⟨.struct [(0, 168), (1, 169), (2, 170)], 6, 80, [Value.slice none 0 0, Value.slice none 0 0, Value.int IntKind.i64 0, Value.int IntKind.i64 0, Value.int IntKind.i64 0, Value.int IntKind.i64 0]⟩ := nr rfl
theorem vz_172 : tz Γ 172 = some (true, 6) := nr rfl
theorem v0_172 : zero2 Γ 172 = some (.agg [.nil, .nil, (.agg [(.int .i64 0), (.int .i64 0), (.int .i64 0), (.int .i64 0)])]) := nr rfl
theorem vb_172 {ps : List (Nat × Operand)} : bd2 Γ st 172 ps = (bdF Γ [(0, 168), (1, 169), (2, 170)] (([.nil, .nil, (.agg [(.int .i64 0), (.int .i64 0), (.int .i64 0), (.int .i64 0)])] : List FV).map .fv) (ps.map fun p => (p.1, ev2 st p.2))).map mkA := bd2_eq vg_172 v0_172 (nr rfl)
attribute [go_sem] vg_172 vz_172 v0_172 vb_172
theorem vg_179 : Γ 179 = some ⟨.fn, 1, 8, [Value.nilFunc]⟩ := nr rfl
theorem vz_179 : tz Γ 179 = some (false, 1) := nr rfl
attribute [go_sem] vg_179 vz_179
theorem vg_181 : Γ 181 = some ⟨.fn, 1, 8, [Value.nilFunc]⟩ := nr rfl
theorem vz_181 : tz Γ 181 = some (false, 1) := nr rfl
attribute [go_sem] vg_181 vz_181
theorem vg_209 : Γ 209 = some ⟨.fn, 1, 8, [Value.nilFunc]⟩ := nr rfl
theorem vz_209 : tz Γ 209 = some (false, 1) := nr rfl
attribute [go_sem] vg_209 vz_209
theorem vg_234 : Γ 234 = some ⟨.slice 255, 1, 24, [Value.slice none 0 0]⟩ := nr rfl
theorem vz_234 : tz Γ 234 = some (false, 1) := nr rfl
theorem v0_234 : zero2 Γ 234 = some .nil := nr rfl
theorem v1_234 : es1 Γ 234 = some 2 := nr rfl
theorem vm_234 : ms2 Γ st r 234 x y = msA st r 2 (zero2 Γ 255) x y := ms2_eq v1_234 vg_234
theorem va_234 {z : Nat} {v : List FV} : anE Γ .eql 234 (.fv (.row z v)) (.fv .nil) = v.isEmpty := anE_row vg_234
theorem vreql_234 {z : Nat} {v : List FV} : bin2 Γ E .eql 234 (.fv (.row z v)) (.fv .nil) = if v.isEmpty = true then none else some (.fv (.bool false)) := by
  show (if v.isEmpty = true then none else some false).map _ = _
  split <;> rfl
theorem vheql_234 {p : Pt} {z n : Nat} : bin2 Γ E .eql 234 (.hdr p z n) (.fv .nil) = some (.fv (.bool false)) := nr rfl
theorem vneql_234 : bin2 Γ E .eql 234 (.fv .nil) (.fv .nil) = some (.fv (.bool true)) := nr rfl
theorem vrneq_234 {z : Nat} {v : List FV} : bin2 Γ E .neq 234 (.fv (.row z v)) (.fv .nil) = if v.isEmpty = true then none else some (.fv (.bool true)) := by
  show (if v.isEmpty = true then none else some false).map _ = _
  split <;> rfl
theorem vhneq_234 {p : Pt} {z n : Nat} : bin2 Γ E .neq 234 (.hdr p z n) (.fv .nil) = some (.fv (.bool true)) := nr rfl
theorem vnneq_234 : bin2 Γ E .neq 234 (.fv .nil) (.fv .nil) = some (.fv (.bool false)) := nr rfl
attribute [go_sem] vg_234 vz_234 v0_234 v1_234 vm_234 va_234 vreql_234 vheql_234 vneql_234 vrneq_234 vhneq_234 vnneq_234
theorem vg_236 : Γ 236 = some ⟨.struct [(0, 3), (1, 234)], 2, 32, [Value.int IntKind.i64 0, Value.slice none 0 0]⟩ := nr rfl
theorem vz_236 : tz Γ 236 = some (true, 2) := nr rfl
theorem v0_236 : zero2 Γ 236 = some (.agg [(.int .i64 0), .nil]) := nr rfl
theorem vb_236 {ps : List (Nat × Operand)} : bd2 Γ st 236 ps = (bdF Γ [(0, 3), (1, 234)] (([(.int .i64 0), .nil] : List FV).map .fv) (ps.map fun p => (p.1, ev2 st p.2))).map mkA := bd2_eq vg_236 v0_236 (nr rfl)
attribute [go_sem] vg_236 vz_236 v0_236 vb_236
theorem vg_239 : Γ 239 = some ⟨.struct [(0, 3), (1, 3), (2, 3), (3, 3), (4, 3)], 5, 40, [Value.int IntKind.i64 0, Value.int IntKind.i64 0, Value.int IntKind.i64 0, Value.int IntKind.i64 0, Value.int IntKind.i64 0]⟩ := nr rfl
theorem vz_239 : tz Γ 239 = some (true, 5) := nr rfl
theorem v0_239 : zero2 Γ 239 = some (.agg [(.int .i64 0), (.int .i64 0), (.int .i64 0), (.int .i64 0), (.int .i64 0)]) := nr rfl
theorem vb_239 {ps : List (Nat × Operand)} : bd2 Γ st 239 ps = (bdF Γ [(0, 3), (1, 3), (2, 3), (3, 3), (4, 3)] (([(.int .i64 0), (.int .i64 0), (.int .i64 0), (.int .i64 0), (.int .i64 0)] : List FV).map .fv) (ps.map fun p => (p.1, ev2 st p.2))).map mkA := bd2_eq vg_239 v0_239 (nr rfl)
attribute [go_sem] vg_239 vz_239 v0_239 vb_239
theorem vg_255 : Γ 255 = some ⟨.struct [(0, 3), (1, 3)], 2, 16, [Value.int IntKind.i64 0, Value.int IntKind.i64 0]⟩ := nr rfl
theorem vz_255 : tz Γ 255 = some (true, 2) := nr rfl
theorem v0_255 : zero2 Γ 255 = some (.agg [(.int .i64 0), (.int .i64 0)]) := nr rfl
theorem vb_255 {ps : List (Nat × Operand)} : bd2 Γ st 255 ps = (bdF Γ [(0, 3), (1, 3)] (([(.int .i64 0), (.int .i64 0)] : List FV).map .fv) (ps.map fun p => (p.1, ev2 st p.2))).map mkA := bd2_eq vg_255 v0_255 (nr rfl)
attribute [go_sem] vg_255 vz_255 v0_255 vb_255
theorem vc_9_22 {b : ByteArray} : cvA Γ st r 9 22 (.fv (.str b)) (cv2 Γ 9 22 (.fv (.str b))) = some ((r, .own 1 (bytesF b)) :: klS atL (clr r st)) := cv2_sb vg_9 vg_22 vg_5
attribute [go_sem] vc_9_22
end
end Go.Proofs.YtgbaininmgdnoaaM
