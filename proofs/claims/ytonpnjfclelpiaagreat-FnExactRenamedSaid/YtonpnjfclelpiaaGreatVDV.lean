import Derived.Test.YtonpnjfclelpiaaGreatVDMvl
import Derived.Test.YtonpnjfclelpiaaGreatVDT
/- Tables for the walk by value. -/
namespace Go.Proofs.YtonpnjfclelpiaaGreatM
open Go
set_option linter.unusedVariables false
section
variable {st : St} {r t : Nat} {x y : DV}
theorem vg_3 : Γ 3 = some ⟨.int .i64, 1, 8, [Value.int IntKind.i64 0]⟩ := nr rfl
theorem vz_3 : tz Γ 3 = some (false, 1) := nr rfl
theorem v0_3 : zero2 Γ 3 = some (.int .i64 0) := nr rfl
attribute [go_sem] vg_3 vz_3 v0_3
theorem vg_4 : Γ 4 = some ⟨.bool, 1, 1, [Value.bool false]⟩ := nr rfl
theorem vz_4 : tz Γ 4 = some (false, 1) := nr rfl
theorem v0_4 : zero2 Γ 4 = some (.bool false) := nr rfl
theorem vteql_4 {a b : Bool} : binV Γ E .eql 4 (.bool a) (.bool b) = some (.bool (a == b)) := by unfold binV; rw [vg_4]; try rfl
theorem vtneq_4 {a b : Bool} : binV Γ E .neq 4 (.bool a) (.bool b) = some (.bool (a != b)) := by unfold binV; rw [vg_4]; try rfl
attribute [go_sem] vg_4 vz_4 v0_4 vteql_4 vtneq_4
theorem vg_5 : Γ 5 = some ⟨.int .u8, 1, 1, [Value.int IntKind.u8 0]⟩ := nr rfl
theorem vz_5 : tz Γ 5 = some (false, 1) := nr rfl
theorem v0_5 : zero2 Γ 5 = some (.int .u8 0) := nr rfl
attribute [go_sem] vg_5 vz_5 v0_5
theorem vg_9 : Γ 9 = some ⟨.str, 1, 16, [Value.string ByteArray.empty]⟩ := nr rfl
theorem vz_9 : tz Γ 9 = some (false, 1) := nr rfl
theorem v0_9 : zero2 Γ 9 = some (.str .empty) := nr rfl
attribute [go_sem] vg_9 vz_9 v0_9
theorem vg_22 : Γ 22 = some ⟨.slice 61, 1, 24, [Value.slice none 0 0]⟩ := nr rfl
theorem vz_22 : tz Γ 22 = some (false, 1) := nr rfl
theorem v0_22 : zero2 Γ 22 = some .nil := nr rfl
theorem v1_22 : es1 Γ 22 = some 6 := nr rfl
theorem vm_22 : ms2 Γ st r 22 x y = msA st r 6 (zero2 Γ 61) x y := ms2_eq v1_22 vg_22
theorem va_22 {z : Nat} {v : List FV} : anE Γ .eql 22 (.fv (.row z v)) (.fv .nil) = v.isEmpty := anE_row vg_22
theorem vreql_22 {z : Nat} {v : List FV} : bin2 Γ E .eql 22 (.fv (.row z v)) (.fv .nil) = if v.isEmpty = true then none else some (.fv (.bool false)) := by
 show (if v.isEmpty = true then none else some false).map _ = _
 split <;> rfl
theorem vheql_22 {p : Pt} {z n : Nat} : bin2 Γ E .eql 22 (.hdr p z n) (.fv .nil) = some (.fv (.bool false)) := nr rfl
theorem vneql_22 : bin2 Γ E .eql 22 (.fv .nil) (.fv .nil) = some (.fv (.bool true)) := nr rfl
theorem vrneq_22 {z : Nat} {v : List FV} : bin2 Γ E .neq 22 (.fv (.row z v)) (.fv .nil) = if v.isEmpty = true then none else some (.fv (.bool true)) := by
 show (if v.isEmpty = true then none else some false).map _ = _
 split <;> rfl
theorem vhneq_22 {p : Pt} {z n : Nat} : bin2 Γ E .neq 22 (.hdr p z n) (.fv .nil) = some (.fv (.bool true)) := nr rfl
theorem vnneq_22 : bin2 Γ E .neq 22 (.fv .nil) (.fv .nil) = some (.fv (.bool false)) := nr rfl
attribute [go_sem] vg_22 vz_22 v0_22 v1_22 vm_22 va_22 vreql_22 vheql_22 vneql_22 vrneq_22 vhneq_22 vnneq_22
theorem vg_24 : Γ 24 = some ⟨.struct [(0, 22), (1, 3)], 2, 32, [Value.slice none 0 0, Value.int IntKind.i64 0]⟩ := nr rfl
theorem vz_24 : tz Γ 24 = some (true, 2) := nr rfl
theorem v0_24 : zero2 Γ 24 = some (.agg [.nil, (.int .i64 0)]) := nr rfl
theorem vb_24 {ps : List (Nat × Operand)} : bd2 Γ st 24 ps = (bdF Γ [(0, 22), (1, 3)] (([.nil, (.int .i64 0)] : List FV).map .fv) (ps.map fun p => (p.1, ev2 st p.2))).map mkA := bd2_eq vg_24 v0_24 (nr rfl)
attribute [go_sem] vg_24 vz_24 v0_24 vb_24
theorem vg_25 : Γ 25 = some ⟨.slice 3, 1, 24, [Value.slice none 0 0]⟩ := nr rfl
theorem vz_25 : tz Γ 25 = some (false, 1) := nr rfl
theorem v0_25 : zero2 Γ 25 = some .nil := nr rfl
theorem v1_25 : es1 Γ 25 = some 1 := nr rfl
theorem vm_25 : ms2 Γ st r 25 x y = msA st r 1 (zero2 Γ 3) x y := ms2_eq v1_25 vg_25
theorem va_25 {z : Nat} {v : List FV} : anE Γ .eql 25 (.fv (.row z v)) (.fv .nil) = v.isEmpty := anE_row vg_25
theorem vreql_25 {z : Nat} {v : List FV} : bin2 Γ E .eql 25 (.fv (.row z v)) (.fv .nil) = if v.isEmpty = true then none else some (.fv (.bool false)) := by
 show (if v.isEmpty = true then none else some false).map _ = _
 split <;> rfl
theorem vheql_25 {p : Pt} {z n : Nat} : bin2 Γ E .eql 25 (.hdr p z n) (.fv .nil) = some (.fv (.bool false)) := nr rfl
theorem vneql_25 : bin2 Γ E .eql 25 (.fv .nil) (.fv .nil) = some (.fv (.bool true)) := nr rfl
theorem vrneq_25 {z : Nat} {v : List FV} : bin2 Γ E .neq 25 (.fv (.row z v)) (.fv .nil) = if v.isEmpty = true then none else some (.fv (.bool true)) := by
 show (if v.isEmpty = true then none else some false).map _ = _
 split <;> rfl
theorem vhneq_25 {p : Pt} {z n : Nat} : bin2 Γ E .neq 25 (.hdr p z n) (.fv .nil) = some (.fv (.bool true)) := nr rfl
theorem vnneq_25 : bin2 Γ E .neq 25 (.fv .nil) (.fv .nil) = some (.fv (.bool false)) := nr rfl
attribute [go_sem] vg_25 vz_25 v0_25 v1_25 vm_25 va_25 vreql_25 vheql_25 vneql_25 vrneq_25 vhneq_25 vnneq_25
theorem vg_27 : Γ 27 = some ⟨.slice 46, 1, 24, [Value.slice none 0 0]⟩ := nr rfl
theorem vz_27 : tz Γ 27 = some (false, 1) := nr rfl
theorem v0_27 : zero2 Γ 27 = some .nil := nr rfl
theorem v1_27 : es1 Γ 27 = some 6 := nr rfl
theorem vm_27 : ms2 Γ st r 27 x y = msA st r 6 (zero2 Γ 46) x y := ms2_eq v1_27 vg_27
theorem va_27 {z : Nat} {v : List FV} : anE Γ .eql 27 (.fv (.row z v)) (.fv .nil) = v.isEmpty := anE_row vg_27
theorem vreql_27 {z : Nat} {v : List FV} : bin2 Γ E .eql 27 (.fv (.row z v)) (.fv .nil) = if v.isEmpty = true then none else some (.fv (.bool false)) := by
 show (if v.isEmpty = true then none else some false).map _ = _
 split <;> rfl
theorem vheql_27 {p : Pt} {z n : Nat} : bin2 Γ E .eql 27 (.hdr p z n) (.fv .nil) = some (.fv (.bool false)) := nr rfl
theorem vneql_27 : bin2 Γ E .eql 27 (.fv .nil) (.fv .nil) = some (.fv (.bool true)) := nr rfl
theorem vrneq_27 {z : Nat} {v : List FV} : bin2 Γ E .neq 27 (.fv (.row z v)) (.fv .nil) = if v.isEmpty = true then none else some (.fv (.bool true)) := by
 show (if v.isEmpty = true then none else some false).map _ = _
 split <;> rfl
theorem vhneq_27 {p : Pt} {z n : Nat} : bin2 Γ E .neq 27 (.hdr p z n) (.fv .nil) = some (.fv (.bool true)) := nr rfl
theorem vnneq_27 : bin2 Γ E .neq 27 (.fv .nil) (.fv .nil) = some (.fv (.bool false)) := nr rfl
attribute [go_sem] vg_27 vz_27 v0_27 v1_27 vm_27 va_27 vreql_27 vheql_27 vneql_27 vrneq_27 vhneq_27 vnneq_27
theorem vg_29 : Γ 29 = some ⟨.struct [(0, 27), (1, 3)], 2, 32, [Value.slice none 0 0, Value.int IntKind.i64 0]⟩ := nr rfl
theorem vz_29 : tz Γ 29 = some (true, 2) := nr rfl
theorem v0_29 : zero2 Γ 29 = some (.agg [.nil, (.int .i64 0)]) := nr rfl
theorem vb_29 {ps : List (Nat × Operand)} : bd2 Γ st 29 ps = (bdF Γ [(0, 27), (1, 3)] (([.nil, (.int .i64 0)] : List FV).map .fv) (ps.map fun p => (p.1, ev2 st p.2))).map mkA := bd2_eq vg_29 v0_29 (nr rfl)
attribute [go_sem] vg_29 vz_29 v0_29 vb_29
theorem vg_41 : Γ 41 = some ⟨.slice 94, 1, 24, [Value.slice none 0 0]⟩ := nr rfl
theorem vz_41 : tz Γ 41 = some (false, 1) := nr rfl
theorem v0_41 : zero2 Γ 41 = some .nil := nr rfl
theorem v1_41 : es1 Γ 41 = some 2 := nr rfl
theorem vm_41 : ms2 Γ st r 41 x y = msA st r 2 (zero2 Γ 94) x y := ms2_eq v1_41 vg_41
theorem va_41 {z : Nat} {v : List FV} : anE Γ .eql 41 (.fv (.row z v)) (.fv .nil) = v.isEmpty := anE_row vg_41
theorem vreql_41 {z : Nat} {v : List FV} : bin2 Γ E .eql 41 (.fv (.row z v)) (.fv .nil) = if v.isEmpty = true then none else some (.fv (.bool false)) := by
 show (if v.isEmpty = true then none else some false).map _ = _
 split <;> rfl
theorem vheql_41 {p : Pt} {z n : Nat} : bin2 Γ E .eql 41 (.hdr p z n) (.fv .nil) = some (.fv (.bool false)) := nr rfl
theorem vneql_41 : bin2 Γ E .eql 41 (.fv .nil) (.fv .nil) = some (.fv (.bool true)) := nr rfl
theorem vrneq_41 {z : Nat} {v : List FV} : bin2 Γ E .neq 41 (.fv (.row z v)) (.fv .nil) = if v.isEmpty = true then none else some (.fv (.bool true)) := by
 show (if v.isEmpty = true then none else some false).map _ = _
 split <;> rfl
theorem vhneq_41 {p : Pt} {z n : Nat} : bin2 Γ E .neq 41 (.hdr p z n) (.fv .nil) = some (.fv (.bool true)) := nr rfl
theorem vnneq_41 : bin2 Γ E .neq 41 (.fv .nil) (.fv .nil) = some (.fv (.bool false)) := nr rfl
attribute [go_sem] vg_41 vz_41 v0_41 v1_41 vm_41 va_41 vreql_41 vheql_41 vneql_41 vrneq_41 vhneq_41 vnneq_41
theorem vg_42 : Γ 42 = some ⟨.slice 49, 1, 24, [Value.slice none 0 0]⟩ := nr rfl
theorem vz_42 : tz Γ 42 = some (false, 1) := nr rfl
theorem v0_42 : zero2 Γ 42 = some .nil := nr rfl
theorem v1_42 : es1 Γ 42 = some 5 := nr rfl
theorem vm_42 : ms2 Γ st r 42 x y = msA st r 5 (zero2 Γ 49) x y := ms2_eq v1_42 vg_42
theorem va_42 {z : Nat} {v : List FV} : anE Γ .eql 42 (.fv (.row z v)) (.fv .nil) = v.isEmpty := anE_row vg_42
theorem vreql_42 {z : Nat} {v : List FV} : bin2 Γ E .eql 42 (.fv (.row z v)) (.fv .nil) = if v.isEmpty = true then none else some (.fv (.bool false)) := by
 show (if v.isEmpty = true then none else some false).map _ = _
 split <;> rfl
theorem vheql_42 {p : Pt} {z n : Nat} : bin2 Γ E .eql 42 (.hdr p z n) (.fv .nil) = some (.fv (.bool false)) := nr rfl
theorem vneql_42 : bin2 Γ E .eql 42 (.fv .nil) (.fv .nil) = some (.fv (.bool true)) := nr rfl
theorem vrneq_42 {z : Nat} {v : List FV} : bin2 Γ E .neq 42 (.fv (.row z v)) (.fv .nil) = if v.isEmpty = true then none else some (.fv (.bool true)) := by
 show (if v.isEmpty = true then none else some false).map _ = _
 split <;> rfl
theorem vhneq_42 {p : Pt} {z n : Nat} : bin2 Γ E .neq 42 (.hdr p z n) (.fv .nil) = some (.fv (.bool true)) := nr rfl
theorem vnneq_42 : bin2 Γ E .neq 42 (.fv .nil) (.fv .nil) = some (.fv (.bool false)) := nr rfl
attribute [go_sem] vg_42 vz_42 v0_42 v1_42 vm_42 va_42 vreql_42 vheql_42 vneql_42 vrneq_42 vhneq_42 vnneq_42
theorem vg_44 : Γ 44 = some ⟨.struct [(0, 3), (1, 3), (2, 3), (3, 3)], 4, 32, [Value.int IntKind.i64 0, Value.int IntKind.i64 0, Value.int IntKind.i64 0, Value.int IntKind.i64 0]⟩ := nr rfl
theorem vz_44 : tz Γ 44 = some (true, 4) := nr rfl
theorem v0_44 : zero2 Γ 44 = some (.agg [(.int .i64 0), (.int .i64 0), (.int .i64 0), (.int .i64 0)]) := nr rfl
theorem vb_44 {ps : List (Nat × Operand)} : bd2 Γ st 44 ps = (bdF Γ [(0, 3), (1, 3), (2, 3), (3, 3)] (([(.int .i64 0), (.int .i64 0), (.int .i64 0), (.int .i64 0)] : List FV).map .fv) (ps.map fun p => (p.1, ev2 st p.2))).map mkA := bd2_eq vg_44 v0_44 (nr rfl)
attribute [go_sem] vg_44 vz_44 v0_44 vb_44
theorem vg_46 : Γ 46 = some ⟨.struct [(0, 41), (1, 42), (2, 44)], 6, 80, [Value.slice none 0 0, Value.slice none 0 0, Value.int IntKind.i64 0, Value.int IntKind.i64 0, Value.int IntKind.i64 0, Value.int IntKind.i64 0]⟩ := nr rfl
theorem vz_46 : tz Γ 46 = some (true, 6) := nr rfl
theorem v0_46 : zero2 Γ 46 = some (.agg [.nil, .nil, (.agg [(.int .i64 0), (.int .i64 0), (.int .i64 0), (.int .i64 0)])]) := nr rfl
theorem vb_46 {ps : List (Nat × Operand)} : bd2 Γ st 46 ps = (bdF Γ [(0, 41), (1, 42), (2, 44)] (([.nil, .nil, (.agg [(.int .i64 0), (.int .i64 0), (.int .i64 0), (.int .i64 0)])] : List FV).map .fv) (ps.map fun p => (p.1, ev2 st p.2))).map mkA := bd2_eq vg_46 v0_46 (nr rfl)
attribute [go_sem] vg_46 vz_46 v0_46 vb_46
theorem vg_49 : Γ 49 = some ⟨.struct [(0, 3), (1, 3), (2, 3), (3, 3), (4, 3)], 5, 40, [Value.int IntKind.i64 0, Value.int IntKind.i64 0, Value.int IntKind.i64 0, Value.int IntKind.i64 0, Value.int IntKind.i64 0]⟩ := nr rfl
theorem vz_49 : tz Γ 49 = some (true, 5) := nr rfl
theorem v0_49 : zero2 Γ 49 = some (.agg [(.int .i64 0), (.int .i64 0), (.int .i64 0), (.int .i64 0), (.int .i64 0)]) := nr rfl
theorem vb_49 {ps : List (Nat × Operand)} : bd2 Γ st 49 ps = (bdF Γ [(0, 3), (1, 3), (2, 3), (3, 3), (4, 3)] (([(.int .i64 0), (.int .i64 0), (.int .i64 0), (.int .i64 0), (.int .i64 0)] : List FV).map .fv) (ps.map fun p => (p.1, ev2 st p.2))).map mkA := bd2_eq vg_49 v0_49 (nr rfl)
attribute [go_sem] vg_49 vz_49 v0_49 vb_49
theorem vg_57 : Γ 57 = some ⟨.slice 99, 1, 24, [Value.slice none 0 0]⟩ := nr rfl
theorem vz_57 : tz Γ 57 = some (false, 1) := nr rfl
theorem v0_57 : zero2 Γ 57 = some .nil := nr rfl
theorem v1_57 : es1 Γ 57 = some 2 := nr rfl
theorem vm_57 : ms2 Γ st r 57 x y = msA st r 2 (zero2 Γ 99) x y := ms2_eq v1_57 vg_57
theorem va_57 {z : Nat} {v : List FV} : anE Γ .eql 57 (.fv (.row z v)) (.fv .nil) = v.isEmpty := anE_row vg_57
theorem vreql_57 {z : Nat} {v : List FV} : bin2 Γ E .eql 57 (.fv (.row z v)) (.fv .nil) = if v.isEmpty = true then none else some (.fv (.bool false)) := by
 show (if v.isEmpty = true then none else some false).map _ = _
 split <;> rfl
theorem vheql_57 {p : Pt} {z n : Nat} : bin2 Γ E .eql 57 (.hdr p z n) (.fv .nil) = some (.fv (.bool false)) := nr rfl
theorem vneql_57 : bin2 Γ E .eql 57 (.fv .nil) (.fv .nil) = some (.fv (.bool true)) := nr rfl
theorem vrneq_57 {z : Nat} {v : List FV} : bin2 Γ E .neq 57 (.fv (.row z v)) (.fv .nil) = if v.isEmpty = true then none else some (.fv (.bool true)) := by
 show (if v.isEmpty = true then none else some false).map _ = _
 split <;> rfl
theorem vhneq_57 {p : Pt} {z n : Nat} : bin2 Γ E .neq 57 (.hdr p z n) (.fv .nil) = some (.fv (.bool true)) := nr rfl
theorem vnneq_57 : bin2 Γ E .neq 57 (.fv .nil) (.fv .nil) = some (.fv (.bool false)) := nr rfl
attribute [go_sem] vg_57 vz_57 v0_57 v1_57 vm_57 va_57 vreql_57 vheql_57 vneql_57 vrneq_57 vhneq_57 vnneq_57
theorem vg_58 : Γ 58 = some ⟨.slice 106, 1, 24, [Value.slice none 0 0]⟩ := nr rfl
theorem vz_58 : tz Γ 58 = some (false, 1) := nr rfl
theorem v0_58 : zero2 Γ 58 = some .nil := nr rfl
theorem v1_58 : es1 Γ 58 = some 5 := nr rfl
theorem vm_58 : ms2 Γ st r 58 x y = msA st r 5 (zero2 Γ 106) x y := ms2_eq v1_58 vg_58
theorem va_58 {z : Nat} {v : List FV} : anE Γ .eql 58 (.fv (.row z v)) (.fv .nil) = v.isEmpty := anE_row vg_58
theorem vreql_58 {z : Nat} {v : List FV} : bin2 Γ E .eql 58 (.fv (.row z v)) (.fv .nil) = if v.isEmpty = true then none else some (.fv (.bool false)) := by
 show (if v.isEmpty = true then none else some false).map _ = _
 split <;> rfl
theorem vheql_58 {p : Pt} {z n : Nat} : bin2 Γ E .eql 58 (.hdr p z n) (.fv .nil) = some (.fv (.bool false)) := nr rfl
theorem vneql_58 : bin2 Γ E .eql 58 (.fv .nil) (.fv .nil) = some (.fv (.bool true)) := nr rfl
theorem vrneq_58 {z : Nat} {v : List FV} : bin2 Γ E .neq 58 (.fv (.row z v)) (.fv .nil) = if v.isEmpty = true then none else some (.fv (.bool true)) := by
 show (if v.isEmpty = true then none else some false).map _ = _
 split <;> rfl
theorem vhneq_58 {p : Pt} {z n : Nat} : bin2 Γ E .neq 58 (.hdr p z n) (.fv .nil) = some (.fv (.bool true)) := nr rfl
theorem vnneq_58 : bin2 Γ E .neq 58 (.fv .nil) (.fv .nil) = some (.fv (.bool false)) := nr rfl
attribute [go_sem] vg_58 vz_58 v0_58 v1_58 vm_58 va_58 vreql_58 vheql_58 vneql_58 vrneq_58 vhneq_58 vnneq_58
theorem vg_59 : Γ 59 = some ⟨.struct [(0, 3), (1, 3), (2, 3), (3, 3)], 4, 32, [Value.int IntKind.i64 0, Value.int IntKind.i64 0, Value.int IntKind.i64 0, Value.int IntKind.i64 0]⟩ := nr rfl
theorem vz_59 : tz Γ 59 = some (true, 4) := nr rfl
theorem v0_59 : zero2 Γ 59 = some (.agg [(.int .i64 0), (.int .i64 0), (.int .i64 0), (.int .i64 0)]) := nr rfl
theorem vb_59 {ps : List (Nat × Operand)} : bd2 Γ st 59 ps = (bdF Γ [(0, 3), (1, 3), (2, 3), (3, 3)] (([(.int .i64 0), (.int .i64 0), (.int .i64 0), (.int .i64 0)] : List FV).map .fv) (ps.map fun p => (p.1, ev2 st p.2))).map mkA := bd2_eq vg_59 v0_59 (nr rfl)
attribute [go_sem] vg_59 vz_59 v0_59 vb_59
theorem vg_61 : Γ 61 = some ⟨.struct [(0, 57), (1, 58), (2, 59)], 6, 80, [Value.slice none 0 0, Value.slice none 0 0, Value.int IntKind.i64 0, Value.int IntKind.i64 0, Value.int IntKind.i64 0, Value.int IntKind.i64 0]⟩ := nr rfl
theorem vz_61 : tz Γ 61 = some (true, 6) := nr rfl
theorem v0_61 : zero2 Γ 61 = some (.agg [.nil, .nil, (.agg [(.int .i64 0), (.int .i64 0), (.int .i64 0), (.int .i64 0)])]) := nr rfl
theorem vb_61 {ps : List (Nat × Operand)} : bd2 Γ st 61 ps = (bdF Γ [(0, 57), (1, 58), (2, 59)] (([.nil, .nil, (.agg [(.int .i64 0), (.int .i64 0), (.int .i64 0), (.int .i64 0)])] : List FV).map .fv) (ps.map fun p => (p.1, ev2 st p.2))).map mkA := bd2_eq vg_61 v0_61 (nr rfl)
attribute [go_sem] vg_61 vz_61 v0_61 vb_61
theorem vg_63 : Γ 63 = some ⟨.fn, 1, 8, [Value.nilFunc]⟩ := nr rfl
theorem vz_63 : tz Γ 63 = some (false, 1) := nr rfl
attribute [go_sem] vg_63 vz_63
theorem vg_66 : Γ 66 = some ⟨.slice 68, 1, 24, [Value.slice none 0 0]⟩ := nr rfl
theorem vz_66 : tz Γ 66 = some (false, 1) := nr rfl
theorem v0_66 : zero2 Γ 66 = some .nil := nr rfl
theorem v1_66 : es1 Γ 66 = some 1 := nr rfl
theorem vm_66 : ms2 Γ st r 66 x y = msA st r 1 (zero2 Γ 68) x y := ms2_eq v1_66 vg_66
theorem va_66 {z : Nat} {v : List FV} : anE Γ .eql 66 (.fv (.row z v)) (.fv .nil) = v.isEmpty := anE_row vg_66
theorem vreql_66 {z : Nat} {v : List FV} : bin2 Γ E .eql 66 (.fv (.row z v)) (.fv .nil) = if v.isEmpty = true then none else some (.fv (.bool false)) := by
 show (if v.isEmpty = true then none else some false).map _ = _
 split <;> rfl
theorem vheql_66 {p : Pt} {z n : Nat} : bin2 Γ E .eql 66 (.hdr p z n) (.fv .nil) = some (.fv (.bool false)) := nr rfl
theorem vneql_66 : bin2 Γ E .eql 66 (.fv .nil) (.fv .nil) = some (.fv (.bool true)) := nr rfl
theorem vrneq_66 {z : Nat} {v : List FV} : bin2 Γ E .neq 66 (.fv (.row z v)) (.fv .nil) = if v.isEmpty = true then none else some (.fv (.bool true)) := by
 show (if v.isEmpty = true then none else some false).map _ = _
 split <;> rfl
theorem vhneq_66 {p : Pt} {z n : Nat} : bin2 Γ E .neq 66 (.hdr p z n) (.fv .nil) = some (.fv (.bool true)) := nr rfl
theorem vnneq_66 : bin2 Γ E .neq 66 (.fv .nil) (.fv .nil) = some (.fv (.bool false)) := nr rfl
attribute [go_sem] vg_66 vz_66 v0_66 v1_66 vm_66 va_66 vreql_66 vheql_66 vneql_66 vrneq_66 vhneq_66 vnneq_66
theorem vg_68 : Γ 68 = some ⟨.slice 4, 1, 24, [Value.slice none 0 0]⟩ := nr rfl
theorem vz_68 : tz Γ 68 = some (false, 1) := nr rfl
theorem v0_68 : zero2 Γ 68 = some .nil := nr rfl
theorem v1_68 : es1 Γ 68 = some 1 := nr rfl
theorem vm_68 : ms2 Γ st r 68 x y = msA st r 1 (zero2 Γ 4) x y := ms2_eq v1_68 vg_68
theorem va_68 {z : Nat} {v : List FV} : anE Γ .eql 68 (.fv (.row z v)) (.fv .nil) = v.isEmpty := anE_row vg_68
theorem vreql_68 {z : Nat} {v : List FV} : bin2 Γ E .eql 68 (.fv (.row z v)) (.fv .nil) = if v.isEmpty = true then none else some (.fv (.bool false)) := by
 show (if v.isEmpty = true then none else some false).map _ = _
 split <;> rfl
theorem vheql_68 {p : Pt} {z n : Nat} : bin2 Γ E .eql 68 (.hdr p z n) (.fv .nil) = some (.fv (.bool false)) := nr rfl
theorem vneql_68 : bin2 Γ E .eql 68 (.fv .nil) (.fv .nil) = some (.fv (.bool true)) := nr rfl
theorem vrneq_68 {z : Nat} {v : List FV} : bin2 Γ E .neq 68 (.fv (.row z v)) (.fv .nil) = if v.isEmpty = true then none else some (.fv (.bool true)) := by
 show (if v.isEmpty = true then none else some false).map _ = _
 split <;> rfl
theorem vhneq_68 {p : Pt} {z n : Nat} : bin2 Γ E .neq 68 (.hdr p z n) (.fv .nil) = some (.fv (.bool true)) := nr rfl
theorem vnneq_68 : bin2 Γ E .neq 68 (.fv .nil) (.fv .nil) = some (.fv (.bool false)) := nr rfl
attribute [go_sem] vg_68 vz_68 v0_68 v1_68 vm_68 va_68 vreql_68 vheql_68 vneql_68 vrneq_68 vhneq_68 vnneq_68
theorem vg_81 : Γ 81 = some ⟨.fn, 1, 8, [Value.nilFunc]⟩ := nr rfl
theorem vz_81 : tz Γ 81 = some (false, 1) := nr rfl
attribute [go_sem] vg_81 vz_81
theorem vg_88 : Γ 88 = some ⟨.slice 5, 1, 24, [Value.slice none 0 0]⟩ := nr rfl
theorem vz_88 : tz Γ 88 = some (false, 1) := nr rfl
theorem v0_88 : zero2 Γ 88 = some .nil := nr rfl
theorem v1_88 : es1 Γ 88 = some 1 := nr rfl
theorem vm_88 : ms2 Γ st r 88 x y = msA st r 1 (zero2 Γ 5) x y := ms2_eq v1_88 vg_88
theorem va_88 {z : Nat} {v : List FV} : anE Γ .eql 88 (.fv (.row z v)) (.fv .nil) = v.isEmpty := anE_row vg_88
theorem vreql_88 {z : Nat} {v : List FV} : bin2 Γ E .eql 88 (.fv (.row z v)) (.fv .nil) = if v.isEmpty = true then none else some (.fv (.bool false)) := by
 show (if v.isEmpty = true then none else some false).map _ = _
 split <;> rfl
theorem vheql_88 {p : Pt} {z n : Nat} : bin2 Γ E .eql 88 (.hdr p z n) (.fv .nil) = some (.fv (.bool false)) := nr rfl
theorem vneql_88 : bin2 Γ E .eql 88 (.fv .nil) (.fv .nil) = some (.fv (.bool true)) := nr rfl
theorem vrneq_88 {z : Nat} {v : List FV} : bin2 Γ E .neq 88 (.fv (.row z v)) (.fv .nil) = if v.isEmpty = true then none else some (.fv (.bool true)) := by
 show (if v.isEmpty = true then none else some false).map _ = _
 split <;> rfl
theorem vhneq_88 {p : Pt} {z n : Nat} : bin2 Γ E .neq 88 (.hdr p z n) (.fv .nil) = some (.fv (.bool true)) := nr rfl
theorem vnneq_88 : bin2 Γ E .neq 88 (.fv .nil) (.fv .nil) = some (.fv (.bool false)) := nr rfl
attribute [go_sem] vg_88 vz_88 v0_88 v1_88 vm_88 va_88 vreql_88 vheql_88 vneql_88 vrneq_88 vhneq_88 vnneq_88
theorem vg_92 : Γ 92 = some ⟨.slice 120, 1, 24, [Value.slice none 0 0]⟩ := nr rfl
theorem vz_92 : tz Γ 92 = some (false, 1) := nr rfl
theorem v0_92 : zero2 Γ 92 = some .nil := nr rfl
theorem v1_92 : es1 Γ 92 = some 2 := nr rfl
theorem vm_92 : ms2 Γ st r 92 x y = msA st r 2 (zero2 Γ 120) x y := ms2_eq v1_92 vg_92
theorem va_92 {z : Nat} {v : List FV} : anE Γ .eql 92 (.fv (.row z v)) (.fv .nil) = v.isEmpty := anE_row vg_92
theorem vreql_92 {z : Nat} {v : List FV} : bin2 Γ E .eql 92 (.fv (.row z v)) (.fv .nil) = if v.isEmpty = true then none else some (.fv (.bool false)) := by
 show (if v.isEmpty = true then none else some false).map _ = _
 split <;> rfl
theorem vheql_92 {p : Pt} {z n : Nat} : bin2 Γ E .eql 92 (.hdr p z n) (.fv .nil) = some (.fv (.bool false)) := nr rfl
theorem vneql_92 : bin2 Γ E .eql 92 (.fv .nil) (.fv .nil) = some (.fv (.bool true)) := nr rfl
theorem vrneq_92 {z : Nat} {v : List FV} : bin2 Γ E .neq 92 (.fv (.row z v)) (.fv .nil) = if v.isEmpty = true then none else some (.fv (.bool true)) := by
 show (if v.isEmpty = true then none else some false).map _ = _
 split <;> rfl
theorem vhneq_92 {p : Pt} {z n : Nat} : bin2 Γ E .neq 92 (.hdr p z n) (.fv .nil) = some (.fv (.bool true)) := nr rfl
theorem vnneq_92 : bin2 Γ E .neq 92 (.fv .nil) (.fv .nil) = some (.fv (.bool false)) := nr rfl
attribute [go_sem] vg_92 vz_92 v0_92 v1_92 vm_92 va_92 vreql_92 vheql_92 vneql_92 vrneq_92 vhneq_92 vnneq_92
theorem vg_94 : Γ 94 = some ⟨.struct [(0, 3), (1, 92)], 2, 32, [Value.int IntKind.i64 0, Value.slice none 0 0]⟩ := nr rfl
theorem vz_94 : tz Γ 94 = some (true, 2) := nr rfl
theorem v0_94 : zero2 Γ 94 = some (.agg [(.int .i64 0), .nil]) := nr rfl
theorem vb_94 {ps : List (Nat × Operand)} : bd2 Γ st 94 ps = (bdF Γ [(0, 3), (1, 92)] (([(.int .i64 0), .nil] : List FV).map .fv) (ps.map fun p => (p.1, ev2 st p.2))).map mkA := bd2_eq vg_94 v0_94 (nr rfl)
attribute [go_sem] vg_94 vz_94 v0_94 vb_94
theorem vg_97 : Γ 97 = some ⟨.slice 132, 1, 24, [Value.slice none 0 0]⟩ := nr rfl
theorem vz_97 : tz Γ 97 = some (false, 1) := nr rfl
theorem v0_97 : zero2 Γ 97 = some .nil := nr rfl
theorem v1_97 : es1 Γ 97 = some 2 := nr rfl
theorem vm_97 : ms2 Γ st r 97 x y = msA st r 2 (zero2 Γ 132) x y := ms2_eq v1_97 vg_97
theorem va_97 {z : Nat} {v : List FV} : anE Γ .eql 97 (.fv (.row z v)) (.fv .nil) = v.isEmpty := anE_row vg_97
theorem vreql_97 {z : Nat} {v : List FV} : bin2 Γ E .eql 97 (.fv (.row z v)) (.fv .nil) = if v.isEmpty = true then none else some (.fv (.bool false)) := by
 show (if v.isEmpty = true then none else some false).map _ = _
 split <;> rfl
theorem vheql_97 {p : Pt} {z n : Nat} : bin2 Γ E .eql 97 (.hdr p z n) (.fv .nil) = some (.fv (.bool false)) := nr rfl
theorem vneql_97 : bin2 Γ E .eql 97 (.fv .nil) (.fv .nil) = some (.fv (.bool true)) := nr rfl
theorem vrneq_97 {z : Nat} {v : List FV} : bin2 Γ E .neq 97 (.fv (.row z v)) (.fv .nil) = if v.isEmpty = true then none else some (.fv (.bool true)) := by
 show (if v.isEmpty = true then none else some false).map _ = _
 split <;> rfl
theorem vhneq_97 {p : Pt} {z n : Nat} : bin2 Γ E .neq 97 (.hdr p z n) (.fv .nil) = some (.fv (.bool true)) := nr rfl
theorem vnneq_97 : bin2 Γ E .neq 97 (.fv .nil) (.fv .nil) = some (.fv (.bool false)) := nr rfl
attribute [go_sem] vg_97 vz_97 v0_97 v1_97 vm_97 va_97 vreql_97 vheql_97 vneql_97 vrneq_97 vhneq_97 vnneq_97
theorem vg_99 : Γ 99 = some ⟨.struct [(0, 3), (1, 97)], 2, 32, [Value.int IntKind.i64 0, Value.slice none 0 0]⟩ := nr rfl
theorem vz_99 : tz Γ 99 = some (true, 2) := nr rfl
theorem v0_99 : zero2 Γ 99 = some (.agg [(.int .i64 0), .nil]) := nr rfl
theorem vb_99 {ps : List (Nat × Operand)} : bd2 Γ st 99 ps = (bdF Γ [(0, 3), (1, 97)] (([(.int .i64 0), .nil] : List FV).map .fv) (ps.map fun p => (p.1, ev2 st p.2))).map mkA := bd2_eq vg_99 v0_99 (nr rfl)
attribute [go_sem] vg_99 vz_99 v0_99 vb_99
theorem vg_106 : Γ 106 = some ⟨.struct [(0, 3), (1, 3), (2, 3), (3, 3), (4, 3)], 5, 40, [Value.int IntKind.i64 0, Value.int IntKind.i64 0, Value.int IntKind.i64 0, Value.int IntKind.i64 0, Value.int IntKind.i64 0]⟩ := nr rfl
theorem vz_106 : tz Γ 106 = some (true, 5) := nr rfl
theorem v0_106 : zero2 Γ 106 = some (.agg [(.int .i64 0), (.int .i64 0), (.int .i64 0), (.int .i64 0), (.int .i64 0)]) := nr rfl
theorem vb_106 {ps : List (Nat × Operand)} : bd2 Γ st 106 ps = (bdF Γ [(0, 3), (1, 3), (2, 3), (3, 3), (4, 3)] (([(.int .i64 0), (.int .i64 0), (.int .i64 0), (.int .i64 0), (.int .i64 0)] : List FV).map .fv) (ps.map fun p => (p.1, ev2 st p.2))).map mkA := bd2_eq vg_106 v0_106 (nr rfl)
attribute [go_sem] vg_106 vz_106 v0_106 vb_106
theorem vg_108 : Γ 108 = some ⟨.fn, 1, 8, [Value.nilFunc]⟩ := nr rfl
theorem vz_108 : tz Γ 108 = some (false, 1) := nr rfl
attribute [go_sem] vg_108 vz_108
theorem vg_110 : Γ 110 = some ⟨.fn, 1, 8, [Value.nilFunc]⟩ := nr rfl
theorem vz_110 : tz Γ 110 = some (false, 1) := nr rfl
attribute [go_sem] vg_110 vz_110
theorem vg_120 : Γ 120 = some ⟨.struct [(0, 3), (1, 3)], 2, 16, [Value.int IntKind.i64 0, Value.int IntKind.i64 0]⟩ := nr rfl
theorem vz_120 : tz Γ 120 = some (true, 2) := nr rfl
theorem v0_120 : zero2 Γ 120 = some (.agg [(.int .i64 0), (.int .i64 0)]) := nr rfl
theorem vb_120 {ps : List (Nat × Operand)} : bd2 Γ st 120 ps = (bdF Γ [(0, 3), (1, 3)] (([(.int .i64 0), (.int .i64 0)] : List FV).map .fv) (ps.map fun p => (p.1, ev2 st p.2))).map mkA := bd2_eq vg_120 v0_120 (nr rfl)
attribute [go_sem] vg_120 vz_120 v0_120 vb_120
theorem vg_128 : Γ 128 = some ⟨.fn, 1, 8, [Value.nilFunc]⟩ := nr rfl
theorem vz_128 : tz Γ 128 = some (false, 1) := nr rfl
attribute [go_sem] vg_128 vz_128
theorem vg_132 : Γ 132 = some ⟨.struct [(0, 3), (1, 3)], 2, 16, [Value.int IntKind.i64 0, Value.int IntKind.i64 0]⟩ := nr rfl
theorem vz_132 : tz Γ 132 = some (true, 2) := nr rfl
theorem v0_132 : zero2 Γ 132 = some (.agg [(.int .i64 0), (.int .i64 0)]) := nr rfl
theorem vb_132 {ps : List (Nat × Operand)} : bd2 Γ st 132 ps = (bdF Γ [(0, 3), (1, 3)] (([(.int .i64 0), (.int .i64 0)] : List FV).map .fv) (ps.map fun p => (p.1, ev2 st p.2))).map mkA := bd2_eq vg_132 v0_132 (nr rfl)
attribute [go_sem] vg_132 vz_132 v0_132 vb_132
theorem vc_9_88 {b : ByteArray} : cvA Γ st r 9 88 (.fv (.str b)) (cv2 Γ 9 88 (.fv (.str b))) = some ((r, .own 1 (bytesF b)) :: klS atL (clr r st)) := cv2_sb vg_9 vg_88 vg_5
theorem vx_9_88 : tx2 Γ st 9 88 x = none := tx2_no vg_9
attribute [go_sem] vc_9_88 vx_9_88
end
end Go.Proofs.YtonpnjfclelpiaaGreatM
