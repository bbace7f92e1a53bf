import Derived.Test.YtpinapckafbkiaaVBMvl
import Derived.Test.YtpinapckafbkiaaVBT
/- Tables for the walk by value. -/
namespace Go.Proofs.YtpinapckafbkiaaM
open Go
set_option linter.unusedVariables false
section
variable {st : St} {r t : Nat} {x y : DV}
theorem vg_3 : Γ 3 = some ⟨.int .i64, 1, 8, [Value.int IntKind.i64 0]⟩ := nr rfl
theorem vz_3 : tz Γ 3 = some (false, 1) := nr rfl
theorem v0_3 : zero2 Γ 3 = some (.int .i64 0) := nr rfl
attribute [go_sem] vg_3 vz_3 v0_3
theorem vg_4 : Γ 4 = some ⟨.bool, 1, 1, [Value.bool false]⟩ := nr rfl
theorem vz_4 : tz Γ 4 = some (false, 1) := nr rfl
theorem v0_4 : zero2 Γ 4 = some (.bool false) := nr rfl
theorem vteql_4 {a b : Bool} : binV Γ E .eql 4 (.bool a) (.bool b) = some (.bool (a == b)) := by unfold binV; rw [vg_4]; try rfl
theorem vtneq_4 {a b : Bool} : binV Γ E .neq 4 (.bool a) (.bool b) = some (.bool (a != b)) := by unfold binV; rw [vg_4]; try rfl
attribute [go_sem] vg_4 vz_4 v0_4 vteql_4 vtneq_4
theorem vg_5 : Γ 5 = some ⟨.int .u8, 1, 1, [Value.int IntKind.u8 0]⟩ := nr rfl
theorem vz_5 : tz Γ 5 = some (false, 1) := nr rfl
theorem v0_5 : zero2 Γ 5 = some (.int .u8 0) := nr rfl
attribute [go_sem] vg_5 vz_5 v0_5
theorem vg_9 : Γ 9 = some ⟨.str, 1, 16, [Value.string ByteArray.empty]⟩ := nr rfl
theorem vz_9 : tz Γ 9 = some (false, 1) := nr rfl
theorem v0_9 : zero2 Γ 9 = some (.str .empty) := nr rfl
attribute [go_sem] vg_9 vz_9 v0_9
theorem vg_22 : Γ 22 = some ⟨.slice 109, 1, 24, [Value.slice none 0 0]⟩ := nr rfl
theorem vz_22 : tz Γ 22 = some (false, 1) := nr rfl
theorem v0_22 : zero2 Γ 22 = some .nil := nr rfl
theorem v1_22 : es1 Γ 22 = some 6 := nr rfl
theorem vm_22 : ms2 Γ st r 22 x y = msA st r 6 (zero2 Γ 109) x y := ms2_eq v1_22 vg_22
theorem va_22 {z : Nat} {v : List FV} : anE Γ .eql 22 (.fv (.row z v)) (.fv .nil) = v.isEmpty := anE_row vg_22
theorem vreql_22 {z : Nat} {v : List FV} : bin2 Γ E .eql 22 (.fv (.row z v)) (.fv .nil) = if v.isEmpty = true then none else some (.fv (.bool false)) := by
  show (if v.isEmpty = true then none else some false).map _ = _
  split <;> rfl
theorem vheql_22 {p : Pt} {z n : Nat} : bin2 Γ E .eql 22 (.hdr p z n) (.fv .nil) = some (.fv (.bool false)) := nr rfl
theorem vneql_22 : bin2 Γ E .eql 22 (.fv .nil) (.fv .nil) = some (.fv (.bool true)) := nr rfl
theorem vrneq_22 {z : Nat} {v : List FV} : bin2 Γ E .neq 22 (.fv (.row z v)) (.fv .nil) = if v.isEmpty = true then none else some (.fv (.bool true)) := by
  show (if v.isEmpty = true then none else some false).map _ = _
  split <;> rfl
theorem vhneq_22 {p : Pt} {z n : Nat} : bin2 Γ E .neq 22 (.hdr p z n) (.fv .nil) = some (.fv (.bool true)) := nr rfl
theorem vnneq_22 : bin2 Γ E .neq 22 (.fv .nil) (.fv .nil) = some (.fv (.bool false)) := nr rfl
attribute [go_sem] vg_22 vz_22 v0_22 v1_22 vm_22 va_22 vreql_22 vheql_22 vneql_22 vrneq_22 vhneq_22 vnneq_22
theorem vg_24 : Γ 24 = some ⟨.struct [(0, 22), (1, 3)], 2, 32, [Value.slice none 0 0, Value.int IntKind.i64 0]⟩ := nr rfl
theorem vz_24 : tz Γ 24 = some (true, 2) := nr rfl
theorem v0_24 : zero2 Γ 24 = some (.agg [.nil, (.int .i64 0)]) := nr rfl
theorem vb_24 {ps : List (Nat × Operand)} : bd2 Γ st 24 ps = (bdF Γ [(0, 22), (1, 3)] (([.nil, (.int .i64 0)] : List FV).map .fv) (ps.map fun p => (p.1, ev2 st p.2))).map mkA := bd2_eq vg_24 v0_24 (nr rfl)
attribute [go_sem] vg_24 vz_24 v0_24 vb_24
theorem vg_26 : Γ 26 = some ⟨.slice 5, 1, 24, [Value.slice none 0 0]⟩ := nr rfl
theorem vz_26 : tz Γ 26 = some (false, 1) := nr rfl
theorem v0_26 : zero2 Γ 26 = some .nil := nr rfl
theorem v1_26 : es1 Γ 26 = some 1 := nr rfl
theorem vm_26 : ms2 Γ st r 26 x y = msA st r 1 (zero2 Γ 5) x y := ms2_eq v1_26 vg_26
theorem va_26 {z : Nat} {v : List FV} : anE Γ .eql 26 (.fv (.row z v)) (.fv .nil) = v.isEmpty := anE_row vg_26
theorem vreql_26 {z : Nat} {v : List FV} : bin2 Γ E .eql 26 (.fv (.row z v)) (.fv .nil) = if v.isEmpty = true then none else some (.fv (.bool false)) := by
  show (if v.isEmpty = true then none else some false).map _ = _
  split <;> rfl
theorem vheql_26 {p : Pt} {z n : Nat} : bin2 Γ E .eql 26 (.hdr p z n) (.fv .nil) = some (.fv (.bool false)) := nr rfl
theorem vneql_26 : bin2 Γ E .eql 26 (.fv .nil) (.fv .nil) = some (.fv (.bool true)) := nr rfl
theorem vrneq_26 {z : Nat} {v : List FV} : bin2 Γ E .neq 26 (.fv (.row z v)) (.fv .nil) = if v.isEmpty = true then none else some (.fv (.bool true)) := by
  show (if v.isEmpty = true then none else some false).map _ = _
  split <;> rfl
theorem vhneq_26 {p : Pt} {z n : Nat} : bin2 Γ E .neq 26 (.hdr p z n) (.fv .nil) = some (.fv (.bool true)) := nr rfl
theorem vnneq_26 : bin2 Γ E .neq 26 (.fv .nil) (.fv .nil) = some (.fv (.bool false)) := nr rfl
attribute [go_sem] vg_26 vz_26 v0_26 v1_26 vm_26 va_26 vreql_26 vheql_26 vneql_26 vrneq_26 vhneq_26 vnneq_26
theorem vg_29 : Γ 29 = some ⟨.slice 62, 1, 24, [Value.slice none 0 0]⟩ := nr rfl
theorem vz_29 : tz Γ 29 = some (false, 1) := nr rfl
theorem v0_29 : zero2 Γ 29 = some .nil := nr rfl
theorem v1_29 : es1 Γ 29 = some 6 := nr rfl
theorem vm_29 : ms2 Γ st r 29 x y = msA st r 6 (zero2 Γ 62) x y := ms2_eq v1_29 vg_29
theorem va_29 {z : Nat} {v : List FV} : anE Γ .eql 29 (.fv (.row z v)) (.fv .nil) = v.isEmpty := anE_row vg_29
theorem vreql_29 {z : Nat} {v : List FV} : bin2 Γ E .eql 29 (.fv (.row z v)) (.fv .nil) = if v.isEmpty = true then none else some (.fv (.bool false)) := by
  show (if v.isEmpty = true then none else some false).map _ = _
  split <;> rfl
theorem vheql_29 {p : Pt} {z n : Nat} : bin2 Γ E .eql 29 (.hdr p z n) (.fv .nil) = some (.fv (.bool false)) := nr rfl
theorem vneql_29 : bin2 Γ E .eql 29 (.fv .nil) (.fv .nil) = some (.fv (.bool true)) := nr rfl
theorem vrneq_29 {z : Nat} {v : List FV} : bin2 Γ E .neq 29 (.fv (.row z v)) (.fv .nil) = if v.isEmpty = true then none else some (.fv (.bool true)) := by
  show (if v.isEmpty = true then none else some false).map _ = _
  split <;> rfl
theorem vhneq_29 {p : Pt} {z n : Nat} : bin2 Γ E .neq 29 (.hdr p z n) (.fv .nil) = some (.fv (.bool true)) := nr rfl
theorem vnneq_29 : bin2 Γ E .neq 29 (.fv .nil) (.fv .nil) = some (.fv (.bool false)) := nr rfl
attribute [go_sem] vg_29 vz_29 v0_29 v1_29 vm_29 va_29 vreql_29 vheql_29 vneql_29 vrneq_29 vhneq_29 vnneq_29
theorem vg_31 : Γ 31 = some ⟨.struct [(0, 29), (1, 3)], 2, 32, [Value.slice none 0 0, Value.int IntKind.i64 0]⟩ := nr rfl
theorem vz_31 : tz Γ 31 = some (true, 2) := nr rfl
theorem v0_31 : zero2 Γ 31 = some (.agg [.nil, (.int .i64 0)]) := nr rfl
theorem vb_31 {ps : List (Nat × Operand)} : bd2 Γ st 31 ps = (bdF Γ [(0, 29), (1, 3)] (([.nil, (.int .i64 0)] : List FV).map .fv) (ps.map fun p => (p.1, ev2 st p.2))).map mkA := bd2_eq vg_31 v0_31 (nr rfl)
attribute [go_sem] vg_31 vz_31 v0_31 vb_31
theorem vg_45 : Γ 45 = some ⟨.slice 3, 1, 24, [Value.slice none 0 0]⟩ := nr rfl
theorem vz_45 : tz Γ 45 = some (false, 1) := nr rfl
theorem v0_45 : zero2 Γ 45 = some .nil := nr rfl
theorem v1_45 : es1 Γ 45 = some 1 := nr rfl
theorem vm_45 : ms2 Γ st r 45 x y = msA st r 1 (zero2 Γ 3) x y := ms2_eq v1_45 vg_45
theorem va_45 {z : Nat} {v : List FV} : anE Γ .eql 45 (.fv (.row z v)) (.fv .nil) = v.isEmpty := anE_row vg_45
theorem vreql_45 {z : Nat} {v : List FV} : bin2 Γ E .eql 45 (.fv (.row z v)) (.fv .nil) = if v.isEmpty = true then none else some (.fv (.bool false)) := by
  show (if v.isEmpty = true then none else some false).map _ = _
  split <;> rfl
theorem vheql_45 {p : Pt} {z n : Nat} : bin2 Γ E .eql 45 (.hdr p z n) (.fv .nil) = some (.fv (.bool false)) := nr rfl
theorem vneql_45 : bin2 Γ E .eql 45 (.fv .nil) (.fv .nil) = some (.fv (.bool true)) := nr rfl
theorem vrneq_45 {z : Nat} {v : List FV} : bin2 Γ E .neq 45 (.fv (.row z v)) (.fv .nil) = if v.isEmpty = true then none else some (.fv (.bool true)) := by
  show (if v.isEmpty = true then none else some false).map _ = _
  split <;> rfl
theorem vhneq_45 {p : Pt} {z n : Nat} : bin2 Γ E .neq 45 (.hdr p z n) (.fv .nil) = some (.fv (.bool true)) := nr rfl
theorem vnneq_45 : bin2 Γ E .neq 45 (.fv .nil) (.fv .nil) = some (.fv (.bool false)) := nr rfl
attribute [go_sem] vg_45 vz_45 v0_45 v1_45 vm_45 va_45 vreql_45 vheql_45 vneql_45 vrneq_45 vhneq_45 vnneq_45
theorem vg_57 : Γ 57 = some ⟨.slice 66, 1, 24, [Value.slice none 0 0]⟩ := nr rfl
theorem vz_57 : tz Γ 57 = some (false, 1) := nr rfl
theorem v0_57 : zero2 Γ 57 = some .nil := nr rfl
theorem v1_57 : es1 Γ 57 = some 2 := nr rfl
theorem vm_57 : ms2 Γ st r 57 x y = msA st r 2 (zero2 Γ 66) x y := ms2_eq v1_57 vg_57
theorem va_57 {z : Nat} {v : List FV} : anE Γ .eql 57 (.fv (.row z v)) (.fv .nil) = v.isEmpty := anE_row vg_57
theorem vreql_57 {z : Nat} {v : List FV} : bin2 Γ E .eql 57 (.fv (.row z v)) (.fv .nil) = if v.isEmpty = true then none else some (.fv (.bool false)) := by
  show (if v.isEmpty = true then none else some false).map _ = _
  split <;> rfl
theorem vheql_57 {p : Pt} {z n : Nat} : bin2 Γ E .eql 57 (.hdr p z n) (.fv .nil) = some (.fv (.bool false)) := nr rfl
theorem vneql_57 : bin2 Γ E .eql 57 (.fv .nil) (.fv .nil) = some (.fv (.bool true)) := nr rfl
theorem vrneq_57 {z : Nat} {v : List FV} : bin2 Γ E .neq 57 (.fv (.row z v)) (.fv .nil) = if v.isEmpty = true then none else some (.fv (.bool true)) := by
  show (if v.isEmpty = true then none else some false).map _ = _
  split <;> rfl
theorem vhneq_57 {p : Pt} {z n : Nat} : bin2 Γ E .neq 57 (.hdr p z n) (.fv .nil) = some (.fv (.bool true)) := nr rfl
theorem vnneq_57 : bin2 Γ E .neq 57 (.fv .nil) (.fv .nil) = some (.fv (.bool false)) := nr rfl
attribute [go_sem] vg_57 vz_57 v0_57 v1_57 vm_57 va_57 vreql_57 vheql_57 vneql_57 vrneq_57 vhneq_57 vnneq_57
theorem vg_58 : Γ 58 = some ⟨.slice 70, 1, 24, [Value.slice none 0 0]⟩ := nr rfl
theorem vz_58 : tz Γ 58 = some (false, 1) := nr rfl
theorem v0_58 : zero2 Γ 58 = some .nil := nr rfl
theorem v1_58 : es1 Γ 58 = some 5 := nr rfl
theorem vm_58 : ms2 Γ st r 58 x y = msA st r 5 (zero2 Γ 70) x y := ms2_eq v1_58 vg_58
theorem va_58 {z : Nat} {v : List FV} : anE Γ .eql 58 (.fv (.row z v)) (.fv .nil) = v.isEmpty := anE_row vg_58
theorem vreql_58 {z : Nat} {v : List FV} : bin2 Γ E .eql 58 (.fv (.row z v)) (.fv .nil) = if v.isEmpty = true then none else some (.fv (.bool false)) := by
  show (if v.isEmpty = true then none else some false).map _ = _
  split <;> rfl
theorem vheql_58 {p : Pt} {z n : Nat} : bin2 Γ E .eql 58 (.hdr p z n) (.fv .nil) = some (.fv (.bool false)) := nr rfl
theorem vneql_58 : bin2 Γ E .eql 58 (.fv .nil) (.fv .nil) = some (.fv (.bool true)) := nr rfl
theorem vrneq_58 {z : Nat} {v : List FV} : bin2 Γ E .neq 58 (.fv (.row z v)) (.fv .nil) = if v.isEmpty = true then none else some (.fv (.bool true)) := by
  show (if v.isEmpty = true then none else some false).map _ = _
  split <;> rfl
theorem vhneq_58 {p : Pt} {z n : Nat} : bin2 Γ E .neq 58 (.hdr p z n) (.fv .nil) = some (.fv (.bool true)) := nr rfl
theorem vnneq_58 : bin2 Γ E .neq 58 (.fv .nil) (.fv .nil) = some (.fv (.bool false)) := nr rfl
attribute [go_sem] vg_58 vz_58 v0_58 v1_58 vm_58 va_58 vreql_58 vheql_58 vneql_58 vrneq_58 vhneq_58 vnneq_58
theorem vg_60 : Γ 60 = some ⟨.struct [(0, 3), (1, 3), (2, 3), (3, 3)], 4, 32, [Value.int IntKind.i64 0, Value.int IntKind.i64 0, Value.int IntKind.i64 0, Value.int IntKind.i64 0]⟩ := nr rfl
theorem vz_60 : tz Γ 60 = some (true, 4) := nr rfl
theorem v0_60 : zero2 Γ 60 = some (.agg [(.int .i64 0), (.int .i64 0), (.int .i64 0), (.int .i64 0)]) := nr rfl
theorem vb_60 {ps : List (Nat × Operand)} : bd2 Γ st 60 ps = (bdF Γ [(0, 3), (1, 3), (2, 3), (3, 3)] (([(.int .i64 0), (.int .i64 0), (.int .i64 0), (.int .i64 0)] : List FV).map .fv) (ps.map fun p => (p.1, ev2 st p.2))).map mkA := bd2_eq vg_60 v0_60 (nr rfl)
attribute [go_sem] vg_60 vz_60 v0_60 vb_60
theorem vg_62 : Γ 62 = some ⟨.struct [(0, 57), (1, 58), (2, 60)], 6, 80, [Value.slice none 0 0, Value.slice none 0 0, Value.int IntKind.i64 0, Value.int IntKind.i64 0, Value.int IntKind.i64 0, Value.int IntKind.i64 0]⟩ := nr rfl
theorem vz_62 : tz Γ 62 = some (true, 6) := nr rfl
theorem v0_62 : zero2 Γ 62 = some (.agg [.nil, .nil, (.agg [(.int .i64 0), (.int .i64 0), (.int .i64 0), (.int .i64 0)])]) := nr rfl
theorem vb_62 {ps : List (Nat × Operand)} : bd2 Γ st 62 ps = (bdF Γ [(0, 57), (1, 58), (2, 60)] (([.nil, .nil, (.agg [(.int .i64 0), (.int .i64 0), (.int .i64 0), (.int .i64 0)])] : List FV).map .fv) (ps.map fun p => (p.1, ev2 st p.2))).map mkA := bd2_eq vg_62 v0_62 (nr rfl)
attribute [go_sem] vg_62 vz_62 v0_62 vb_62
theorem vg_64 : Γ 64 = some ⟨.slice 68, 1, 24, [Value.slice none 0 0]⟩ := nr rfl
theorem vz_64 : tz Γ 64 = some (false, 1) := nr rfl
theorem v0_64 : zero2 Γ 64 = some .nil := nr rfl
theorem v1_64 : es1 Γ 64 = some 2 := nr rfl
theorem vm_64 : ms2 Γ st r 64 x y = msA st r 2 (zero2 Γ 68) x y := ms2_eq v1_64 vg_64
theorem va_64 {z : Nat} {v : List FV} : anE Γ .eql 64 (.fv (.row z v)) (.fv .nil) = v.isEmpty := anE_row vg_64
theorem vreql_64 {z : Nat} {v : List FV} : bin2 Γ E .eql 64 (.fv (.row z v)) (.fv .nil) = if v.isEmpty = true then none else some (.fv (.bool false)) := by
  show (if v.isEmpty = true then none else some false).map _ = _
  split <;> rfl
theorem vheql_64 {p : Pt} {z n : Nat} : bin2 Γ E .eql 64 (.hdr p z n) (.fv .nil) = some (.fv (.bool false)) := nr rfl
theorem vneql_64 : bin2 Γ E .eql 64 (.fv .nil) (.fv .nil) = some (.fv (.bool true)) := nr rfl
theorem vrneq_64 {z : Nat} {v : List FV} : bin2 Γ E .neq 64 (.fv (.row z v)) (.fv .nil) = if v.isEmpty = true then none else some (.fv (.bool true)) := by
  show (if v.isEmpty = true then none else some false).map _ = _
  split <;> rfl
theorem vhneq_64 {p : Pt} {z n : Nat} : bin2 Γ E .neq 64 (.hdr p z n) (.fv .nil) = some (.fv (.bool true)) := nr rfl
theorem vnneq_64 : bin2 Γ E .neq 64 (.fv .nil) (.fv .nil) = some (.fv (.bool false)) := nr rfl
attribute [go_sem] vg_64 vz_64 v0_64 v1_64 vm_64 va_64 vreql_64 vheql_64 vneql_64 vrneq_64 vhneq_64 vnneq_64
theorem vg_66 : Γ 66 = some ⟨.struct [(0, 3), (1, 64)], 2, 32, [Value.int IntKind.i64 0, Value.slice none 0 0]⟩ := nr rfl
theorem vz_66 : tz Γ 66 = some (true, 2) := nr rfl
theorem v0_66 : zero2 Γ 66 = some (.agg [(.int .i64 0), .nil]) := nr rfl
theorem vb_66 {ps : List (Nat × Operand)} : bd2 Γ st 66 ps = (bdF Γ [(0, 3), (1, 64)] (([(.int .i64 0), .nil] : List FV).map .fv) (ps.map fun p => (p.1, ev2 st p.2))).map mkA := bd2_eq vg_66 v0_66 (nr rfl)
attribute [go_sem] vg_66 vz_66 v0_66 vb_66
theorem vg_68 : Γ 68 = some ⟨.struct [(0, 3), (1, 3)], 2, 16, [Value.int IntKind.i64 0, Value.int IntKind.i64 0]⟩ := nr rfl
theorem vz_68 : tz Γ 68 = some (true, 2) := nr rfl
theorem v0_68 : zero2 Γ 68 = some (.agg [(.int .i64 0), (.int .i64 0)]) := nr rfl
theorem vb_68 {ps : List (Nat × Operand)} : bd2 Γ st 68 ps = (bdF Γ [(0, 3), (1, 3)] (([(.int .i64 0), (.int .i64 0)] : List FV).map .fv) (ps.map fun p => (p.1, ev2 st p.2))).map mkA := bd2_eq vg_68 v0_68 (nr rfl)
attribute [go_sem] vg_68 vz_68 v0_68 vb_68
theorem vg_70 : Γ 70 = some ⟨.struct [(0, 3), (1, 3), (2, 3), (3, 3), (4, 3)], 5, 40, [Value.int IntKind.i64 0, Value.int IntKind.i64 0, Value.int IntKind.i64 0, Value.int IntKind.i64 0, Value.int IntKind.i64 0]⟩ := nr rfl
theorem vz_70 : tz Γ 70 = some (true, 5) := nr rfl
theorem v0_70 : zero2 Γ 70 = some (.agg [(.int .i64 0), (.int .i64 0), (.int .i64 0), (.int .i64 0), (.int .i64 0)]) := nr rfl
theorem vb_70 {ps : List (Nat × Operand)} : bd2 Γ st 70 ps = (bdF Γ [(0, 3), (1, 3), (2, 3), (3, 3), (4, 3)] (([(.int .i64 0), (.int .i64 0), (.int .i64 0), (.int .i64 0), (.int .i64 0)] : List FV).map .fv) (ps.map fun p => (p.1, ev2 st p.2))).map mkA := bd2_eq vg_70 v0_70 (nr rfl)
attribute [go_sem] vg_70 vz_70 v0_70 vb_70
theorem vg_72 : Γ 72 = some ⟨.ptr, 1, 8, [Value.pointer none]⟩ := nr rfl
theorem vz_72 : tz Γ 72 = some (false, 1) := nr rfl
theorem v0_72 : zero2 Γ 72 = some .nilp := nr rfl
attribute [go_sem] vg_72 vz_72 v0_72
theorem vg_74 : Γ 74 = some ⟨.struct [(0, 26), (1, 4)], 2, 32, [Value.slice none 0 0, Value.bool false]⟩ := nr rfl
theorem vz_74 : tz Γ 74 = some (true, 2) := nr rfl
theorem v0_74 : zero2 Γ 74 = some (.agg [.nil, (.bool false)]) := nr rfl
theorem vb_74 {ps : List (Nat × Operand)} : bd2 Γ st 74 ps = (bdF Γ [(0, 26), (1, 4)] (([.nil, (.bool false)] : List FV).map .fv) (ps.map fun p => (p.1, ev2 st p.2))).map mkA := bd2_eq vg_74 v0_74 (nr rfl)
attribute [go_sem] vg_74 vz_74 v0_74 vb_74
theorem vg_105 : Γ 105 = some ⟨.slice 183, 1, 24, [Value.slice none 0 0]⟩ := nr rfl
theorem vz_105 : tz Γ 105 = some (false, 1) := nr rfl
theorem v0_105 : zero2 Γ 105 = some .nil := nr rfl
theorem v1_105 : es1 Γ 105 = some 2 := nr rfl
theorem vm_105 : ms2 Γ st r 105 x y = msA st r 2 (zero2 Γ 183) x y := ms2_eq v1_105 vg_105
theorem va_105 {z : Nat} {v : List FV} : anE Γ .eql 105 (.fv (.row z v)) (.fv .nil) = v.isEmpty := anE_row vg_105
theorem vreql_105 {z : Nat} {v : List FV} : bin2 Γ E .eql 105 (.fv (.row z v)) (.fv .nil) = if v.isEmpty = true then none else some (.fv (.bool false)) := by
  show (if v.isEmpty = true then none else some false).map _ = _
  split <;> rfl
theorem vheql_105 {p : Pt} {z n : Nat} : bin2 Γ E .eql 105 (.hdr p z n) (.fv .nil) = some (.fv (.bool false)) := nr rfl
theorem vneql_105 : bin2 Γ E .eql 105 (.fv .nil) (.fv .nil) = some (.fv (.bool true)) := nr rfl
theorem vrneq_105 {z : Nat} {v : List FV} : bin2 Γ E .neq 105 (.fv (.row z v)) (.fv .nil) = if v.isEmpty = true then none else some (.fv (.bool true)) := by
  show (if v.isEmpty = true then none else some false).map _ = _
  split <;> rfl
theorem vhneq_105 {p : Pt} {z n : Nat} : bin2 Γ E .neq 105 (.hdr p z n) (.fv .nil) = some (.fv (.bool true)) := nr rfl
theorem vnneq_105 : bin2 Γ E .neq 105 (.fv .nil) (.fv .nil) = some (.fv (.bool false)) := nr rfl
attribute [go_sem] vg_105 vz_105 v0_105 v1_105 vm_105 va_105 vreql_105 vheql_105 vneql_105 vrneq_105 vhneq_105 vnneq_105
theorem vg_106 : Γ 106 = some ⟨.slice 186, 1, 24, [Value.slice none 0 0]⟩ := nr rfl
theorem vz_106 : tz Γ 106 = some (false, 1) := nr rfl
theorem v0_106 : zero2 Γ 106 = some .nil := nr rfl
theorem v1_106 : es1 Γ 106 = some 5 := nr rfl
theorem vm_106 : ms2 Γ st r 106 x y = msA st r 5 (zero2 Γ 186) x y := ms2_eq v1_106 vg_106
theorem va_106 {z : Nat} {v : List FV} : anE Γ .eql 106 (.fv (.row z v)) (.fv .nil) = v.isEmpty := anE_row vg_106
theorem vreql_106 {z : Nat} {v : List FV} : bin2 Γ E .eql 106 (.fv (.row z v)) (.fv .nil) = if v.isEmpty = true then none else some (.fv (.bool false)) := by
  show (if v.isEmpty = true then none else some false).map _ = _
  split <;> rfl
theorem vheql_106 {p : Pt} {z n : Nat} : bin2 Γ E .eql 106 (.hdr p z n) (.fv .nil) = some (.fv (.bool false)) := nr rfl
theorem vneql_106 : bin2 Γ E .eql 106 (.fv .nil) (.fv .nil) = some (.fv (.bool true)) := nr rfl
theorem vrneq_106 {z : Nat} {v : List FV} : bin2 Γ E .neq 106 (.fv (.row z v)) (.fv .nil) = if v.isEmpty = true then none else some (.fv (.bool true)) := by
  show (if v.isEmpty = true then none else some false).map _ = _
  split <;> rfl
theorem vhneq_106 {p : Pt} {z n : Nat} : bin2 Γ E .neq 106 (.hdr p z n) (.fv .nil) = some (.fv (.bool true)) := nr rfl
theorem vnneq_106 : bin2 Γ E .neq 106 (.fv .nil) (.fv .nil) = some (.fv (.bool false)) := nr rfl
attribute [go_sem] vg_106 vz_106 v0_106 v1_106 vm_106 va_106 vreql_106 vheql_106 vneql_106 vrneq_106 vhneq_106 vnneq_106
theorem vg_107 : Γ 107 = some ⟨.struct [(0, 3), (1, 3), (2, 3), (3, 3)], 4, 32, [Value.int IntKind.i64 0, Value.int IntKind.i64 0, Value.int IntKind.i64 0, Value.int IntKind.i64 0]⟩ := nr rfl
theorem vz_107 : tz Γ 107 = some (true, 4) := nr rfl
theorem v0_107 : zero2 Γ 107 = some (.agg [(.int .i64 0), (.int .i64 0), (.int .i64 0), (.int .i64 0)]) := nr rfl
theorem vb_107 {ps : List (Nat × Operand)} : bd2 Γ st 107 ps = (bdF Γ [(0, 3), (1, 3), (2, 3), (3, 3)] (([(.int .i64 0), (.int .i64 0), (.int .i64 0), (.int .i64 0)] : List FV).map .fv) (ps.map fun p => (p.1, ev2 st p.2))).map mkA := bd2_eq vg_107 v0_107 (nr rfl)
attribute [go_sem] vg_107 vz_107 v0_107 vb_107
theorem vg_109 : Γ 109 = some ⟨.struct [(0, 105), (1, 106), (2, 107)], 6, 80, [Value.slice none 0 0, Value.slice none 0 0, Value.int IntKind.i64 0, Value.int IntKind.i64 0, Value.int IntKind.i64 0, Value.int IntKind.i64 0]⟩ := nr rfl
theorem vz_109 : tz Γ 109 = some (true, 6) := nr rfl
theorem v0_109 : zero2 Γ 109 = some (.agg [.nil, .nil, (.agg [(.int .i64 0), (.int .i64 0), (.int .i64 0), (.int .i64 0)])]) := nr rfl
theorem vb_109 {ps : List (Nat × Operand)} : bd2 Γ st 109 ps = (bdF Γ [(0, 105), (1, 106), (2, 107)] (([.nil, .nil, (.agg [(.int .i64 0), (.int .i64 0), (.int .i64 0), (.int .i64 0)])] : List FV).map .fv) (ps.map fun p => (p.1, ev2 st p.2))).map mkA := bd2_eq vg_109 v0_109 (nr rfl)
attribute [go_sem] vg_109 vz_109 v0_109 vb_109
theorem vg_117 : Γ 117 = some ⟨.fn, 1, 8, [Value.nilFunc]⟩ := nr rfl
theorem vz_117 : tz Γ 117 = some (false, 1) := nr rfl
attribute [go_sem] vg_117 vz_117
theorem vg_119 : Γ 119 = some ⟨.fn, 1, 8, [Value.nilFunc]⟩ := nr rfl
theorem vz_119 : tz Γ 119 = some (false, 1) := nr rfl
attribute [go_sem] vg_119 vz_119
theorem vg_120 : Γ 120 = some ⟨.fn, 1, 8, [Value.nilFunc]⟩ := nr rfl
theorem vz_120 : tz Γ 120 = some (false, 1) := nr rfl
attribute [go_sem] vg_120 vz_120
theorem vg_156 : Γ 156 = some ⟨.fn, 1, 8, [Value.nilFunc]⟩ := nr rfl
theorem vz_156 : tz Γ 156 = some (false, 1) := nr rfl
attribute [go_sem] vg_156 vz_156
theorem vg_161 : Γ 161 = some ⟨.int .u64, 1, 8, [Value.int IntKind.u64 0]⟩ := nr rfl
theorem vz_161 : tz Γ 161 = some (false, 1) := nr rfl
theorem v0_161 : zero2 Γ 161 = some (.int .u64 0) := nr rfl
attribute [go_sem] vg_161 vz_161 v0_161
theorem vg_181 : Γ 181 = some ⟨.slice 203, 1, 24, [Value.slice none 0 0]⟩ := nr rfl
theorem vz_181 : tz Γ 181 = some (false, 1) := nr rfl
theorem v0_181 : zero2 Γ 181 = some .nil := nr rfl
theorem v1_181 : es1 Γ 181 = some 2 := nr rfl
theorem vm_181 : ms2 Γ st r 181 x y = msA st r 2 (zero2 Γ 203) x y := ms2_eq v1_181 vg_181
theorem va_181 {z : Nat} {v : List FV} : anE Γ .eql 181 (.fv (.row z v)) (.fv .nil) = v.isEmpty := anE_row vg_181
theorem vreql_181 {z : Nat} {v : List FV} : bin2 Γ E .eql 181 (.fv (.row z v)) (.fv .nil) = if v.isEmpty = true then none else some (.fv (.bool false)) := by
  show (if v.isEmpty = true then none else some false).map _ = _
  split <;> rfl
theorem vheql_181 {p : Pt} {z n : Nat} : bin2 Γ E .eql 181 (.hdr p z n) (.fv .nil) = some (.fv (.bool false)) := nr rfl
theorem vneql_181 : bin2 Γ E .eql 181 (.fv .nil) (.fv .nil) = some (.fv (.bool true)) := nr rfl
theorem vrneq_181 {z : Nat} {v : List FV} : bin2 Γ E .neq 181 (.fv (.row z v)) (.fv .nil) = if v.isEmpty = true then none else some (.fv (.bool true)) := by
  show (if v.isEmpty = true then none else some false).map _ = _
  split <;> rfl
theorem vhneq_181 {p : Pt} {z n : Nat} : bin2 Γ E .neq 181 (.hdr p z n) (.fv .nil) = some (.fv (.bool true)) := nr rfl
theorem vnneq_181 : bin2 Γ E .neq 181 (.fv .nil) (.fv .nil) = some (.fv (.bool false)) := nr rfl
attribute [go_sem] vg_181 vz_181 v0_181 v1_181 vm_181 va_181 vreql_181 vheql_181 vneql_181 vrneq_181 vhneq_181 vnneq_181
theorem vg_183 : Γ 183 = some ⟨.struct [(0, 3), (1, 181)], 2, 32, [Value.int IntKind.i64 0, Value.slice none 0 0]⟩ := nr rfl
theorem vz_183 : tz Γ 183 = some (true, 2) := nr rfl
theorem v0_183 : zero2 Γ 183 = some (.agg [(.int .i64 0), .nil]) := nr rfl
theorem vb_183 {ps : List (Nat × Operand)} : bd2 Γ st 183 ps = (bdF Γ [(0, 3), (1, 181)] (([(.int .i64 0), .nil] : List FV).map .fv) (ps.map fun p => (p.1, ev2 st p.2))).map mkA := bd2_eq vg_183 v0_183 (nr rfl)
attribute [go_sem] vg_183 vz_183 v0_183 vb_183
theorem vg_186 : Γ 186 = some ⟨.struct [(0, 3), (1, 3), (2, 3), (3, 3), (4, 3)], 5, 40, [Value.int IntKind.i64 0, Value.int IntKind.i64 0, Value.int IntKind.i64 0, Value.int IntKind.i64 0, Value.int IntKind.i64 0]⟩ := nr rfl
theorem vz_186 : tz Γ 186 = some (true, 5) := nr rfl
theorem v0_186 : zero2 Γ 186 = some (.agg [(.int .i64 0), (.int .i64 0), (.int .i64 0), (.int .i64 0), (.int .i64 0)]) := nr rfl
theorem vb_186 {ps : List (Nat × Operand)} : bd2 Γ st 186 ps = (bdF Γ [(0, 3), (1, 3), (2, 3), (3, 3), (4, 3)] (([(.int .i64 0), (.int .i64 0), (.int .i64 0), (.int .i64 0), (.int .i64 0)] : List FV).map .fv) (ps.map fun p => (p.1, ev2 st p.2))).map mkA := bd2_eq vg_186 v0_186 (nr rfl)
attribute [go_sem] vg_186 vz_186 v0_186 vb_186
theorem vg_203 : Γ 203 = some ⟨.struct [(0, 3), (1, 3)], 2, 16, [Value.int IntKind.i64 0, Value.int IntKind.i64 0]⟩ := nr rfl
theorem vz_203 : tz Γ 203 = some (true, 2) := nr rfl
theorem v0_203 : zero2 Γ 203 = some (.agg [(.int .i64 0), (.int .i64 0)]) := nr rfl
theorem vb_203 {ps : List (Nat × Operand)} : bd2 Γ st 203 ps = (bdF Γ [(0, 3), (1, 3)] (([(.int .i64 0), (.int .i64 0)] : List FV).map .fv) (ps.map fun p => (p.1, ev2 st p.2))).map mkA := bd2_eq vg_203 v0_203 (nr rfl)
attribute [go_sem] vg_203 vz_203 v0_203 vb_203
theorem vc_3_5 {kk : IntKind} {m : Int} : cv2 Γ 3 5 (.fv (.int kk m)) = some (.fv (.int .u8 (IntKind.wrap .u8 m))) := cv2_ii vg_3 vg_5
theorem vc_3_161 {kk : IntKind} {m : Int} : cv2 Γ 3 161 (.fv (.int kk m)) = some (.fv (.int .u64 (IntKind.wrap .u64 m))) := cv2_ii vg_3 vg_161
theorem vc_9_26 {b : ByteArray} : cvA Γ st r 9 26 (.fv (.str b)) (cv2 Γ 9 26 (.fv (.str b))) = some ((r, .own 1 (bytesF b)) :: klS atL (clr r st)) := cv2_sb vg_9 vg_26 vg_5
theorem vx_9_26 : tx2 Γ st 9 26 x = none := tx2_no vg_9
theorem vc_161_5 {kk : IntKind} {m : Int} : cv2 Γ 161 5 (.fv (.int kk m)) = some (.fv (.int .u8 (IntKind.wrap .u8 m))) := cv2_ii vg_161 vg_5
attribute [go_sem] vc_3_5 vc_3_161 vc_9_26 vx_9_26 vc_161_5
end
end Go.Proofs.YtpinapckafbkiaaM
