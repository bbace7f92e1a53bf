import Derived.Test.YtbfphlaeiahljaaGreatVCMvl
import Derived.Test.YtbfphlaeiahljaaGreatVCT
/- Tables for the walk by value. -/
namespace Go.Proofs.YtbfphlaeiahljaaGreatM
open Go
set_option linter.unusedVariables false
section
variable {st : St} {r t : Nat} {x y : DV}
theorem vg_3 : Γ 3 = some ⟨.int .i64, 1, 8, [Value.int IntKind.i64 0]⟩ := nr rfl
theorem vz_3 : tz Γ 3 = some (false, 1) := nr rfl
theorem v0_3 : zero2 Γ 3 = some (.int .i64 0) := nr rfl
attribute [go_sem] vg_3 vz_3 v0_3
theorem vg_4 : Γ 4 = some ⟨.bool, 1, 1, [Value.bool false]⟩ := nr rfl
theorem vz_4 : tz Γ 4 = some (false, 1) := nr rfl
theorem v0_4 : zero2 Γ 4 = some (.bool false) := nr rfl
theorem vteql_4 {a b : Bool} : binV Γ E .eql 4 (.bool a) (.bool b) = some (.bool (a == b)) := by unfold binV; rw [vg_4]; try rfl
theorem vtneq_4 {a b : Bool} : binV Γ E .neq 4 (.bool a) (.bool b) = some (.bool (a != b)) := by unfold binV; rw [vg_4]; try rfl
attribute [go_sem] vg_4 vz_4 v0_4 vteql_4 vtneq_4
theorem vg_5 : Γ 5 = some ⟨.int .u8, 1, 1, [Value.int IntKind.u8 0]⟩ := nr rfl
theorem vz_5 : tz Γ 5 = some (false, 1) := nr rfl
theorem v0_5 : zero2 Γ 5 = some (.int .u8 0) := nr rfl
attribute [go_sem] vg_5 vz_5 v0_5
theorem vg_9 : Γ 9 = some ⟨.str, 1, 16, [Value.string ByteArray.empty]⟩ := nr rfl
theorem vz_9 : tz Γ 9 = some (false, 1) := nr rfl
theorem v0_9 : zero2 Γ 9 = some (.str .empty) := nr rfl
attribute [go_sem] vg_9 vz_9 v0_9
theorem vg_22 : Γ 22 = some ⟨.slice 85, 1, 24, [Value.slice none 0 0]⟩ := nr rfl
theorem vz_22 : tz Γ 22 = some (false, 1) := nr rfl
theorem v0_22 : zero2 Γ 22 = some .nil := nr rfl
theorem v1_22 : es1 Γ 22 = some 6 := nr rfl
theorem vm_22 : ms2 Γ st r 22 x y = msA st r 6 (zero2 Γ 85) x y := ms2_eq v1_22 vg_22
theorem va_22 {z : Nat} {v : List FV} : anE Γ .eql 22 (.fv (.row z v)) (.fv .nil) = v.isEmpty := anE_row vg_22
theorem vreql_22 {z : Nat} {v : List FV} : bin2 Γ E .eql 22 (.fv (.row z v)) (.fv .nil) = if v.isEmpty = true then none else some (.fv (.bool false)) := by
  show (if v.isEmpty = true then none else some false).map _ = _
  split <;> rfl
theorem vheql_22 {p : Pt} {z n : Nat} : bin2 Γ E .eql 22 (.hdr p z n) (.fv .nil) = some (.fv (.bool false)) := nr rfl
theorem vneql_22 : bin2 Γ E .eql 22 (.fv .nil) (.fv .nil) = some (.fv (.bool true)) := nr rfl
theorem vrneq_22 {z : Nat} {v : List FV} : bin2 Γ E .neq 22 (.fv (.row z v)) (.fv .nil) = if v.isEmpty = true then none else some (.fv (.bool true)) := by
  show (if v.isEmpty = true then none else some false).map _ = _
  split <;> rfl
theorem vhneq_22 {p : Pt} {z n : Nat} : bin2 Γ E .neq 22 (.hdr p z n) (.fv .nil) = some (.fv (.bool true)) := nr rfl
theorem vnneq_22 : bin2 Γ E .neq 22 (.fv .nil) (.fv .nil) = some (.fv (.bool false)) := nr rfl
attribute [go_sem] vg_22 vz_22 v0_22 v1_22 vm_22 va_22 vreql_22 vheql_22 vneql_22 vrneq_22 vhneq_22 vnneq_22
theorem vg_24 : Γ 24 = some ⟨.struct [(0, 22), (1, 3)], 2, 32, [Value.slice none 0 0, Value.int IntKind.i64 0]⟩ := nr rfl
theorem vz_24 : tz Γ 24 = some (true, 2) := nr rfl
theorem v0_24 : zero2 Γ 24 = some (.agg [.nil, (.int .i64 0)]) := nr rfl
theorem vb_24 {ps : List (Nat × Operand)} : bd2 Γ st 24 ps = (bdF Γ [(0, 22), (1, 3)] (([.nil, (.int .i64 0)] : List FV).map .fv) (ps.map fun p => (p.1, ev2 st p.2))).map mkA := bd2_eq vg_24 v0_24 (nr rfl)
attribute [go_sem] vg_24 vz_24 v0_24 vb_24
theorem vg_26 : Γ 26 = some ⟨.slice 59, 1, 24, [Value.slice none 0 0]⟩ := nr rfl
theorem vz_26 : tz Γ 26 = some (false, 1) := nr rfl
theorem v0_26 : zero2 Γ 26 = some .nil := nr rfl
theorem v1_26 : es1 Γ 26 = some 5 := nr rfl
theorem vm_26 : ms2 Γ st r 26 x y = msA st r 5 (zero2 Γ 59) x y := ms2_eq v1_26 vg_26
theorem va_26 {z : Nat} {v : List FV} : anE Γ .eql 26 (.fv (.row z v)) (.fv .nil) = v.isEmpty := anE_row vg_26
theorem vreql_26 {z : Nat} {v : List FV} : bin2 Γ E .eql 26 (.fv (.row z v)) (.fv .nil) = if v.isEmpty = true then none else some (.fv (.bool false)) := by
  show (if v.isEmpty = true then none else some false).map _ = _
  split <;> rfl
theorem vheql_26 {p : Pt} {z n : Nat} : bin2 Γ E .eql 26 (.hdr p z n) (.fv .nil) = some (.fv (.bool false)) := nr rfl
theorem vneql_26 : bin2 Γ E .eql 26 (.fv .nil) (.fv .nil) = some (.fv (.bool true)) := nr rfl
theorem vrneq_26 {z : Nat} {v : List FV} : bin2 Γ E .neq 26 (.fv (.row z v)) (.fv .nil) = if v.isEmpty = true then none else some (.fv (.bool true)) := by
  show (if v.isEmpty = true then none else some false).map _ = _
  split <;> rfl
theorem vhneq_26 {p : Pt} {z n : Nat} : bin2 Γ E .neq 26 (.hdr p z n) (.fv .nil) = some (.fv (.bool true)) := nr rfl
theorem vnneq_26 : bin2 Γ E .neq 26 (.fv .nil) (.fv .nil) = some (.fv (.bool false)) := nr rfl
attribute [go_sem] vg_26 vz_26 v0_26 v1_26 vm_26 va_26 vreql_26 vheql_26 vneql_26 vrneq_26 vhneq_26 vnneq_26
theorem vg_29 : Γ 29 = some ⟨.slice 53, 1, 24, [Value.slice none 0 0]⟩ := nr rfl
theorem vz_29 : tz Γ 29 = some (false, 1) := nr rfl
theorem v0_29 : zero2 Γ 29 = some .nil := nr rfl
theorem v1_29 : es1 Γ 29 = some 6 := nr rfl
theorem vm_29 : ms2 Γ st r 29 x y = msA st r 6 (zero2 Γ 53) x y := ms2_eq v1_29 vg_29
theorem va_29 {z : Nat} {v : List FV} : anE Γ .eql 29 (.fv (.row z v)) (.fv .nil) = v.isEmpty := anE_row vg_29
theorem vreql_29 {z : Nat} {v : List FV} : bin2 Γ E .eql 29 (.fv (.row z v)) (.fv .nil) = if v.isEmpty = true then none else some (.fv (.bool false)) := by
  show (if v.isEmpty = true then none else some false).map _ = _
  split <;> rfl
theorem vheql_29 {p : Pt} {z n : Nat} : bin2 Γ E .eql 29 (.hdr p z n) (.fv .nil) = some (.fv (.bool false)) := nr rfl
theorem vneql_29 : bin2 Γ E .eql 29 (.fv .nil) (.fv .nil) = some (.fv (.bool true)) := nr rfl
theorem vrneq_29 {z : Nat} {v : List FV} : bin2 Γ E .neq 29 (.fv (.row z v)) (.fv .nil) = if v.isEmpty = true then none else some (.fv (.bool true)) := by
  show (if v.isEmpty = true then none else some false).map _ = _
  split <;> rfl
theorem vhneq_29 {p : Pt} {z n : Nat} : bin2 Γ E .neq 29 (.hdr p z n) (.fv .nil) = some (.fv (.bool true)) := nr rfl
theorem vnneq_29 : bin2 Γ E .neq 29 (.fv .nil) (.fv .nil) = some (.fv (.bool false)) := nr rfl
attribute [go_sem] vg_29 vz_29 v0_29 v1_29 vm_29 va_29 vreql_29 vheql_29 vneql_29 vrneq_29 vhneq_29 vnneq_29
theorem vg_31 : Γ 31 = some ⟨.struct [(0, 29), (1, 3)], 2, 32, [Value.slice none 0 0, Value.int IntKind.i64 0]⟩ := nr rfl
theorem vz_31 : tz Γ 31 = some (true, 2) := nr rfl
theorem v0_31 : zero2 Γ 31 = some (.agg [.nil, (.int .i64 0)]) := nr rfl
theorem vb_31 {ps : List (Nat × Operand)} : bd2 Γ st 31 ps = (bdF Γ [(0, 29), (1, 3)] (([.nil, (.int .i64 0)] : List FV).map .fv) (ps.map fun p => (p.1, ev2 st p.2))).map mkA := bd2_eq vg_31 v0_31 (nr rfl)
attribute [go_sem] vg_31 vz_31 v0_31 vb_31
theorem vg_38 : Γ 38 = some ⟨.slice 3, 1, 24, [Value.slice none 0 0]⟩ := nr rfl
theorem vz_38 : tz Γ 38 = some (false, 1) := nr rfl
theorem v0_38 : zero2 Γ 38 = some .nil := nr rfl
theorem v1_38 : es1 Γ 38 = some 1 := nr rfl
theorem vm_38 : ms2 Γ st r 38 x y = msA st r 1 (zero2 Γ 3) x y := ms2_eq v1_38 vg_38
theorem va_38 {z : Nat} {v : List FV} : anE Γ .eql 38 (.fv (.row z v)) (.fv .nil) = v.isEmpty := anE_row vg_38
theorem vreql_38 {z : Nat} {v : List FV} : bin2 Γ E .eql 38 (.fv (.row z v)) (.fv .nil) = if v.isEmpty = true then none else some (.fv (.bool false)) := by
  show (if v.isEmpty = true then none else some false).map _ = _
  split <;> rfl
theorem vheql_38 {p : Pt} {z n : Nat} : bin2 Γ E .eql 38 (.hdr p z n) (.fv .nil) = some (.fv (.bool false)) := nr rfl
theorem vneql_38 : bin2 Γ E .eql 38 (.fv .nil) (.fv .nil) = some (.fv (.bool true)) := nr rfl
theorem vrneq_38 {z : Nat} {v : List FV} : bin2 Γ E .neq 38 (.fv (.row z v)) (.fv .nil) = if v.isEmpty = true then none else some (.fv (.bool true)) := by
  show (if v.isEmpty = true then none else some false).map _ = _
  split <;> rfl
theorem vhneq_38 {p : Pt} {z n : Nat} : bin2 Γ E .neq 38 (.hdr p z n) (.fv .nil) = some (.fv (.bool true)) := nr rfl
theorem vnneq_38 : bin2 Γ E .neq 38 (.fv .nil) (.fv .nil) = some (.fv (.bool false)) := nr rfl
attribute [go_sem] vg_38 vz_38 v0_38 v1_38 vm_38 va_38 vreql_38 vheql_38 vneql_38 vrneq_38 vhneq_38 vnneq_38
theorem vg_48 : Γ 48 = some ⟨.slice 117, 1, 24, [Value.slice none 0 0]⟩ := nr rfl
theorem vz_48 : tz Γ 48 = some (false, 1) := nr rfl
theorem v0_48 : zero2 Γ 48 = some .nil := nr rfl
theorem v1_48 : es1 Γ 48 = some 2 := nr rfl
theorem vm_48 : ms2 Γ st r 48 x y = msA st r 2 (zero2 Γ 117) x y := ms2_eq v1_48 vg_48
theorem va_48 {z : Nat} {v : List FV} : anE Γ .eql 48 (.fv (.row z v)) (.fv .nil) = v.isEmpty := anE_row vg_48
theorem vreql_48 {z : Nat} {v : List FV} : bin2 Γ E .eql 48 (.fv (.row z v)) (.fv .nil) = if v.isEmpty = true then none else some (.fv (.bool false)) := by
  show (if v.isEmpty = true then none else some false).map _ = _
  split <;> rfl
theorem vheql_48 {p : Pt} {z n : Nat} : bin2 Γ E .eql 48 (.hdr p z n) (.fv .nil) = some (.fv (.bool false)) := nr rfl
theorem vneql_48 : bin2 Γ E .eql 48 (.fv .nil) (.fv .nil) = some (.fv (.bool true)) := nr rfl
theorem vrneq_48 {z : Nat} {v : List FV} : bin2 Γ E .neq 48 (.fv (.row z v)) (.fv .nil) = if v.isEmpty = true then none else some (.fv (.bool true)) := by
  show (if v.isEmpty = true then none else some false).map _ = _
  split <;> rfl
theorem vhneq_48 {p : Pt} {z n : Nat} : bin2 Γ E .neq 48 (.hdr p z n) (.fv .nil) = some (.fv (.bool true)) := nr rfl
theorem vnneq_48 : bin2 Γ E .neq 48 (.fv .nil) (.fv .nil) = some (.fv (.bool false)) := nr rfl
attribute [go_sem] vg_48 vz_48 v0_48 v1_48 vm_48 va_48 vreql_48 vheql_48 vneql_48 vrneq_48 vhneq_48 vnneq_48
theorem vg_49 : Γ 49 = some ⟨.slice 56, 1, 24, [Value.slice none 0 0]⟩ := nr rfl
theorem vz_49 : tz Γ 49 = some (false, 1) := nr rfl
theorem v0_49 : zero2 Γ 49 = some .nil := nr rfl
theorem v1_49 : es1 Γ 49 = some 5 := nr rfl
theorem vm_49 : ms2 Γ st r 49 x y = msA st r 5 (zero2 Γ 56) x y := ms2_eq v1_49 vg_49
theorem va_49 {z : Nat} {v : List FV} : anE Γ .eql 49 (.fv (.row z v)) (.fv .nil) = v.isEmpty := anE_row vg_49
theorem vreql_49 {z : Nat} {v : List FV} : bin2 Γ E .eql 49 (.fv (.row z v)) (.fv .nil) = if v.isEmpty = true then none else some (.fv (.bool false)) := by
  show (if v.isEmpty = true then none else some false).map _ = _
  split <;> rfl
theorem vheql_49 {p : Pt} {z n : Nat} : bin2 Γ E .eql 49 (.hdr p z n) (.fv .nil) = some (.fv (.bool false)) := nr rfl
theorem vneql_49 : bin2 Γ E .eql 49 (.fv .nil) (.fv .nil) = some (.fv (.bool true)) := nr rfl
theorem vrneq_49 {z : Nat} {v : List FV} : bin2 Γ E .neq 49 (.fv (.row z v)) (.fv .nil) = if v.isEmpty = true then none else some (.fv (.bool true)) := by
  show (if v.isEmpty = true then none else some false).map _ = _
  split <;> rfl
theorem vhneq_49 {p : Pt} {z n : Nat} : bin2 Γ E .neq 49 (.hdr p z n) (.fv .nil) = some (.fv (.bool true)) := nr rfl
theorem vnneq_49 : bin2 Γ E .neq 49 (.fv .nil) (.fv .nil) = some (.fv (.bool false)) := nr rfl
attribute [go_sem] vg_49 vz_49 v0_49 v1_49 vm_49 va_49 vreql_49 vheql_49 vneql_49 vrneq_49 vhneq_49 vnneq_49
theorem vg_51 : Γ 51 = some ⟨.struct [(0, 3), (1, 3), (2, 3), (3, 3)], 4, 32, [Value.int IntKind.i64 0, Value.int IntKind.i64 0, Value.int IntKind.i64 0, Value.int IntKind.i64 0]⟩ := nr rfl
theorem vz_51 : tz Γ 51 = some (true, 4) := nr rfl
theorem v0_51 : zero2 Γ 51 = some (.agg [(.int .i64 0), (.int .i64 0), (.int .i64 0), (.int .i64 0)]) := nr rfl
theorem vb_51 {ps : List (Nat × Operand)} : bd2 Γ st 51 ps = (bdF Γ [(0, 3), (1, 3), (2, 3), (3, 3)] (([(.int .i64 0), (.int .i64 0), (.int .i64 0), (.int .i64 0)] : List FV).map .fv) (ps.map fun p => (p.1, ev2 st p.2))).map mkA := bd2_eq vg_51 v0_51 (nr rfl)
attribute [go_sem] vg_51 vz_51 v0_51 vb_51
theorem vg_53 : Γ 53 = some ⟨.struct [(0, 48), (1, 49), (2, 51)], 6, 80, [Value.slice none 0 0, Value.slice none 0 0, Value.int IntKind.i64 0, Value.int IntKind.i64 0, Value.int IntKind.i64 0, Value.int IntKind.i64 0]⟩ := nr rfl
theorem vz_53 : tz Γ 53 = some (true, 6) := nr rfl
theorem v0_53 : zero2 Γ 53 = some (.agg [.nil, .nil, (.agg [(.int .i64 0), (.int .i64 0), (.int .i64 0), (.int .i64 0)])]) := nr rfl
theorem vb_53 {ps : List (Nat × Operand)} : bd2 Γ st 53 ps = (bdF Γ [(0, 48), (1, 49), (2, 51)] (([.nil, .nil, (.agg [(.int .i64 0), (.int .i64 0), (.int .i64 0), (.int .i64 0)])] : List FV).map .fv) (ps.map fun p => (p.1, ev2 st p.2))).map mkA := bd2_eq vg_53 v0_53 (nr rfl)
attribute [go_sem] vg_53 vz_53 v0_53 vb_53
theorem vg_56 : Γ 56 = some ⟨.struct [(0, 3), (1, 3), (2, 3), (3, 3), (4, 3)], 5, 40, [Value.int IntKind.i64 0, Value.int IntKind.i64 0, Value.int IntKind.i64 0, Value.int IntKind.i64 0, Value.int IntKind.i64 0]⟩ := nr rfl
theorem vz_56 : tz Γ 56 = some (true, 5) := nr rfl
theorem v0_56 : zero2 Γ 56 = some (.agg [(.int .i64 0), (.int .i64 0), (.int .i64 0), (.int .i64 0), (.int .i64 0)]) := nr rfl
theorem vb_56 {ps : List (Nat × Operand)} : bd2 Γ st 56 ps = (bdF Γ [(0, 3), (1, 3), (2, 3), (3, 3), (4, 3)] (([(.int .i64 0), (.int .i64 0), (.int .i64 0), (.int .i64 0), (.int .i64 0)] : List FV).map .fv) (ps.map fun p => (p.1, ev2 st p.2))).map mkA := bd2_eq vg_56 v0_56 (nr rfl)
attribute [go_sem] vg_56 vz_56 v0_56 vb_56
theorem vg_59 : Γ 59 = some ⟨.struct [(0, 3), (1, 3), (2, 3), (3, 3), (4, 3)], 5, 40, [Value.int IntKind.i64 0, Value.int IntKind.i64 0, Value.int IntKind.i64 0, Value.int IntKind.i64 0, Value.int IntKind.i64 0]⟩ := nr rfl
theorem vz_59 : tz Γ 59 = some (true, 5) := nr rfl
theorem v0_59 : zero2 Γ 59 = some (.agg [(.int .i64 0), (.int .i64 0), (.int .i64 0), (.int .i64 0), (.int .i64 0)]) := nr rfl
theorem vb_59 {ps : List (Nat × Operand)} : bd2 Γ st 59 ps = (bdF Γ [(0, 3), (1, 3), (2, 3), (3, 3), (4, 3)] (([(.int .i64 0), (.int .i64 0), (.int .i64 0), (.int .i64 0), (.int .i64 0)] : List FV).map .fv) (ps.map fun p => (p.1, ev2 st p.2))).map mkA := bd2_eq vg_59 v0_59 (nr rfl)
attribute [go_sem] vg_59 vz_59 v0_59 vb_59
theorem vg_62 : Γ 62 = some ⟨.fn, 1, 8, [Value.nilFunc]⟩ := nr rfl
theorem vz_62 : tz Γ 62 = some (false, 1) := nr rfl
attribute [go_sem] vg_62 vz_62
theorem vg_74 : Γ 74 = some ⟨.slice 4, 1, 24, [Value.slice none 0 0]⟩ := nr rfl
theorem vz_74 : tz Γ 74 = some (false, 1) := nr rfl
theorem v0_74 : zero2 Γ 74 = some .nil := nr rfl
theorem v1_74 : es1 Γ 74 = some 1 := nr rfl
theorem vm_74 : ms2 Γ st r 74 x y = msA st r 1 (zero2 Γ 4) x y := ms2_eq v1_74 vg_74
theorem va_74 {z : Nat} {v : List FV} : anE Γ .eql 74 (.fv (.row z v)) (.fv .nil) = v.isEmpty := anE_row vg_74
theorem vreql_74 {z : Nat} {v : List FV} : bin2 Γ E .eql 74 (.fv (.row z v)) (.fv .nil) = if v.isEmpty = true then none else some (.fv (.bool false)) := by
  show (if v.isEmpty = true then none else some false).map _ = _
  split <;> rfl
theorem vheql_74 {p : Pt} {z n : Nat} : bin2 Γ E .eql 74 (.hdr p z n) (.fv .nil) = some (.fv (.bool false)) := nr rfl
theorem vneql_74 : bin2 Γ E .eql 74 (.fv .nil) (.fv .nil) = some (.fv (.bool true)) := nr rfl
theorem vrneq_74 {z : Nat} {v : List FV} : bin2 Γ E .neq 74 (.fv (.row z v)) (.fv .nil) = if v.isEmpty = true then none else some (.fv (.bool true)) := by
  show (if v.isEmpty = true then none else some false).map _ = _
  split <;> rfl
theorem vhneq_74 {p : Pt} {z n : Nat} : bin2 Γ E .neq 74 (.hdr p z n) (.fv .nil) = some (.fv (.bool true)) := nr rfl
theorem vnneq_74 : bin2 Γ E .neq 74 (.fv .nil) (.fv .nil) = some (.fv (.bool false)) := nr rfl
attribute [go_sem] vg_74 vz_74 v0_74 v1_74 vm_74 va_74 vreql_74 vheql_74 vneql_74 vrneq_74 vhneq_74 vnneq_74
theorem vg_81 : Γ 81 = some ⟨.slice 148, 1, 24, [Value.slice none 0 0]⟩ := nr rfl
theorem vz_81 : tz Γ 81 = some (false, 1) := nr rfl
theorem v0_81 : zero2 Γ 81 = some .nil := nr rfl
theorem v1_81 : es1 Γ 81 = some 2 := nr rfl
theorem vm_81 : ms2 Γ st r 81 x y = msA st r 2 (zero2 Γ 148) x y := ms2_eq v1_81 vg_81
theorem va_81 {z : Nat} {v : List FV} : anE Γ .eql 81 (.fv (.row z v)) (.fv .nil) = v.isEmpty := anE_row vg_81
theorem vreql_81 {z : Nat} {v : List FV} : bin2 Γ E .eql 81 (.fv (.row z v)) (.fv .nil) = if v.isEmpty = true then none else some (.fv (.bool false)) := by
  show (if v.isEmpty = true then none else some false).map _ = _
  split <;> rfl
theorem vheql_81 {p : Pt} {z n : Nat} : bin2 Γ E .eql 81 (.hdr p z n) (.fv .nil) = some (.fv (.bool false)) := nr rfl
theorem vneql_81 : bin2 Γ E .eql 81 (.fv .nil) (.fv .nil) = some (.fv (.bool true)) := nr rfl
theorem vrneq_81 {z : Nat} {v : List FV} : bin2 Γ E .neq 81 (.fv (.row z v)) (.fv .nil) = if v.isEmpty = true then none else some (.fv (.bool true)) := by
  show (if v.isEmpty = true then none else some false).map _ = _
  split <;> rfl
theorem vhneq_81 {p : Pt} {z n : Nat} : bin2 Γ E .neq 81 (.hdr p z n) (.fv .nil) = some (.fv (.bool true)) := nr rfl
theorem vnneq_81 : bin2 Γ E .neq 81 (.fv .nil) (.fv .nil) = some (.fv (.bool false)) := nr rfl
attribute [go_sem] vg_81 vz_81 v0_81 v1_81 vm_81 va_81 vreql_81 vheql_81 vneql_81 vrneq_81 vhneq_81 vnneq_81
theorem vg_82 : Γ 82 = some ⟨.slice 154, 1, 24, [Value.slice none 0 0]⟩ := nr rfl
theorem vz_82 : tz Γ 82 = some (false, 1) := nr rfl
theorem v0_82 : zero2 Γ 82 = some .nil := nr rfl
theorem v1_82 : es1 Γ 82 = some 5 := nr rfl
theorem vm_82 : ms2 Γ st r 82 x y = msA st r 5 (zero2 Γ 154) x y := ms2_eq v1_82 vg_82
theorem va_82 {z : Nat} {v : List FV} : anE Γ .eql 82 (.fv (.row z v)) (.fv .nil) = v.isEmpty := anE_row vg_82
theorem vreql_82 {z : Nat} {v : List FV} : bin2 Γ E .eql 82 (.fv (.row z v)) (.fv .nil) = if v.isEmpty = true then none else some (.fv (.bool false)) := by
  show (if v.isEmpty = true then none else some false).map _ = _
  split <;> rfl
theorem vheql_82 {p : Pt} {z n : Nat} : bin2 Γ E .eql 82 (.hdr p z n) (.fv .nil) = some (.fv (.bool false)) := nr rfl
theorem vneql_82 : bin2 Γ E .eql 82 (.fv .nil) (.fv .nil) = some (.fv (.bool true)) := nr rfl
theorem vrneq_82 {z : Nat} {v : List FV} : bin2 Γ E .neq 82 (.fv (.row z v)) (.fv .nil) = if v.isEmpty = true then none else some (.fv (.bool true)) := by
  show (if v.isEmpty = true then none else some false).map _ = _
  split <;> rfl
theorem vhneq_82 {p : Pt} {z n : Nat} : bin2 Γ E .neq 82 (.hdr p z n) (.fv .nil) = some (.fv (.bool true)) := nr rfl
theorem vnneq_82 : bin2 Γ E .neq 82 (.fv .nil) (.fv .nil) = some (.fv (.bool false)) := nr rfl
attribute [go_sem] vg_82 vz_82 v0_82 v1_82 vm_82 va_82 vreql_82 vheql_82 vneql_82 vrneq_82 vhneq_82 vnneq_82
theorem vg_83 : Γ 83 = some ⟨.struct [(0, 3), (1, 3), (2, 3), (3, 3)], 4, 32, [Value.int IntKind.i64 0, Value.int IntKind.i64 0, Value.int IntKind.i64 0, Value.int IntKind.i64 0]⟩ := nr rfl
theorem vz_83 : tz Γ 83 = some (true, 4) := nr rfl
theorem v0_83 : zero2 Γ 83 = some (.agg [(.int .i64 0), (.int .i64 0), (.int .i64 0), (.int .i64 0)]) := nr rfl
theorem vb_83 {ps : List (Nat × Operand)} : bd2 Γ st 83 ps = (bdF Γ [(0, 3), (1, 3), (2, 3), (3, 3)] (([(.int .i64 0), (.int .i64 0), (.int .i64 0), (.int .i64 0)] : List FV).map .fv) (ps.map fun p => (p.1, ev2 st p.2))).map mkA := bd2_eq vg_83 v0_83 (nr rfl)
attribute [go_sem] vg_83 vz_83 v0_83 vb_83
theorem vg_85 : Γ 85 = some ⟨.struct [(0, 81), (1, 82), (2, 83)], 6, 80, [Value.slice none 0 0, Value.slice none 0 0, Value.int IntKind.i64 0, Value.int IntKind.i64 0, Value.int IntKind.i64 0, Value.int IntKind.i64 0]⟩ := nr rfl
theorem vz_85 : tz Γ 85 = some (true, 6) := nr rfl
theorem v0_85 : zero2 Γ 85 = some (.agg [.nil, .nil, (.agg [(.int .i64 0), (.int .i64 0), (.int .i64 0), (.int .i64 0)])]) := nr rfl
theorem vb_85 {ps : List (Nat × Operand)} : bd2 Γ st 85 ps = (bdF Γ [(0, 81), (1, 82), (2, 83)] (([.nil, .nil, (.agg [(.int .i64 0), (.int .i64 0), (.int .i64 0), (.int .i64 0)])] : List FV).map .fv) (ps.map fun p => (p.1, ev2 st p.2))).map mkA := bd2_eq vg_85 v0_85 (nr rfl)
attribute [go_sem] vg_85 vz_85 v0_85 vb_85
theorem vg_94 : Γ 94 = some ⟨.fn, 1, 8, [Value.nilFunc]⟩ := nr rfl
theorem vz_94 : tz Γ 94 = some (false, 1) := nr rfl
attribute [go_sem] vg_94 vz_94
theorem vg_97 : Γ 97 = some ⟨.fn, 1, 8, [Value.nilFunc]⟩ := nr rfl
theorem vz_97 : tz Γ 97 = some (false, 1) := nr rfl
attribute [go_sem] vg_97 vz_97
theorem vg_115 : Γ 115 = some ⟨.slice 151, 1, 24, [Value.slice none 0 0]⟩ := nr rfl
theorem vz_115 : tz Γ 115 = some (false, 1) := nr rfl
theorem v0_115 : zero2 Γ 115 = some .nil := nr rfl
theorem v1_115 : es1 Γ 115 = some 2 := nr rfl
theorem vm_115 : ms2 Γ st r 115 x y = msA st r 2 (zero2 Γ 151) x y := ms2_eq v1_115 vg_115
theorem va_115 {z : Nat} {v : List FV} : anE Γ .eql 115 (.fv (.row z v)) (.fv .nil) = v.isEmpty := anE_row vg_115
theorem vreql_115 {z : Nat} {v : List FV} : bin2 Γ E .eql 115 (.fv (.row z v)) (.fv .nil) = if v.isEmpty = true then none else some (.fv (.bool false)) := by
  show (if v.isEmpty = true then none else some false).map _ = _
  split <;> rfl
theorem vheql_115 {p : Pt} {z n : Nat} : bin2 Γ E .eql 115 (.hdr p z n) (.fv .nil) = some (.fv (.bool false)) := nr rfl
theorem vneql_115 : bin2 Γ E .eql 115 (.fv .nil) (.fv .nil) = some (.fv (.bool true)) := nr rfl
theorem vrneq_115 {z : Nat} {v : List FV} : bin2 Γ E .neq 115 (.fv (.row z v)) (.fv .nil) = if v.isEmpty = true then none else some (.fv (.bool true)) := by
  show (if v.isEmpty = true then none else some false).map _ = _
  split <;> rfl
theorem vhneq_115 {p : Pt} {z n : Nat} : bin2 Γ E .neq 115 (.hdr p z n) (.fv .nil) = some (.fv (.bool true)) := nr rfl
theorem vnneq_115 : bin2 Γ E .neq 115 (.fv .nil) (.fv .nil) = some (.fv (.bool false)) := nr rfl
attribute [go_sem] vg_115 vz_115 v0_115 v1_115 vm_115 va_115 vreql_115 vheql_115 vneql_115 vrneq_115 vhneq_115 vnneq_115
theorem vg_117 : Γ 117 = some ⟨.struct [(0, 3), (1, 115)], 2, 32, [Value.int IntKind.i64 0, Value.slice none 0 0]⟩ := nr rfl
theorem vz_117 : tz Γ 117 = some (true, 2) := nr rfl
theorem v0_117 : zero2 Γ 117 = some (.agg [(.int .i64 0), .nil]) := nr rfl
theorem vb_117 {ps : List (Nat × Operand)} : bd2 Γ st 117 ps = (bdF Γ [(0, 3), (1, 115)] (([(.int .i64 0), .nil] : List FV).map .fv) (ps.map fun p => (p.1, ev2 st p.2))).map mkA := bd2_eq vg_117 v0_117 (nr rfl)
attribute [go_sem] vg_117 vz_117 v0_117 vb_117
theorem vg_124 : Γ 124 = some ⟨.fn, 1, 8, [Value.nilFunc]⟩ := nr rfl
theorem vz_124 : tz Γ 124 = some (false, 1) := nr rfl
attribute [go_sem] vg_124 vz_124
theorem vg_131 : Γ 131 = some ⟨.slice 5, 1, 24, [Value.slice none 0 0]⟩ := nr rfl
theorem vz_131 : tz Γ 131 = some (false, 1) := nr rfl
theorem v0_131 : zero2 Γ 131 = some .nil := nr rfl
theorem v1_131 : es1 Γ 131 = some 1 := nr rfl
theorem vm_131 : ms2 Γ st r 131 x y = msA st r 1 (zero2 Γ 5) x y := ms2_eq v1_131 vg_131
theorem va_131 {z : Nat} {v : List FV} : anE Γ .eql 131 (.fv (.row z v)) (.fv .nil) = v.isEmpty := anE_row vg_131
theorem vreql_131 {z : Nat} {v : List FV} : bin2 Γ E .eql 131 (.fv (.row z v)) (.fv .nil) = if v.isEmpty = true then none else some (.fv (.bool false)) := by
  show (if v.isEmpty = true then none else some false).map _ = _
  split <;> rfl
theorem vheql_131 {p : Pt} {z n : Nat} : bin2 Γ E .eql 131 (.hdr p z n) (.fv .nil) = some (.fv (.bool false)) := nr rfl
theorem vneql_131 : bin2 Γ E .eql 131 (.fv .nil) (.fv .nil) = some (.fv (.bool true)) := nr rfl
theorem vrneq_131 {z : Nat} {v : List FV} : bin2 Γ E .neq 131 (.fv (.row z v)) (.fv .nil) = if v.isEmpty = true then none else some (.fv (.bool true)) := by
  show (if v.isEmpty = true then none else some false).map _ = _
  split <;> rfl
theorem vhneq_131 {p : Pt} {z n : Nat} : bin2 Γ E .neq 131 (.hdr p z n) (.fv .nil) = some (.fv (.bool true)) := nr rfl
theorem vnneq_131 : bin2 Γ E .neq 131 (.fv .nil) (.fv .nil) = some (.fv (.bool false)) := nr rfl
attribute [go_sem] vg_131 vz_131 v0_131 v1_131 vm_131 va_131 vreql_131 vheql_131 vneql_131 vrneq_131 vhneq_131 vnneq_131
theorem vg_146 : Γ 146 = some ⟨.slice 168, 1, 24, [Value.slice none 0 0]⟩ := nr rfl
theorem vz_146 : tz Γ 146 = some (false, 1) := nr rfl
theorem v0_146 : zero2 Γ 146 = some .nil := nr rfl
theorem v1_146 : es1 Γ 146 = some 2 := nr rfl
theorem vm_146 : ms2 Γ st r 146 x y = msA st r 2 (zero2 Γ 168) x y := ms2_eq v1_146 vg_146
theorem va_146 {z : Nat} {v : List FV} : anE Γ .eql 146 (.fv (.row z v)) (.fv .nil) = v.isEmpty := anE_row vg_146
theorem vreql_146 {z : Nat} {v : List FV} : bin2 Γ E .eql 146 (.fv (.row z v)) (.fv .nil) = if v.isEmpty = true then none else some (.fv (.bool false)) := by
  show (if v.isEmpty = true then none else some false).map _ = _
  split <;> rfl
theorem vheql_146 {p : Pt} {z n : Nat} : bin2 Γ E .eql 146 (.hdr p z n) (.fv .nil) = some (.fv (.bool false)) := nr rfl
theorem vneql_146 : bin2 Γ E .eql 146 (.fv .nil) (.fv .nil) = some (.fv (.bool true)) := nr rfl
theorem vrneq_146 {z : Nat} {v : List FV} : bin2 Γ E .neq 146 (.fv (.row z v)) (.fv .nil) = if v.isEmpty = true then none else some (.fv (.bool true)) := by
  show (if v.isEmpty = true then none else some false).map _ = _
  split <;> rfl
theorem vhneq_146 {p : Pt} {z n : Nat} : bin2 Γ E .neq 146 (.hdr p z n) (.fv .nil) = some (.fv (.bool true)) := nr rfl
theorem vnneq_146 : bin2 Γ E .neq 146 (.fv .nil) (.fv .nil) = some (.fv (.bool false)) := nr rfl
attribute [go_sem] vg_146 vz_146 v0_146 v1_146 vm_146 va_146 vreql_146 vheql_146 vneql_146 vrneq_146 vhneq_146 vnneq_146
theorem vg_148 : Γ 148 = some ⟨.struct [(0, 3), (1, 146)], 2, 32, [Value.int IntKind.i64 0, Value.slice none 0 0]⟩ := nr rfl
theorem vz_148 : tz Γ 148 = some (true, 2) := nr rfl
theorem v0_148 : zero2 Γ 148 = some (.agg [(.int .i64 0), .nil]) := nr rfl
theorem vb_148 {ps : List (Nat × Operand)} : bd2 Γ st 148 ps = (bdF Γ [(0, 3), (1, 146)] (([(.int .i64 0), .nil] : List FV).map .fv) (ps.map fun p => (p.1, ev2 st p.2))).map mkA := bd2_eq vg_148 v0_148 (nr rfl)
attribute [go_sem] vg_148 vz_148 v0_148 vb_148
theorem vg_151 : Γ 151 = some ⟨.struct [(0, 3), (1, 3)], 2, 16, [Value.int IntKind.i64 0, Value.int IntKind.i64 0]⟩ := nr rfl
theorem vz_151 : tz Γ 151 = some (true, 2) := nr rfl
theorem v0_151 : zero2 Γ 151 = some (.agg [(.int .i64 0), (.int .i64 0)]) := nr rfl
theorem vb_151 {ps : List (Nat × Operand)} : bd2 Γ st 151 ps = (bdF Γ [(0, 3), (1, 3)] (([(.int .i64 0), (.int .i64 0)] : List FV).map .fv) (ps.map fun p => (p.1, ev2 st p.2))).map mkA := bd2_eq vg_151 v0_151 (nr rfl)
attribute [go_sem] vg_151 vz_151 v0_151 vb_151
theorem vg_154 : Γ 154 = some ⟨.struct [(0, 3), (1, 3), (2, 3), (3, 3), (4, 3)], 5, 40, [Value.int IntKind.i64 0, Value.int IntKind.i64 0, Value.int IntKind.i64 0, Value.int IntKind.i64 0, Value.int IntKind.i64 0]⟩ := nr rfl
theorem vz_154 : tz Γ 154 = some (true, 5) := nr rfl
theorem v0_154 : zero2 Γ 154 = some (.agg [(.int .i64 0), (.int .i64 0), (.int .i64 0), (.int .i64 0), (.int .i64 0)]) := nr rfl
theorem vb_154 {ps : List (Nat × Operand)} : bd2 Γ st 154 ps = (bdF Γ [(0, 3), (1, 3), (2, 3), (3, 3), (4, 3)] (([(.int .i64 0), (.int .i64 0), (.int .i64 0), (.int .i64 0), (.int .i64 0)] : List FV).map .fv) (ps.map fun p => (p.1, ev2 st p.2))).map mkA := bd2_eq vg_154 v0_154 (nr rfl)
attribute [go_sem] vg_154 vz_154 v0_154 vb_154
theorem vg_157 : Γ 157 = some ⟨.fn, 1, 8, [Value.nilFunc]⟩ := nr rfl
theorem vz_157 : tz Γ 157 = some (false, 1) := nr rfl
attribute [go_sem] vg_157 vz_157
theorem vg_168 : Γ 168 = some ⟨.struct [(0, 3), (1, 3)], 2, 16, [Value.int IntKind.i64 0, Value.int IntKind.i64 0]⟩ := nr rfl
theorem vz_168 : tz Γ 168 = some (true, 2) := nr rfl
theorem v0_168 : zero2 Γ 168 = some (.agg [(.int .i64 0), (.int .i64 0)]) := nr rfl
theorem vb_168 {ps : List (Nat × Operand)} : bd2 Γ st 168 ps = (bdF Γ [(0, 3), (1, 3)] (([(.int .i64 0), (.int .i64 0)] : List FV).map .fv) (ps.map fun p => (p.1, ev2 st p.2))).map mkA := bd2_eq vg_168 v0_168 (nr rfl)
attribute [go_sem] vg_168 vz_168 v0_168 vb_168
theorem vc_9_131 {b : ByteArray} : cvA Γ st r 9 131 (.fv (.str b)) (cv2 Γ 9 131 (.fv (.str b))) = some ((r, .own 1 (bytesF b)) :: klS atL (clr r st)) := cv2_sb vg_9 vg_131 vg_5
theorem vx_9_131 : tx2 Γ st 9 131 x = none := tx2_no vg_9
attribute [go_sem] vc_9_131 vx_9_131
end
end Go.Proofs.YtbfphlaeiahljaaGreatM
