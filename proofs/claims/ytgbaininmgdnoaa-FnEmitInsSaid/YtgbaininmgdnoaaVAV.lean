import Derived.Test.YtgbaininmgdnoaaVAMvl
import Derived.Test.YtgbaininmgdnoaaVAT
/- Tables for the walk by value. -/
namespace Go.Proofs.YtgbaininmgdnoaaM
open Go
set_option linter.unusedVariables false
section
variable {st : St} {r t : Nat} {x y : DV}
theorem vg_3 : Γ 3 = some ⟨.int .i64, 1, 8, [Value.int IntKind.i64 0]⟩ := nr rfl
theorem vz_3 : tz Γ 3 = some (false, 1) := nr rfl
theorem v0_3 : zero2 Γ 3 = some (.int .i64 0) := nr rfl
attribute [go_sem] vg_3 vz_3 v0_3
theorem vg_4 : Γ 4 = some ⟨.bool, 1, 1, [Value.bool false]⟩ := nr rfl
theorem vz_4 : tz Γ 4 = some (false, 1) := nr rfl
theorem v0_4 : zero2 Γ 4 = some (.bool false) := nr rfl
theorem vteql_4 {a b : Bool} : binV Γ E .eql 4 (.bool a) (.bool b) = some (.bool (a == b)) := by unfold binV; rw [vg_4]; try rfl
theorem vtneq_4 {a b : Bool} : binV Γ E .neq 4 (.bool a) (.bool b) = some (.bool (a != b)) := by unfold binV; rw [vg_4]; try rfl
attribute [go_sem] vg_4 vz_4 v0_4 vteql_4 vtneq_4
theorem vg_5 : Γ 5 = some ⟨.int .u8, 1, 1, [Value.int IntKind.u8 0]⟩ := nr rfl
theorem vz_5 : tz Γ 5 = some (false, 1) := nr rfl
theorem v0_5 : zero2 Γ 5 = some (.int .u8 0) := nr rfl
attribute [go_sem] vg_5 vz_5 v0_5
theorem vg_9 : Γ 9 = some ⟨.str, 1, 16, [Value.string ByteArray.empty]⟩ := nr rfl
theorem vz_9 : tz Γ 9 = some (false, 1) := nr rfl
theorem v0_9 : zero2 Γ 9 = some (.str .empty) := nr rfl
attribute [go_sem] vg_9 vz_9 v0_9
theorem vg_22 : Γ 22 = some ⟨.slice 5, 1, 24, [Value.slice none 0 0]⟩ := nr rfl
theorem vz_22 : tz Γ 22 = some (false, 1) := nr rfl
theorem v0_22 : zero2 Γ 22 = some .nil := nr rfl
theorem v1_22 : es1 Γ 22 = some 1 := nr rfl
theorem vm_22 : ms2 Γ st r 22 x y = msA st r 1 (zero2 Γ 5) x y := ms2_eq v1_22 vg_22
theorem va_22 {z : Nat} {v : List FV} : anE Γ .eql 22 (.fv (.row z v)) (.fv .nil) = v.isEmpty := anE_row vg_22
theorem vreql_22 {z : Nat} {v : List FV} : bin2 Γ E .eql 22 (.fv (.row z v)) (.fv .nil) = if v.isEmpty = true then none else some (.fv (.bool false)) := by
  show (if v.isEmpty = true then none else some false).map _ = _
  split <;> rfl
theorem vheql_22 {p : Pt} {z n : Nat} : bin2 Γ E .eql 22 (.hdr p z n) (.fv .nil) = some (.fv (.bool false)) := nr rfl
theorem vneql_22 : bin2 Γ E .eql 22 (.fv .nil) (.fv .nil) = some (.fv (.bool true)) := nr rfl
theorem vrneq_22 {z : Nat} {v : List FV} : bin2 Γ E .neq 22 (.fv (.row z v)) (.fv .nil) = if v.isEmpty = true then none else some (.fv (.bool true)) := by
  show (if v.isEmpty = true then none else some false).map _ = _
  split <;> rfl
theorem vhneq_22 {p : Pt} {z n : Nat} : bin2 Γ E .neq 22 (.hdr p z n) (.fv .nil) = some (.fv (.bool true)) := nr rfl
theorem vnneq_22 : bin2 Γ E .neq 22 (.fv .nil) (.fv .nil) = some (.fv (.bool false)) := nr rfl
attribute [go_sem] vg_22 vz_22 v0_22 v1_22 vm_22 va_22 vreql_22 vheql_22 vneql_22 vrneq_22 vhneq_22 vnneq_22
theorem vg_31 : Γ 31 = some ⟨.struct [(0, 3), (1, 3), (2, 3), (3, 3), (4, 3)], 5, 40, [Value.int IntKind.i64 0, Value.int IntKind.i64 0, Value.int IntKind.i64 0, Value.int IntKind.i64 0, Value.int IntKind.i64 0]⟩ := nr rfl
theorem vz_31 : tz Γ 31 = some (true, 5) := nr rfl
theorem v0_31 : zero2 Γ 31 = some (.agg [(.int .i64 0), (.int .i64 0), (.int .i64 0), (.int .i64 0), (.int .i64 0)]) := nr rfl
theorem vb_31 {ps : List (Nat × Operand)} : bd2 Γ st 31 ps = (bdF Γ [(0, 3), (1, 3), (2, 3), (3, 3), (4, 3)] (([(.int .i64 0), (.int .i64 0), (.int .i64 0), (.int .i64 0), (.int .i64 0)] : List FV).map .fv) (ps.map fun p => (p.1, ev2 st p.2))).map mkA := bd2_eq vg_31 v0_31 (nr rfl)
attribute [go_sem] vg_31 vz_31 v0_31 vb_31
theorem vg_33 : Γ 33 = some ⟨.slice 38, 1, 24, [Value.slice none 0 0]⟩ := nr rfl
theorem vz_33 : tz Γ 33 = some (false, 1) := nr rfl
theorem v0_33 : zero2 Γ 33 = some .nil := nr rfl
theorem v1_33 : es1 Γ 33 = some 5 := nr rfl
theorem vm_33 : ms2 Γ st r 33 x y = msA st r 5 (zero2 Γ 38) x y := ms2_eq v1_33 vg_33
theorem va_33 {z : Nat} {v : List FV} : anE Γ .eql 33 (.fv (.row z v)) (.fv .nil) = v.isEmpty := anE_row vg_33
theorem vreql_33 {z : Nat} {v : List FV} : bin2 Γ E .eql 33 (.fv (.row z v)) (.fv .nil) = if v.isEmpty = true then none else some (.fv (.bool false)) := by
  show (if v.isEmpty = true then none else some false).map _ = _
  split <;> rfl
theorem vheql_33 {p : Pt} {z n : Nat} : bin2 Γ E .eql 33 (.hdr p z n) (.fv .nil) = some (.fv (.bool false)) := nr rfl
theorem vneql_33 : bin2 Γ E .eql 33 (.fv .nil) (.fv .nil) = some (.fv (.bool true)) := nr rfl
theorem vrneq_33 {z : Nat} {v : List FV} : bin2 Γ E .neq 33 (.fv (.row z v)) (.fv .nil) = if v.isEmpty = true then none else some (.fv (.bool true)) := by
  show (if v.isEmpty = true then none else some false).map _ = _
  split <;> rfl
theorem vhneq_33 {p : Pt} {z n : Nat} : bin2 Γ E .neq 33 (.hdr p z n) (.fv .nil) = some (.fv (.bool true)) := nr rfl
theorem vnneq_33 : bin2 Γ E .neq 33 (.fv .nil) (.fv .nil) = some (.fv (.bool false)) := nr rfl
attribute [go_sem] vg_33 vz_33 v0_33 v1_33 vm_33 va_33 vreql_33 vheql_33 vneql_33 vrneq_33 vhneq_33 vnneq_33
theorem vg_38 : Γ 38 = some ⟨.struct [(0, 3), (1, 3), (2, 3), (3, 3), (4, 3)], 5, 40, [Value.int IntKind.i64 0, Value.int IntKind.i64 0, Value.int IntKind.i64 0, Value.int IntKind.i64 0, Value.int IntKind.i64 0]⟩ := nr rfl
theorem vz_38 : tz Γ 38 = some (true, 5) := nr rfl
theorem v0_38 : zero2 Γ 38 = some (.agg [(.int .i64 0), (.int .i64 0), (.int .i64 0), (.int .i64 0), (.int .i64 0)]) := nr rfl
theorem vb_38 {ps : List (Nat × Operand)} : bd2 Γ st 38 ps = (bdF Γ [(0, 3), (1, 3), (2, 3), (3, 3), (4, 3)] (([(.int .i64 0), (.int .i64 0), (.int .i64 0), (.int .i64 0), (.int .i64 0)] : List FV).map .fv) (ps.map fun p => (p.1, ev2 st p.2))).map mkA := bd2_eq vg_38 v0_38 (nr rfl)
attribute [go_sem] vg_38 vz_38 v0_38 vb_38
theorem vg_41 : Γ 41 = some ⟨.slice 3, 1, 24, [Value.slice none 0 0]⟩ := nr rfl
theorem vz_41 : tz Γ 41 = some (false, 1) := nr rfl
theorem v0_41 : zero2 Γ 41 = some .nil := nr rfl
theorem v1_41 : es1 Γ 41 = some 1 := nr rfl
theorem vm_41 : ms2 Γ st r 41 x y = msA st r 1 (zero2 Γ 3) x y := ms2_eq v1_41 vg_41
theorem va_41 {z : Nat} {v : List FV} : anE Γ .eql 41 (.fv (.row z v)) (.fv .nil) = v.isEmpty := anE_row vg_41
theorem vreql_41 {z : Nat} {v : List FV} : bin2 Γ E .eql 41 (.fv (.row z v)) (.fv .nil) = if v.isEmpty = true then none else some (.fv (.bool false)) := by
  show (if v.isEmpty = true then none else some false).map _ = _
  split <;> rfl
theorem vheql_41 {p : Pt} {z n : Nat} : bin2 Γ E .eql 41 (.hdr p z n) (.fv .nil) = some (.fv (.bool false)) := nr rfl
theorem vneql_41 : bin2 Γ E .eql 41 (.fv .nil) (.fv .nil) = some (.fv (.bool true)) := nr rfl
theorem vrneq_41 {z : Nat} {v : List FV} : bin2 Γ E .neq 41 (.fv (.row z v)) (.fv .nil) = if v.isEmpty = true then none else some (.fv (.bool true)) := by
  show (if v.isEmpty = true then none else some false).map _ = _
  split <;> rfl
theorem vhneq_41 {p : Pt} {z n : Nat} : bin2 Γ E .neq 41 (.hdr p z n) (.fv .nil) = some (.fv (.bool true)) := nr rfl
theorem vnneq_41 : bin2 Γ E .neq 41 (.fv .nil) (.fv .nil) = some (.fv (.bool false)) := nr rfl
attribute [go_sem] vg_41 vz_41 v0_41 v1_41 vm_41 va_41 vreql_41 vheql_41 vneql_41 vrneq_41 vhneq_41 vnneq_41
theorem vg_75 : Γ 75 = some ⟨.ptr, 1, 8, [Value.pointer none]⟩ := nr rfl
theorem vz_75 : tz Γ 75 = some (false, 1) := nr rfl
theorem v0_75 : zero2 Γ 75 = some .nilp := nr rfl
attribute [go_sem] vg_75 vz_75 v0_75
theorem vg_161 : Γ 161 = some ⟨.struct [(0, 22), (1, 3), (2, 3)], 3, 40, [Value.slice none 0 0, Value.int IntKind.i64 0, Value.int IntKind.i64 0]⟩ := nr rfl
theorem vz_161 : tz Γ 161 = some (true, 3) := nr rfl
theorem v0_161 : zero2 Γ 161 = some (.agg [.nil, (.int .i64 0), (.int .i64 0)]) := nr rfl
theorem vb_161 {ps : List (Nat × Operand)} : bd2 Γ st 161 ps = (bdF Γ [(0, 22), (1, 3), (2, 3)] (([.nil, (.int .i64 0), (.int .i64 0)] : List FV).map .fv) (ps.map fun p => (p.1, ev2 st p.2))).map mkA := bd2_eq vg_161 v0_161 (nr rfl)
attribute [go_sem] vg_161 vz_161 v0_161 vb_161
theorem vc_5_3 {kk : IntKind} {m : Int} : cv2 Γ 5 3 (.fv (.int kk m)) = some (.fv (.int .i64 (IntKind.wrap .i64 m))) := cv2_ii vg_5 vg_3
theorem vc_9_22 {b : ByteArray} : cvA Γ st r 9 22 (.fv (.str b)) (cv2 Γ 9 22 (.fv (.str b))) = some ((r, .own 1 (bytesF b)) :: klS atL (clr r st)) := cv2_sb vg_9 vg_22 vg_5
theorem vx_9_22 : tx2 Γ st 9 22 x = none := tx2_no vg_9
theorem veql_38 {a0 a1 a2 a3 a4 b0 b1 b2 b3 b4 : Int} : bin2 Γ E .eql 38 (.fv (.agg [.int .i64 a0, .int .i64 a1, .int .i64 a2, .int .i64 a3, .int .i64 a4])) (.fv (.agg [.int .i64 b0, .int .i64 b1, .int .i64 b2, .int .i64 b3, .int .i64 b4])) = some (.fv (.bool ((decide (a0 = b0) && decide (a1 = b1) && decide (a2 = b2) && decide (a3 = b3) && decide (a4 = b4))))) := by
  refine (show _ = some (DV.fv (.bool (decide ([a0, a1, a2, a3, a4] = [b0, b1, b2, b3, b4])))) from rfl).trans ?_
  simp only [List.cons.injEq, and_true, Bool.decide_and, Bool.and_assoc]
theorem vneq_38 {a0 a1 a2 a3 a4 b0 b1 b2 b3 b4 : Int} : bin2 Γ E .neq 38 (.fv (.agg [.int .i64 a0, .int .i64 a1, .int .i64 a2, .int .i64 a3, .int .i64 a4])) (.fv (.agg [.int .i64 b0, .int .i64 b1, .int .i64 b2, .int .i64 b3, .int .i64 b4])) = some (.fv (.bool (!(decide (a0 = b0) && decide (a1 = b1) && decide (a2 = b2) && decide (a3 = b3) && decide (a4 = b4))))) := by
  refine (show _ = some (DV.fv (.bool (!decide ([a0, a1, a2, a3, a4] = [b0, b1, b2, b3, b4])))) from rfl).trans ?_
  simp only [List.cons.injEq, and_true, Bool.decide_and, Bool.and_assoc]
attribute [go_sem] vc_5_3 vc_9_22 vx_9_22 veql_38 vneq_38
end
end Go.Proofs.YtgbaininmgdnoaaM
