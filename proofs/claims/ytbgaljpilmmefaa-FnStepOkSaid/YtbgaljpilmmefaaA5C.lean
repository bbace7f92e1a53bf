/- The code of the functions, laid out. -/
import Derived.Test.YtbgaljpilmmefaaA5T
namespace Go.Proofs.YtbgaljpilmmefaaM
open Go
set_option linter.unusedVariables false
set_option maxRecDepth 100000
noncomputable def r_laws_FnStepOk_0 : List POp := regAt Try.f6 0
@[go_sem] theorem r_laws_FnStepOk_0_eq : OpEq CC DD r_laws_FnStepOk_0 [
  ⟨(some 2), none, (.assign (.const (.bool false)))⟩] := opEq (by kernel_rfl)
noncomputable def r_laws_FnStepOk_1 : List POp := regAt Try.f6 1
@[go_sem] theorem r_laws_FnStepOk_1_eq : OpEq CC DD r_laws_FnStepOk_1 [
  ⟨(some 6), none, (.move (.tmp 0))⟩,
  ⟨(some 7), none, (.call { callee := (.value (.func 17)), args := #[(.tmp 6)], argTypes := #[28] })⟩] := opEq (by kernel_rfl)
noncomputable def r_laws_FnStepOk_2 : List POp := regAt Try.f6 2
@[go_sem] theorem r_laws_FnStepOk_2_eq : OpEq CC DD r_laws_FnStepOk_2 [
  ⟨(some 2), none, (.assign (.const (.bool true)))⟩] := opEq (by kernel_rfl)
noncomputable def r_laws_FnStepOk_3 : List POp := regAt Try.f6 3
@[go_sem] theorem r_laws_FnStepOk_3_eq : OpEq CC DD r_laws_FnStepOk_3 [
  ⟨(some 9), none, (.move (.tmp 0))⟩,
  ⟨(some 10), none, (.call { callee := (.value (.func 29)), args := #[(.tmp 9)], argTypes := #[28] })⟩,
  ⟨(some 8), none, (.move (.tmp 10))⟩,
  ⟨(some 11), none, (.extract (.tmp 8) 0)⟩,
  ⟨(some 12), none, (.extract (.tmp 8) 1)⟩,
  ⟨(some 3), none, (.alloc 25)⟩,
  ⟨none, none, (.store 25 (.tmp 3) (.tmp 11))⟩,
  ⟨(some 4), none, (.assign (.tmp 12))⟩] := opEq (by kernel_rfl)
noncomputable def r_laws_FnStepOk_4 : List POp := regAt Try.f6 4
@[go_sem] theorem r_laws_FnStepOk_4_eq : OpEq CC DD r_laws_FnStepOk_4 [
  ⟨(some 13), none, (.load 25 (.tmp 3))⟩,
  ⟨(some 14), none, (.move (.tmp 4))⟩,
  ⟨(some 15), none, (.call { callee := (.value (.func 16)), args := #[(.tmp 13), (.tmp 14)], argTypes := #[25, 3] })⟩,
  ⟨(some 5), none, (.assign (.tmp 15))⟩] := opEq (by kernel_rfl)
noncomputable def r_laws_FnStepOk_5 : List POp := regAt Try.f6 5
@[go_sem] theorem r_laws_FnStepOk_5_eq : OpEq CC DD r_laws_FnStepOk_5 [
  ⟨(some 16), none, (.move (.tmp 5))⟩,
  ⟨(some 17), none, (.load 25 (.tmp 3))⟩,
  ⟨(some 18), none, (.move (.tmp 4))⟩,
  ⟨(some 19), none, (.call { callee := (.value (.func 14)), args := #[(.tmp 17), (.tmp 18)], argTypes := #[25, 3] })⟩,
  ⟨(some 20), none, (.binOp .neq 4 (.tmp 16) (.tmp 19) 4)⟩] := opEq (by kernel_rfl)
noncomputable def r_laws_FnStepOk_6 : List POp := regAt Try.f6 6
@[go_sem] theorem r_laws_FnStepOk_6_eq : OpEq CC DD r_laws_FnStepOk_6 [
  ⟨(some 2), none, (.assign (.const (.bool false)))⟩] := opEq (by kernel_rfl)
noncomputable def r_laws_FnStepOk_7 : List POp := regAt Try.f6 7
@[go_sem] theorem r_laws_FnStepOk_7_eq : OpEq CC DD r_laws_FnStepOk_7 [
  ⟨(some 21), none, (.move (.tmp 5))⟩,
  ⟨(some 22), none, (.unOp .not 4 (.tmp 21))⟩,
  ⟨(some 23), none, (.move (.tmp 22))⟩,
  ⟨(some 24), (some (23, false)), (.load 25 (.tmp 3))⟩,
  ⟨(some 25), (some (23, false)), (.move (.tmp 4))⟩,
  ⟨(some 26), (some (23, false)), (.binOp .add 3 (.tmp 25) (.const (.int .i64 1)) 3)⟩,
  ⟨(some 27), (some (23, false)), (.call { callee := (.value (.func 16)), args := #[(.tmp 24), (.tmp 26)], argTypes := #[25, 3] })⟩,
  ⟨(some 28), (some (23, false)), (.move (.tmp 27))⟩,
  ⟨(some 29), (some (28, true)), (.fieldAddr 25 (.tmp 3) 1)⟩,
  ⟨(some 30), (some (28, true)), (.load 3 (.tmp 29))⟩,
  ⟨(some 31), (some (28, true)), (.binOp .geq 3 (.tmp 30) (.const (.int .i64 0)) 3)⟩,
  ⟨(some 32), (some (23, false)), (.pick (.tmp 28) (.tmp 31) (.const (.bool false)))⟩,
  ⟨(some 33), (some (23, false)), (.move (.tmp 32))⟩,
  ⟨(some 34), (some (33, true)), (.fieldAddr 25 (.tmp 3) 1)⟩,
  ⟨(some 35), (some (33, true)), (.load 3 (.tmp 34))⟩,
  ⟨(some 36), (some (33, true)), (.binOp .lss 3 (.tmp 35) (.const (.int .i64 8)) 3)⟩,
  ⟨(some 37), (some (23, false)), (.pick (.tmp 33) (.tmp 36) (.const (.bool false)))⟩,
  ⟨(some 38), (some (23, false)), (.move (.tmp 37))⟩,
  ⟨(some 39), (some (38, true)), (.fieldAddr 25 (.tmp 3) 2)⟩,
  ⟨(some 40), (some (38, true)), (.load 3 (.tmp 39))⟩,
  ⟨(some 41), (some (38, true)), (.binOp .geq 3 (.tmp 40) (.const (.int .i64 0)) 3)⟩,
  ⟨(some 42), (some (23, false)), (.pick (.tmp 38) (.tmp 41) (.const (.bool false)))⟩,
  ⟨(some 43), (some (23, false)), (.move (.tmp 42))⟩,
  ⟨(some 44), (some (43, true)), (.fieldAddr 25 (.tmp 3) 2)⟩,
  ⟨(some 45), (some (43, true)), (.load 3 (.tmp 44))⟩,
  ⟨(some 46), (some (43, true)), (.binOp .lss 3 (.tmp 45) (.const (.int .i64 8)) 3)⟩,
  ⟨(some 47), (some (23, false)), (.pick (.tmp 43) (.tmp 46) (.const (.bool false)))⟩,
  ⟨(some 48), (some (23, false)), (.move (.tmp 47))⟩,
  ⟨(some 49), (some (48, true)), (.fieldAddr 25 (.tmp 3) 3)⟩,
  ⟨(some 50), (some (48, true)), (.load 3 (.tmp 49))⟩,
  ⟨(some 51), (some (48, true)), (.binOp .geq 3 (.tmp 50) (.const (.int .i64 0)) 3)⟩,
  ⟨(some 52), (some (23, false)), (.pick (.tmp 48) (.tmp 51) (.const (.bool false)))⟩,
  ⟨(some 53), (some (23, false)), (.move (.tmp 52))⟩,
  ⟨(some 54), (some (53, true)), (.fieldAddr 25 (.tmp 3) 3)⟩,
  ⟨(some 55), (some (53, true)), (.load 3 (.tmp 54))⟩,
  ⟨(some 56), (some (53, true)), (.binOp .lss 3 (.tmp 55) (.const (.int .i64 8)) 3)⟩,
  ⟨(some 57), (some (23, false)), (.pick (.tmp 53) (.tmp 56) (.const (.bool false)))⟩,
  ⟨(some 58), none, (.pick (.tmp 23) (.const (.bool true)) (.tmp 57))⟩,
  ⟨(some 2), none, (.assign (.tmp 58))⟩] := opEq (by kernel_rfl)
noncomputable def b_laws_FnStepOk_0 : PC := (.seq (.ops 1 r_laws_FnStepOk_2) .ret)
@[go_sem] theorem b_laws_FnStepOk_0_eq : GoEq CC DD b_laws_FnStepOk_0 (.seq (.ops 1 r_laws_FnStepOk_2) .ret) := goEq rfl
noncomputable def b_laws_FnStepOk_1 : PC := (.cond (.tmp 7) b_laws_FnStepOk_0 .skip)
@[go_sem] theorem b_laws_FnStepOk_1_eq : GoEq CC DD b_laws_FnStepOk_1 (.cond (.tmp 7) b_laws_FnStepOk_0 .skip) := goEq rfl
noncomputable def b_laws_FnStepOk_2 : PC := (.seq (.ops 1 r_laws_FnStepOk_6) .ret)
@[go_sem] theorem b_laws_FnStepOk_2_eq : GoEq CC DD b_laws_FnStepOk_2 (.seq (.ops 1 r_laws_FnStepOk_6) .ret) := goEq rfl
noncomputable def b_laws_FnStepOk_3 : PC := (.cond (.tmp 20) b_laws_FnStepOk_2 .skip)
@[go_sem] theorem b_laws_FnStepOk_3_eq : GoEq CC DD b_laws_FnStepOk_3 (.cond (.tmp 20) b_laws_FnStepOk_2 .skip) := goEq rfl
noncomputable def b_laws_FnStepOk_4 : PC := (.seq (.ops 39 r_laws_FnStepOk_7) .ret)
@[go_sem] theorem b_laws_FnStepOk_4_eq : GoEq CC DD b_laws_FnStepOk_4 (.seq (.ops 39 r_laws_FnStepOk_7) .ret) := goEq rfl
noncomputable def b_laws_FnStepOk_5 : PC := (.seq (.seq (.ops 5 r_laws_FnStepOk_5) b_laws_FnStepOk_3) b_laws_FnStepOk_4)
@[go_sem] theorem b_laws_FnStepOk_5_eq : GoEq CC DD b_laws_FnStepOk_5 (.seq (.seq (.ops 5 r_laws_FnStepOk_5) b_laws_FnStepOk_3) b_laws_FnStepOk_4) := goEq rfl
noncomputable def b_laws_FnStepOk_6 : PC := (.seq (.ops 4 r_laws_FnStepOk_4) b_laws_FnStepOk_5)
@[go_sem] theorem b_laws_FnStepOk_6_eq : GoEq CC DD b_laws_FnStepOk_6 (.seq (.ops 4 r_laws_FnStepOk_4) b_laws_FnStepOk_5) := goEq rfl
noncomputable def b_laws_FnStepOk_7 : PC := (.seq (.ops 8 r_laws_FnStepOk_3) b_laws_FnStepOk_6)
@[go_sem] theorem b_laws_FnStepOk_7_eq : GoEq CC DD b_laws_FnStepOk_7 (.seq (.ops 8 r_laws_FnStepOk_3) b_laws_FnStepOk_6) := goEq rfl
noncomputable def b_laws_FnStepOk_8 : PC := (.seq (.seq (.ops 2 r_laws_FnStepOk_1) b_laws_FnStepOk_1) b_laws_FnStepOk_7)
@[go_sem] theorem b_laws_FnStepOk_8_eq : GoEq CC DD b_laws_FnStepOk_8 (.seq (.seq (.ops 2 r_laws_FnStepOk_1) b_laws_FnStepOk_1) b_laws_FnStepOk_7) := goEq rfl
noncomputable def c_laws_FnStepOk : PC :=
  (.seq (.ops 1 r_laws_FnStepOk_0) b_laws_FnStepOk_8)
theorem res_laws_FnStepOk : Try.f6.results.toList = [(ResultVar.tmp 2)] := rfl
theorem c_laws_FnStepOk_ok : prep ((Try.f6.body).getD .skip) = some c_laws_FnStepOk := by kernel_rfl
noncomputable def r_spec_StepOk_0 : List POp := regAt Try.f14 0
@[go_sem] theorem r_spec_StepOk_0_eq : OpEq CC DD r_spec_StepOk_0 [
  ⟨(some 2), none, (.box 25 (.tmp 0))⟩,
  ⟨(some 4), none, (.assign (.const (.bool false)))⟩] := opEq (by kernel_rfl)
noncomputable def r_spec_StepOk_1 : List POp := regAt Try.f14 1
@[go_sem] theorem r_spec_StepOk_1_eq : OpEq CC DD r_spec_StepOk_1 [
  ⟨(some 7), none, (.fieldAddr 25 (.tmp 2) 1)⟩,
  ⟨(some 8), none, (.load 3 (.tmp 7))⟩,
  ⟨(some 9), none, (.call { callee := (.value (.func 61)), args := #[(.tmp 8)], argTypes := #[3] })⟩,
  ⟨(some 10), none, (.unOp .not 4 (.tmp 9))⟩,
  ⟨(some 11), none, (.move (.tmp 10))⟩,
  ⟨(some 12), (some (11, false)), (.fieldAddr 25 (.tmp 2) 2)⟩,
  ⟨(some 13), (some (11, false)), (.load 3 (.tmp 12))⟩,
  ⟨(some 14), (some (11, false)), (.call { callee := (.value (.func 61)), args := #[(.tmp 13)], argTypes := #[3] })⟩,
  ⟨(some 15), (some (11, false)), (.unOp .not 4 (.tmp 14))⟩,
  ⟨(some 16), none, (.pick (.tmp 11) (.const (.bool true)) (.tmp 15))⟩,
  ⟨(some 17), none, (.move (.tmp 16))⟩,
  ⟨(some 18), (some (17, false)), (.fieldAddr 25 (.tmp 2) 3)⟩,
  ⟨(some 19), (some (17, false)), (.load 3 (.tmp 18))⟩,
  ⟨(some 20), (some (17, false)), (.call { callee := (.value (.func 61)), args := #[(.tmp 19)], argTypes := #[3] })⟩,
  ⟨(some 21), (some (17, false)), (.unOp .not 4 (.tmp 20))⟩,
  ⟨(some 22), none, (.pick (.tmp 17) (.const (.bool true)) (.tmp 21))⟩] := opEq (by kernel_rfl)
noncomputable def r_spec_StepOk_2 : List POp := regAt Try.f14 2
@[go_sem] theorem r_spec_StepOk_2_eq : OpEq CC DD r_spec_StepOk_2 [
  ⟨(some 4), none, (.assign (.const (.bool false)))⟩] := opEq (by kernel_rfl)
noncomputable def r_spec_StepOk_3 : List POp := regAt Try.f14 3
@[go_sem] theorem r_spec_StepOk_3_eq : OpEq CC DD r_spec_StepOk_3 [
  ⟨(some 23), none, (.fieldAddr 25 (.tmp 2) 4)⟩,
  ⟨(some 24), none, (.load 3 (.tmp 23))⟩,
  ⟨(some 25), none, (.call { callee := (.value (.func 62)), args := #[(.tmp 24), (.const (.int .i64 0)), (.const (.int .i64 39))], argTypes := #[3, 3, 3] })⟩,
  ⟨(some 5), none, (.assign (.tmp 25))⟩] := opEq (by kernel_rfl)
noncomputable def r_spec_StepOk_4 : List POp := regAt Try.f14 4
@[go_sem] theorem r_spec_StepOk_4_eq : OpEq CC DD r_spec_StepOk_4 [
  ⟨(some 26), none, (.fieldAddr 25 (.tmp 2) 4)⟩,
  ⟨(some 27), none, (.load 3 (.tmp 26))⟩,
  ⟨(some 28), none, (.binOp .geq 3 (.tmp 27) (.const (.int .i64 0)) 3)⟩,
  ⟨(some 29), none, (.move (.tmp 28))⟩,
  ⟨(some 30), (some (29, true)), (.fieldAddr 25 (.tmp 2) 4)⟩,
  ⟨(some 31), (some (29, true)), (.load 3 (.tmp 30))⟩,
  ⟨(some 32), (some (29, true)), (.move (.tmp 1))⟩,
  ⟨(some 33), (some (29, true)), (.binOp .lss 3 (.tmp 31) (.tmp 32) 3)⟩,
  ⟨(some 34), none, (.pick (.tmp 29) (.tmp 33) (.const (.bool false)))⟩,
  ⟨(some 6), none, (.assign (.tmp 34))⟩] := opEq (by kernel_rfl)
noncomputable def r_spec_StepOk_5 : List POp := regAt Try.f14 5
@[go_sem] theorem r_spec_StepOk_5_eq : OpEq CC DD r_spec_StepOk_5 [
  ⟨(some 35), none, (.fieldAddr 25 (.tmp 2) 0)⟩,
  ⟨(some 36), none, (.load 3 (.tmp 35))⟩] := opEq (by kernel_rfl)
noncomputable def r_spec_StepOk_6 : List POp := regAt Try.f14 6
@[go_sem] theorem r_spec_StepOk_6_eq : OpEq CC DD r_spec_StepOk_6 [
  ⟨(some 38), none, (.binOp .eql 3 (.tmp 36) (.const (.int .i64 1)) 3)⟩,
  ⟨(some 37), none, (.assign (.tmp 38))⟩] := opEq (by kernel_rfl)
noncomputable def r_spec_StepOk_7 : List POp := regAt Try.f14 7
@[go_sem] theorem r_spec_StepOk_7_eq : OpEq CC DD r_spec_StepOk_7 [
  ⟨(some 39), none, (.fieldAddr 25 (.tmp 2) 2)⟩,
  ⟨(some 40), none, (.load 3 (.tmp 39))⟩,
  ⟨(some 41), none, (.binOp .eql 3 (.tmp 40) (.const (.int .i64 0)) 3)⟩,
  ⟨(some 42), none, (.move (.tmp 41))⟩,
  ⟨(some 43), (some (42, true)), (.fieldAddr 25 (.tmp 2) 3)⟩,
  ⟨(some 44), (some (42, true)), (.load 3 (.tmp 43))⟩,
  ⟨(some 45), (some (42, true)), (.binOp .eql 3 (.tmp 44) (.const (.int .i64 0)) 3)⟩,
  ⟨(some 46), none, (.pick (.tmp 42) (.tmp 45) (.const (.bool false)))⟩,
  ⟨(some 4), none, (.assign (.tmp 46))⟩] := opEq (by kernel_rfl)
noncomputable def r_spec_StepOk_8 : List POp := regAt Try.f14 8
@[go_sem] theorem r_spec_StepOk_8_eq : OpEq CC DD r_spec_StepOk_8 [
  ⟨(some 48), none, (.binOp .eql 3 (.tmp 36) (.const (.int .i64 2)) 3)⟩,
  ⟨(some 47), none, (.assign (.tmp 48))⟩] := opEq (by kernel_rfl)
noncomputable def r_spec_StepOk_9 : List POp := regAt Try.f14 9
@[go_sem] theorem r_spec_StepOk_9_eq : OpEq CC DD r_spec_StepOk_9 [
  ⟨(some 49), none, (.binOp .eql 3 (.tmp 36) (.const (.int .i64 5)) 3)⟩,
  ⟨(some 47), none, (.assign (.tmp 49))⟩] := opEq (by kernel_rfl)
noncomputable def r_spec_StepOk_10 : List POp := regAt Try.f14 10
@[go_sem] theorem r_spec_StepOk_10_eq : OpEq CC DD r_spec_StepOk_10 [
  ⟨(some 50), none, (.fieldAddr 25 (.tmp 2) 3)⟩,
  ⟨(some 51), none, (.load 3 (.tmp 50))⟩,
  ⟨(some 52), none, (.binOp .eql 3 (.tmp 51) (.const (.int .i64 0)) 3)⟩,
  ⟨(some 53), none, (.move (.tmp 52))⟩,
  ⟨(some 54), (some (53, true)), (.fieldAddr 25 (.tmp 2) 4)⟩,
  ⟨(some 55), (some (53, true)), (.load 3 (.tmp 54))⟩,
  ⟨(some 56), (some (53, true)), (.binOp .eql 3 (.tmp 55) (.const (.int .i64 0)) 3)⟩,
  ⟨(some 57), none, (.pick (.tmp 53) (.tmp 56) (.const (.bool false)))⟩,
  ⟨(some 4), none, (.assign (.tmp 57))⟩] := opEq (by kernel_rfl)
noncomputable def r_spec_StepOk_11 : List POp := regAt Try.f14 11
@[go_sem] theorem r_spec_StepOk_11_eq : OpEq CC DD r_spec_StepOk_11 [
  ⟨(some 59), none, (.binOp .eql 3 (.tmp 36) (.const (.int .i64 3)) 3)⟩,
  ⟨(some 58), none, (.assign (.tmp 59))⟩] := opEq (by kernel_rfl)
noncomputable def r_spec_StepOk_12 : List POp := regAt Try.f14 12
@[go_sem] theorem r_spec_StepOk_12_eq : OpEq CC DD r_spec_StepOk_12 [
  ⟨(some 60), none, (.move (.tmp 5))⟩,
  ⟨(some 61), none, (.move (.tmp 60))⟩,
  ⟨(some 62), (some (61, true)), (.fieldAddr 25 (.tmp 2) 2)⟩,
  ⟨(some 63), (some (61, true)), (.load 3 (.tmp 62))⟩,
  ⟨(some 64), (some (61, true)), (.binOp .eql 3 (.tmp 63) (.const (.int .i64 0)) 3)⟩,
  ⟨(some 65), none, (.pick (.tmp 61) (.tmp 64) (.const (.bool false)))⟩,
  ⟨(some 66), none, (.move (.tmp 65))⟩,
  ⟨(some 67), (some (66, true)), (.fieldAddr 25 (.tmp 2) 3)⟩,
  ⟨(some 68), (some (66, true)), (.load 3 (.tmp 67))⟩,
  ⟨(some 69), (some (66, true)), (.binOp .eql 3 (.tmp 68) (.const (.int .i64 0)) 3)⟩,
  ⟨(some 70), none, (.pick (.tmp 66) (.tmp 69) (.const (.bool false)))⟩,
  ⟨(some 4), none, (.assign (.tmp 70))⟩] := opEq (by kernel_rfl)
noncomputable def r_spec_StepOk_13 : List POp := regAt Try.f14 13
@[go_sem] theorem r_spec_StepOk_13_eq : OpEq CC DD r_spec_StepOk_13 [
  ⟨(some 72), none, (.binOp .eql 3 (.tmp 36) (.const (.int .i64 4)) 3)⟩,
  ⟨(some 71), none, (.assign (.tmp 72))⟩] := opEq (by kernel_rfl)
noncomputable def r_spec_StepOk_14 : List POp := regAt Try.f14 14
@[go_sem] theorem r_spec_StepOk_14_eq : OpEq CC DD r_spec_StepOk_14 [
  ⟨(some 73), none, (.move (.tmp 5))⟩,
  ⟨(some 74), none, (.move (.tmp 73))⟩,
  ⟨(some 75), (some (74, true)), (.fieldAddr 25 (.tmp 2) 1)⟩,
  ⟨(some 76), (some (74, true)), (.load 3 (.tmp 75))⟩,
  ⟨(some 77), (some (74, true)), (.binOp .eql 3 (.tmp 76) (.const (.int .i64 0)) 3)⟩,
  ⟨(some 78), none, (.pick (.tmp 74) (.tmp 77) (.const (.bool false)))⟩,
  ⟨(some 79), none, (.move (.tmp 78))⟩,
  ⟨(some 80), (some (79, true)), (.fieldAddr 25 (.tmp 2) 3)⟩,
  ⟨(some 81), (some (79, true)), (.load 3 (.tmp 80))⟩,
  ⟨(some 82), (some (79, true)), (.binOp .eql 3 (.tmp 81) (.const (.int .i64 0)) 3)⟩,
  ⟨(some 83), none, (.pick (.tmp 79) (.tmp 82) (.const (.bool false)))⟩,
  ⟨(some 4), none, (.assign (.tmp 83))⟩] := opEq (by kernel_rfl)
noncomputable def r_spec_StepOk_15 : List POp := regAt Try.f14 15
@[go_sem] theorem r_spec_StepOk_15_eq : OpEq CC DD r_spec_StepOk_15 [
  ⟨(some 85), none, (.binOp .eql 3 (.tmp 36) (.const (.int .i64 6)) 3)⟩,
  ⟨(some 84), none, (.assign (.tmp 85))⟩] := opEq (by kernel_rfl)
noncomputable def r_spec_StepOk_16 : List POp := regAt Try.f14 16
@[go_sem] theorem r_spec_StepOk_16_eq : OpEq CC DD r_spec_StepOk_16 [
  ⟨(some 86), none, (.fieldAddr 25 (.tmp 2) 1)⟩,
  ⟨(some 87), none, (.load 3 (.tmp 86))⟩,
  ⟨(some 88), none, (.binOp .eql 3 (.tmp 87) (.const (.int .i64 0)) 3)⟩,
  ⟨(some 89), none, (.move (.tmp 88))⟩,
  ⟨(some 90), (some (89, true)), (.fieldAddr 25 (.tmp 2) 4)⟩,
  ⟨(some 91), (some (89, true)), (.load 3 (.tmp 90))⟩,
  ⟨(some 92), (some (89, true)), (.binOp .eql 3 (.tmp 91) (.const (.int .i64 0)) 3)⟩,
  ⟨(some 93), none, (.pick (.tmp 89) (.tmp 92) (.const (.bool false)))⟩,
  ⟨(some 4), none, (.assign (.tmp 93))⟩] := opEq (by kernel_rfl)
noncomputable def r_spec_StepOk_17 : List POp := regAt Try.f14 17
@[go_sem] theorem r_spec_StepOk_17_eq : OpEq CC DD r_spec_StepOk_17 [
  ⟨(some 95), none, (.binOp .eql 3 (.tmp 36) (.const (.int .i64 7)) 3)⟩,
  ⟨(some 94), none, (.assign (.tmp 95))⟩] := opEq (by kernel_rfl)
noncomputable def r_spec_StepOk_18 : List POp := regAt Try.f14 18
@[go_sem] theorem r_spec_StepOk_18_eq : OpEq CC DD r_spec_StepOk_18 [
  ⟨(some 96), none, (.binOp .eql 3 (.tmp 36) (.const (.int .i64 11)) 3)⟩,
  ⟨(some 94), none, (.assign (.tmp 96))⟩] := opEq (by kernel_rfl)
noncomputable def r_spec_StepOk_19 : List POp := regAt Try.f14 19
@[go_sem] theorem r_spec_StepOk_19_eq : OpEq CC DD r_spec_StepOk_19 [
  ⟨(some 97), none, (.fieldAddr 25 (.tmp 2) 1)⟩,
  ⟨(some 98), none, (.load 3 (.tmp 97))⟩,
  ⟨(some 99), none, (.binOp .eql 3 (.tmp 98) (.const (.int .i64 0)) 3)⟩,
  ⟨(some 100), none, (.move (.tmp 99))⟩,
  ⟨(some 101), (some (100, true)), (.fieldAddr 25 (.tmp 2) 3)⟩,
  ⟨(some 102), (some (100, true)), (.load 3 (.tmp 101))⟩,
  ⟨(some 103), (some (100, true)), (.binOp .eql 3 (.tmp 102) (.const (.int .i64 0)) 3)⟩,
  ⟨(some 104), none, (.pick (.tmp 100) (.tmp 103) (.const (.bool false)))⟩,
  ⟨(some 105), none, (.move (.tmp 104))⟩,
  ⟨(some 106), (some (105, true)), (.fieldAddr 25 (.tmp 2) 4)⟩,
  ⟨(some 107), (some (105, true)), (.load 3 (.tmp 106))⟩,
  ⟨(some 108), (some (105, true)), (.binOp .eql 3 (.tmp 107) (.const (.int .i64 0)) 3)⟩,
  ⟨(some 109), none, (.pick (.tmp 105) (.tmp 108) (.const (.bool false)))⟩,
  ⟨(some 4), none, (.assign (.tmp 109))⟩] := opEq (by kernel_rfl)
noncomputable def r_spec_StepOk_20 : List POp := regAt Try.f14 20
@[go_sem] theorem r_spec_StepOk_20_eq : OpEq CC DD r_spec_StepOk_20 [
  ⟨(some 111), none, (.binOp .eql 3 (.tmp 36) (.const (.int .i64 8)) 3)⟩,
  ⟨(some 110), none, (.assign (.tmp 111))⟩] := opEq (by kernel_rfl)
noncomputable def r_spec_StepOk_21 : List POp := regAt Try.f14 21
@[go_sem] theorem r_spec_StepOk_21_eq : OpEq CC DD r_spec_StepOk_21 [
  ⟨(some 112), none, (.fieldAddr 25 (.tmp 2) 2)⟩,
  ⟨(some 113), none, (.load 3 (.tmp 112))⟩,
  ⟨(some 114), none, (.binOp .eql 3 (.tmp 113) (.const (.int .i64 0)) 3)⟩,
  ⟨(some 115), none, (.move (.tmp 114))⟩,
  ⟨(some 116), (some (115, true)), (.fieldAddr 25 (.tmp 2) 3)⟩,
  ⟨(some 117), (some (115, true)), (.load 3 (.tmp 116))⟩,
  ⟨(some 118), (some (115, true)), (.binOp .eql 3 (.tmp 117) (.const (.int .i64 0)) 3)⟩,
  ⟨(some 119), none, (.pick (.tmp 115) (.tmp 118) (.const (.bool false)))⟩,
  ⟨(some 120), none, (.move (.tmp 119))⟩,
  ⟨(some 121), (some (120, true)), (.fieldAddr 25 (.tmp 2) 4)⟩,
  ⟨(some 122), (some (120, true)), (.load 3 (.tmp 121))⟩,
  ⟨(some 123), (some (120, true)), (.binOp .eql 3 (.tmp 122) (.const (.int .i64 0)) 3)⟩,
  ⟨(some 124), none, (.pick (.tmp 120) (.tmp 123) (.const (.bool false)))⟩,
  ⟨(some 4), none, (.assign (.tmp 124))⟩] := opEq (by kernel_rfl)
noncomputable def r_spec_StepOk_22 : List POp := regAt Try.f14 22
@[go_sem] theorem r_spec_StepOk_22_eq : OpEq CC DD r_spec_StepOk_22 [
  ⟨(some 126), none, (.binOp .eql 3 (.tmp 36) (.const (.int .i64 9)) 3)⟩,
  ⟨(some 125), none, (.assign (.tmp 126))⟩] := opEq (by kernel_rfl)
noncomputable def r_spec_StepOk_23 : List POp := regAt Try.f14 23
@[go_sem] theorem r_spec_StepOk_23_eq : OpEq CC DD r_spec_StepOk_23 [
  ⟨(some 127), none, (.move (.tmp 6))⟩,
  ⟨(some 128), none, (.move (.tmp 127))⟩,
  ⟨(some 129), (some (128, true)), (.fieldAddr 25 (.tmp 2) 1)⟩,
  ⟨(some 130), (some (128, true)), (.load 3 (.tmp 129))⟩,
  ⟨(some 131), (some (128, true)), (.binOp .eql 3 (.tmp 130) (.const (.int .i64 0)) 3)⟩,
  ⟨(some 132), none, (.pick (.tmp 128) (.tmp 131) (.const (.bool false)))⟩,
  ⟨(some 133), none, (.move (.tmp 132))⟩,
  ⟨(some 134), (some (133, true)), (.fieldAddr 25 (.tmp 2) 2)⟩,
  ⟨(some 135), (some (133, true)), (.load 3 (.tmp 134))⟩,
  ⟨(some 136), (some (133, true)), (.binOp .eql 3 (.tmp 135) (.const (.int .i64 0)) 3)⟩,
  ⟨(some 137), none, (.pick (.tmp 133) (.tmp 136) (.const (.bool false)))⟩,
  ⟨(some 138), none, (.move (.tmp 137))⟩,
  ⟨(some 139), (some (138, true)), (.fieldAddr 25 (.tmp 2) 3)⟩,
  ⟨(some 140), (some (138, true)), (.load 3 (.tmp 139))⟩,
  ⟨(some 141), (some (138, true)), (.binOp .eql 3 (.tmp 140) (.const (.int .i64 0)) 3)⟩,
  ⟨(some 142), none, (.pick (.tmp 138) (.tmp 141) (.const (.bool false)))⟩,
  ⟨(some 4), none, (.assign (.tmp 142))⟩] := opEq (by kernel_rfl)
noncomputable def r_spec_StepOk_24 : List POp := regAt Try.f14 24
@[go_sem] theorem r_spec_StepOk_24_eq : OpEq CC DD r_spec_StepOk_24 [
  ⟨(some 144), none, (.binOp .eql 3 (.tmp 36) (.const (.int .i64 10)) 3)⟩,
  ⟨(some 143), none, (.assign (.tmp 144))⟩] := opEq (by kernel_rfl)
noncomputable def r_spec_StepOk_25 : List POp := regAt Try.f14 25
@[go_sem] theorem r_spec_StepOk_25_eq : OpEq CC DD r_spec_StepOk_25 [
  ⟨(some 145), none, (.move (.tmp 6))⟩,
  ⟨(some 146), none, (.move (.tmp 145))⟩,
  ⟨(some 147), (some (146, true)), (.fieldAddr 25 (.tmp 2) 1)⟩,
  ⟨(some 148), (some (146, true)), (.load 3 (.tmp 147))⟩,
  ⟨(some 149), (some (146, true)), (.binOp .eql 3 (.tmp 148) (.const (.int .i64 0)) 3)⟩,
  ⟨(some 150), none, (.pick (.tmp 146) (.tmp 149) (.const (.bool false)))⟩,
  ⟨(some 151), none, (.move (.tmp 150))⟩,
  ⟨(some 152), (some (151, true)), (.fieldAddr 25 (.tmp 2) 3)⟩,
  ⟨(some 153), (some (151, true)), (.load 3 (.tmp 152))⟩,
  ⟨(some 154), (some (151, true)), (.binOp .eql 3 (.tmp 153) (.const (.int .i64 0)) 3)⟩,
  ⟨(some 155), none, (.pick (.tmp 151) (.tmp 154) (.const (.bool false)))⟩,
  ⟨(some 4), none, (.assign (.tmp 155))⟩] := opEq (by kernel_rfl)
noncomputable def r_spec_StepOk_26 : List POp := regAt Try.f14 26
@[go_sem] theorem r_spec_StepOk_26_eq : OpEq CC DD r_spec_StepOk_26 [
  ⟨(some 156), none, (.fieldAddr 25 (.tmp 2) 0)⟩,
  ⟨(some 157), none, (.load 3 (.tmp 156))⟩,
  ⟨(some 158), none, (.binOp .sub 3 (.tmp 157) (.const (.int .i64 11)) 3)⟩,
  ⟨(some 159), none, (.call { callee := (.value (.func 63)), args := #[(.tmp 158)], argTypes := #[3] })⟩,
  ⟨(some 160), none, (.move (.tmp 159))⟩,
  ⟨(some 161), (some (160, true)), (.fieldAddr 25 (.tmp 2) 4)⟩,
  ⟨(some 162), (some (160, true)), (.load 3 (.tmp 161))⟩,
  ⟨(some 163), (some (160, true)), (.binOp .eql 3 (.tmp 162) (.const (.int .i64 0)) 3)⟩,
  ⟨(some 164), none, (.pick (.tmp 160) (.tmp 163) (.const (.bool false)))⟩,
  ⟨(some 4), none, (.assign (.tmp 164))⟩] := opEq (by kernel_rfl)
noncomputable def b_spec_StepOk_0 : PC := (.seq (.ops 1 r_spec_StepOk_2) .ret)
@[go_sem] theorem b_spec_StepOk_0_eq : GoEq CC DD b_spec_StepOk_0 (.seq (.ops 1 r_spec_StepOk_2) .ret) := goEq rfl
noncomputable def b_spec_StepOk_1 : PC := (.cond (.tmp 22) b_spec_StepOk_0 .skip)
@[go_sem] theorem b_spec_StepOk_1_eq : GoEq CC DD b_spec_StepOk_1 (.cond (.tmp 22) b_spec_StepOk_0 .skip) := goEq rfl
noncomputable def b_spec_StepOk_2 : PC := (.seq (.ops 9 r_spec_StepOk_7) .ret)
@[go_sem] theorem b_spec_StepOk_2_eq : GoEq CC DD b_spec_StepOk_2 (.seq (.ops 9 r_spec_StepOk_7) .ret) := goEq rfl
noncomputable def b_spec_StepOk_3 : PC := (.cond (.tmp 47) .skip (.ops 2 r_spec_StepOk_9))
@[go_sem] theorem b_spec_StepOk_3_eq : GoEq CC DD b_spec_StepOk_3 (.cond (.tmp 47) .skip (.ops 2 r_spec_StepOk_9)) := goEq rfl
noncomputable def b_spec_StepOk_4 : PC := (.seq (.ops 9 r_spec_StepOk_10) .ret)
@[go_sem] theorem b_spec_StepOk_4_eq : GoEq CC DD b_spec_StepOk_4 (.seq (.ops 9 r_spec_StepOk_10) .ret) := goEq rfl
noncomputable def b_spec_StepOk_5 : PC := (.seq (.ops 12 r_spec_StepOk_12) .ret)
@[go_sem] theorem b_spec_StepOk_5_eq : GoEq CC DD b_spec_StepOk_5 (.seq (.ops 12 r_spec_StepOk_12) .ret) := goEq rfl
noncomputable def b_spec_StepOk_6 : PC := (.seq (.ops 12 r_spec_StepOk_14) .ret)
@[go_sem] theorem b_spec_StepOk_6_eq : GoEq CC DD b_spec_StepOk_6 (.seq (.ops 12 r_spec_StepOk_14) .ret) := goEq rfl
noncomputable def b_spec_StepOk_7 : PC := (.seq (.ops 9 r_spec_StepOk_16) .ret)
@[go_sem] theorem b_spec_StepOk_7_eq : GoEq CC DD b_spec_StepOk_7 (.seq (.ops 9 r_spec_StepOk_16) .ret) := goEq rfl
noncomputable def b_spec_StepOk_8 : PC := (.cond (.tmp 94) .skip (.ops 2 r_spec_StepOk_18))
@[go_sem] theorem b_spec_StepOk_8_eq : GoEq CC DD b_spec_StepOk_8 (.cond (.tmp 94) .skip (.ops 2 r_spec_StepOk_18)) := goEq rfl
noncomputable def b_spec_StepOk_9 : PC := (.seq (.ops 14 r_spec_StepOk_19) .ret)
@[go_sem] theorem b_spec_StepOk_9_eq : GoEq CC DD b_spec_StepOk_9 (.seq (.ops 14 r_spec_StepOk_19) .ret) := goEq rfl
noncomputable def b_spec_StepOk_10 : PC := (.seq (.ops 14 r_spec_StepOk_21) .ret)
@[go_sem] theorem b_spec_StepOk_10_eq : GoEq CC DD b_spec_StepOk_10 (.seq (.ops 14 r_spec_StepOk_21) .ret) := goEq rfl
noncomputable def b_spec_StepOk_11 : PC := (.seq (.ops 17 r_spec_StepOk_23) .ret)
@[go_sem] theorem b_spec_StepOk_11_eq : GoEq CC DD b_spec_StepOk_11 (.seq (.ops 17 r_spec_StepOk_23) .ret) := goEq rfl
noncomputable def b_spec_StepOk_12 : PC := (.seq (.ops 12 r_spec_StepOk_25) .ret)
@[go_sem] theorem b_spec_StepOk_12_eq : GoEq CC DD b_spec_StepOk_12 (.seq (.ops 12 r_spec_StepOk_25) .ret) := goEq rfl
noncomputable def b_spec_StepOk_13 : PC := (.cond (.tmp 143) b_spec_StepOk_12 .skip)
@[go_sem] theorem b_spec_StepOk_13_eq : GoEq CC DD b_spec_StepOk_13 (.cond (.tmp 143) b_spec_StepOk_12 .skip) := goEq rfl
noncomputable def b_spec_StepOk_14 : PC := (.seq (.ops 2 r_spec_StepOk_24) b_spec_StepOk_13)
@[go_sem] theorem b_spec_StepOk_14_eq : GoEq CC DD b_spec_StepOk_14 (.seq (.ops 2 r_spec_StepOk_24) b_spec_StepOk_13) := goEq rfl
noncomputable def b_spec_StepOk_15 : PC := (.cond (.tmp 125) b_spec_StepOk_11 b_spec_StepOk_14)
@[go_sem] theorem b_spec_StepOk_15_eq : GoEq CC DD b_spec_StepOk_15 (.cond (.tmp 125) b_spec_StepOk_11 b_spec_StepOk_14) := goEq rfl
noncomputable def b_spec_StepOk_16 : PC := (.seq (.ops 2 r_spec_StepOk_22) b_spec_StepOk_15)
@[go_sem] theorem b_spec_StepOk_16_eq : GoEq CC DD b_spec_StepOk_16 (.seq (.ops 2 r_spec_StepOk_22) b_spec_StepOk_15) := goEq rfl
noncomputable def b_spec_StepOk_17 : PC := (.cond (.tmp 110) b_spec_StepOk_10 b_spec_StepOk_16)
@[go_sem] theorem b_spec_StepOk_17_eq : GoEq CC DD b_spec_StepOk_17 (.cond (.tmp 110) b_spec_StepOk_10 b_spec_StepOk_16) := goEq rfl
noncomputable def b_spec_StepOk_18 : PC := (.seq (.ops 2 r_spec_StepOk_20) b_spec_StepOk_17)
@[go_sem] theorem b_spec_StepOk_18_eq : GoEq CC DD b_spec_StepOk_18 (.seq (.ops 2 r_spec_StepOk_20) b_spec_StepOk_17) := goEq rfl
noncomputable def b_spec_StepOk_19 : PC := (.cond (.tmp 94) b_spec_StepOk_9 b_spec_StepOk_18)
@[go_sem] theorem b_spec_StepOk_19_eq : GoEq CC DD b_spec_StepOk_19 (.cond (.tmp 94) b_spec_StepOk_9 b_spec_StepOk_18) := goEq rfl
noncomputable def b_spec_StepOk_20 : PC := (.seq (.seq (.ops 2 r_spec_StepOk_17) b_spec_StepOk_8) b_spec_StepOk_19)
@[go_sem] theorem b_spec_StepOk_20_eq : GoEq CC DD b_spec_StepOk_20 (.seq (.seq (.ops 2 r_spec_StepOk_17) b_spec_StepOk_8) b_spec_StepOk_19) := goEq rfl
noncomputable def b_spec_StepOk_21 : PC := (.cond (.tmp 84) b_spec_StepOk_7 b_spec_StepOk_20)
@[go_sem] theorem b_spec_StepOk_21_eq : GoEq CC DD b_spec_StepOk_21 (.cond (.tmp 84) b_spec_StepOk_7 b_spec_StepOk_20) := goEq rfl
noncomputable def b_spec_StepOk_22 : PC := (.seq (.ops 2 r_spec_StepOk_15) b_spec_StepOk_21)
@[go_sem] theorem b_spec_StepOk_22_eq : GoEq CC DD b_spec_StepOk_22 (.seq (.ops 2 r_spec_StepOk_15) b_spec_StepOk_21) := goEq rfl
noncomputable def b_spec_StepOk_23 : PC := (.cond (.tmp 71) b_spec_StepOk_6 b_spec_StepOk_22)
@[go_sem] theorem b_spec_StepOk_23_eq : GoEq CC DD b_spec_StepOk_23 (.cond (.tmp 71) b_spec_StepOk_6 b_spec_StepOk_22) := goEq rfl
noncomputable def b_spec_StepOk_24 : PC := (.seq (.ops 2 r_spec_StepOk_13) b_spec_StepOk_23)
@[go_sem] theorem b_spec_StepOk_24_eq : GoEq CC DD b_spec_StepOk_24 (.seq (.ops 2 r_spec_StepOk_13) b_spec_StepOk_23) := goEq rfl
noncomputable def b_spec_StepOk_25 : PC := (.cond (.tmp 58) b_spec_StepOk_5 b_spec_StepOk_24)
@[go_sem] theorem b_spec_StepOk_25_eq : GoEq CC DD b_spec_StepOk_25 (.cond (.tmp 58) b_spec_StepOk_5 b_spec_StepOk_24) := goEq rfl
noncomputable def b_spec_StepOk_26 : PC := (.seq (.ops 2 r_spec_StepOk_11) b_spec_StepOk_25)
@[go_sem] theorem b_spec_StepOk_26_eq : GoEq CC DD b_spec_StepOk_26 (.seq (.ops 2 r_spec_StepOk_11) b_spec_StepOk_25) := goEq rfl
noncomputable def b_spec_StepOk_27 : PC := (.cond (.tmp 47) b_spec_StepOk_4 b_spec_StepOk_26)
@[go_sem] theorem b_spec_StepOk_27_eq : GoEq CC DD b_spec_StepOk_27 (.cond (.tmp 47) b_spec_StepOk_4 b_spec_StepOk_26) := goEq rfl
noncomputable def b_spec_StepOk_28 : PC := (.seq (.seq (.ops 2 r_spec_StepOk_8) b_spec_StepOk_3) b_spec_StepOk_27)
@[go_sem] theorem b_spec_StepOk_28_eq : GoEq CC DD b_spec_StepOk_28 (.seq (.seq (.ops 2 r_spec_StepOk_8) b_spec_StepOk_3) b_spec_StepOk_27) := goEq rfl
noncomputable def b_spec_StepOk_29 : PC := (.cond (.tmp 37) b_spec_StepOk_2 b_spec_StepOk_28)
@[go_sem] theorem b_spec_StepOk_29_eq : GoEq CC DD b_spec_StepOk_29 (.cond (.tmp 37) b_spec_StepOk_2 b_spec_StepOk_28) := goEq rfl
noncomputable def b_spec_StepOk_30 : PC := (.seq (.ops 2 r_spec_StepOk_6) b_spec_StepOk_29)
@[go_sem] theorem b_spec_StepOk_30_eq : GoEq CC DD b_spec_StepOk_30 (.seq (.ops 2 r_spec_StepOk_6) b_spec_StepOk_29) := goEq rfl
noncomputable def b_spec_StepOk_31 : PC := (.block 0 b_spec_StepOk_30)
@[go_sem] theorem b_spec_StepOk_31_eq : GoEq CC DD b_spec_StepOk_31 (.block 0 b_spec_StepOk_30) := goEq rfl
noncomputable def b_spec_StepOk_32 : PC := (.seq (.ops 10 r_spec_StepOk_26) .ret)
@[go_sem] theorem b_spec_StepOk_32_eq : GoEq CC DD b_spec_StepOk_32 (.seq (.ops 10 r_spec_StepOk_26) .ret) := goEq rfl
noncomputable def b_spec_StepOk_33 : PC := (.seq (.seq (.ops 2 r_spec_StepOk_5) b_spec_StepOk_31) b_spec_StepOk_32)
@[go_sem] theorem b_spec_StepOk_33_eq : GoEq CC DD b_spec_StepOk_33 (.seq (.seq (.ops 2 r_spec_StepOk_5) b_spec_StepOk_31) b_spec_StepOk_32) := goEq rfl
noncomputable def b_spec_StepOk_34 : PC := (.seq (.ops 10 r_spec_StepOk_4) b_spec_StepOk_33)
@[go_sem] theorem b_spec_StepOk_34_eq : GoEq CC DD b_spec_StepOk_34 (.seq (.ops 10 r_spec_StepOk_4) b_spec_StepOk_33) := goEq rfl
noncomputable def b_spec_StepOk_35 : PC := (.seq (.ops 4 r_spec_StepOk_3) b_spec_StepOk_34)
@[go_sem] theorem b_spec_StepOk_35_eq : GoEq CC DD b_spec_StepOk_35 (.seq (.ops 4 r_spec_StepOk_3) b_spec_StepOk_34) := goEq rfl
noncomputable def b_spec_StepOk_36 : PC := (.seq (.seq (.ops 16 r_spec_StepOk_1) b_spec_StepOk_1) b_spec_StepOk_35)
@[go_sem] theorem b_spec_StepOk_36_eq : GoEq CC DD b_spec_StepOk_36 (.seq (.seq (.ops 16 r_spec_StepOk_1) b_spec_StepOk_1) b_spec_StepOk_35) := goEq rfl
noncomputable def c_spec_StepOk : PC :=
  (.seq (.ops 2 r_spec_StepOk_0) b_spec_StepOk_36)
theorem res_spec_StepOk : Try.f14.results.toList = [(ResultVar.tmp 4)] := rfl
theorem c_spec_StepOk_ok : prep ((Try.f14.body).getD .skip) = some c_spec_StepOk := by kernel_rfl
noncomputable def r_impl_StepOk_0 : List POp := regAt Try.f16 0
@[go_sem] theorem r_impl_StepOk_0_eq : OpEq CC DD r_impl_StepOk_0 [
  ⟨(some 2), none, (.box 25 (.tmp 0))⟩,
  ⟨(some 4), none, (.assign (.const (.bool false)))⟩] := opEq (by kernel_rfl)
noncomputable def r_impl_StepOk_1 : List POp := regAt Try.f16 1
@[go_sem] theorem r_impl_StepOk_1_eq : OpEq CC DD r_impl_StepOk_1 [
  ⟨(some 9), none, (.fieldAddr 25 (.tmp 2) 0)⟩,
  ⟨(some 10), none, (.load 3 (.tmp 9))⟩,
  ⟨(some 11), none, (.binOp .lss 3 (.tmp 10) (.const (.int .i64 1)) 3)⟩,
  ⟨(some 12), none, (.move (.tmp 11))⟩,
  ⟨(some 13), (some (12, false)), (.fieldAddr 25 (.tmp 2) 0)⟩,
  ⟨(some 14), (some (12, false)), (.load 3 (.tmp 13))⟩,
  ⟨(some 15), (some (12, false)), (.binOp .gtr 3 (.tmp 14) (.const (.int .i64 21)) 3)⟩,
  ⟨(some 16), none, (.pick (.tmp 12) (.const (.bool true)) (.tmp 15))⟩] := opEq (by kernel_rfl)
noncomputable def r_impl_StepOk_2 : List POp := regAt Try.f16 2
@[go_sem] theorem r_impl_StepOk_2_eq : OpEq CC DD r_impl_StepOk_2 [
  ⟨(some 4), none, (.assign (.const (.bool false)))⟩] := opEq (by kernel_rfl)
noncomputable def r_impl_StepOk_3 : List POp := regAt Try.f16 3
@[go_sem] theorem r_impl_StepOk_3_eq : OpEq CC DD r_impl_StepOk_3 [
  ⟨(some 18), none, (.fieldAddr 25 (.tmp 2) 0)⟩,
  ⟨(some 19), none, (.load 3 (.tmp 18))⟩,
  ⟨(some 20), none, (.call { callee := (.value (.func 64)), args := #[(.tmp 19)], argTypes := #[3] })⟩,
  ⟨(some 17), none, (.move (.tmp 20))⟩,
  ⟨(some 21), none, (.extract (.tmp 17) 0)⟩,
  ⟨(some 22), none, (.extract (.tmp 17) 1)⟩,
  ⟨(some 5), none, (.assign (.tmp 21))⟩,
  ⟨(some 6), none, (.assign (.tmp 22))⟩] := opEq (by kernel_rfl)
noncomputable def r_impl_StepOk_4 : List POp := regAt Try.f16 4
@[go_sem] theorem r_impl_StepOk_4_eq : OpEq CC DD r_impl_StepOk_4 [
  ⟨(some 23), none, (.move (.tmp 5))⟩,
  ⟨(some 24), none, (.convert 9 28 (.tmp 23))⟩,
  ⟨(some 7), none, (.assign (.tmp 24))⟩] := opEq (by kernel_rfl)
noncomputable def d_impl_StepOk_5 : Array Oper := drawAt Try.f16 0
theorem d_impl_StepOk_5_go {Q : Ex → S → Prop} {k : List Fr} {s : S} (h : OpG Γ E (TC Γ CC true (s.h.next + 20)) DD (Done Γ E CC DD Q k) s.h.next 0 [
  ⟨(some 25), none, (.fieldAddr 25 (.tmp 2) 1)⟩,
  ⟨(some 26), none, (ldQ 3 (.tmp 25))⟩,
  ⟨(some 27), none, (.move (.tmp 7))⟩,
  ⟨(some 28), none, (.call { callee := (.value (.func 66)), args := #[(.tmp 27), (.const (.int .u8 82))], argTypes := #[28, 5] })⟩,
  ⟨(some 29), none, (.call { callee := (.value (.func 65)), args := #[(.tmp 26), (.tmp 28), (.const (.int .i64 7))], argTypes := #[3, 4, 3] })⟩,
  ⟨(some 30), none, (.move (.tmp 29))⟩,
  ⟨(some 31), (some (30, true)), (.fieldAddr 25 (.tmp 2) 2)⟩,
  ⟨(some 32), (some (30, true)), (ldQ 3 (.tmp 31))⟩,
  ⟨(some 33), (some (30, true)), (.move (.tmp 7))⟩,
  ⟨(some 34), (some (30, true)), (.call { callee := (.value (.func 66)), args := #[(.tmp 33), (.const (.int .u8 65))], argTypes := #[28, 5] })⟩,
  ⟨(some 35), (some (30, true)), (.call { callee := (.value (.func 65)), args := #[(.tmp 32), (.tmp 34), (.const (.int .i64 7))], argTypes := #[3, 4, 3] })⟩,
  ⟨(some 36), none, (.pick (.tmp 30) (.tmp 35) (.const (.bool false)))⟩,
  ⟨(some 37), none, (.move (.tmp 36))⟩,
  ⟨(some 38), (some (37, true)), (.fieldAddr 25 (.tmp 2) 3)⟩,
  ⟨(some 39), (some (37, true)), (ldQ 3 (.tmp 38))⟩,
  ⟨(some 40), (some (37, true)), (.move (.tmp 7))⟩,
  ⟨(some 41), (some (37, true)), (.call { callee := (.value (.func 66)), args := #[(.tmp 40), (.const (.int .u8 66))], argTypes := #[28, 5] })⟩,
  ⟨(some 42), (some (37, true)), (.call { callee := (.value (.func 65)), args := #[(.tmp 39), (.tmp 41), (.const (.int .i64 7))], argTypes := #[3, 4, 3] })⟩,
  ⟨(some 43), none, (.pick (.tmp 37) (.tmp 42) (.const (.bool false)))⟩,
  ⟨(some 8), none, (.assign (.tmp 43))⟩] [] (s.hp (s.h.cl 20))) : Go Γ E CC DD Q (.draw d_impl_StepOk_5) k s :=
  go_text (l0 := (prepO d_impl_StepOk_5 d_impl_StepOk_5.toList).getD []) [0, 1, 0, 4, 15, 31, 63, 127, 63, 319, 1023, 2047, 4095, 8191, 16383, 8191, 40959, 131071, 262143, 524287] [0, 2, 0, 6, 5, 0, 0, 2, 0, 6, 5, 0, 0, 0, 2, 0, 6, 5, 0, 0] true _ (by kernel_rfl) (by kernel_rfl) (by kernel_rfl) (by kernel_rfl) (by kernel_rfl) h
noncomputable def r_impl_StepOk_6 : List POp := regAt Try.f16 5
@[go_sem] theorem r_impl_StepOk_6_eq : OpEq CC DD r_impl_StepOk_6 [
  ⟨(some 51), none, (.move (.tmp 7))⟩,
  ⟨(some 52), none, (.call { callee := (.value (.func 66)), args := #[(.tmp 51), (.const (.int .u8 78))], argTypes := #[28, 5] })⟩,
  ⟨(some 50), none, (.assign (.tmp 52))⟩] := opEq (by kernel_rfl)
noncomputable def r_impl_StepOk_7 : List POp := regAt Try.f16 6
@[go_sem] theorem r_impl_StepOk_7_eq : OpEq CC DD r_impl_StepOk_7 [
  ⟨(some 54), none, (.move (.tmp 7))⟩,
  ⟨(some 55), none, (.call { callee := (.value (.func 66)), args := #[(.tmp 54), (.const (.int .u8 83))], argTypes := #[28, 5] })⟩,
  ⟨(some 53), none, (.assign (.tmp 55))⟩] := opEq (by kernel_rfl)
noncomputable def r_impl_StepOk_8 : List POp := regAt Try.f16 7
@[go_sem] theorem r_impl_StepOk_8_eq : OpEq CC DD r_impl_StepOk_8 [
  ⟨(some 56), none, (.move (.tmp 6))⟩,
  ⟨(some 57), none, (.move (.tmp 56))⟩,
  ⟨(some 58), (some (57, true)), (.fieldAddr 25 (.tmp 2) 4)⟩,
  ⟨(some 59), (some (57, true)), (.load 3 (.tmp 58))⟩,
  ⟨(some 60), (some (57, true)), (.call { callee := (.value (.func 67)), args := #[(.tmp 59), (.const (.int .i64 0)), (.const (.int .i64 39))], argTypes := #[3, 3, 3] })⟩,
  ⟨(some 61), none, (.pick (.tmp 57) (.tmp 60) (.const (.bool false)))⟩,
  ⟨(some 6), none, (.assign (.tmp 61))⟩] := opEq (by kernel_rfl)
noncomputable def r_impl_StepOk_9 : List POp := regAt Try.f16 8
@[go_sem] theorem r_impl_StepOk_9_eq : OpEq CC DD r_impl_StepOk_9 [
  ⟨(some 63), none, (.move (.tmp 7))⟩,
  ⟨(some 64), none, (.call { callee := (.value (.func 66)), args := #[(.tmp 63), (.const (.int .u8 84))], argTypes := #[28, 5] })⟩,
  ⟨(some 62), none, (.assign (.tmp 64))⟩] := opEq (by kernel_rfl)
noncomputable def r_impl_StepOk_10 : List POp := regAt Try.f16 9
@[go_sem] theorem r_impl_StepOk_10_eq : OpEq CC DD r_impl_StepOk_10 [
  ⟨(some 65), none, (.move (.tmp 6))⟩,
  ⟨(some 66), none, (.move (.tmp 65))⟩,
  ⟨(some 67), (some (66, true)), (.fieldAddr 25 (.tmp 2) 4)⟩,
  ⟨(some 68), (some (66, true)), (.load 3 (.tmp 67))⟩,
  ⟨(some 69), (some (66, true)), (.binOp .geq 3 (.tmp 68) (.const (.int .i64 0)) 3)⟩,
  ⟨(some 70), none, (.pick (.tmp 66) (.tmp 69) (.const (.bool false)))⟩,
  ⟨(some 71), none, (.move (.tmp 70))⟩,
  ⟨(some 72), (some (71, true)), (.fieldAddr 25 (.tmp 2) 4)⟩,
  ⟨(some 73), (some (71, true)), (.load 3 (.tmp 72))⟩,
  ⟨(some 74), (some (71, true)), (.move (.tmp 1))⟩,
  ⟨(some 75), (some (71, true)), (.binOp .lss 3 (.tmp 73) (.tmp 74) 3)⟩,
  ⟨(some 76), none, (.pick (.tmp 71) (.tmp 75) (.const (.bool false)))⟩,
  ⟨(some 6), none, (.assign (.tmp 76))⟩] := opEq (by kernel_rfl)
noncomputable def r_impl_StepOk_11 : List POp := regAt Try.f16 10
@[go_sem] theorem r_impl_StepOk_11_eq : OpEq CC DD r_impl_StepOk_11 [
  ⟨(some 44), none, (.move (.tmp 6))⟩,
  ⟨(some 45), none, (.move (.tmp 44))⟩,
  ⟨(some 46), (some (45, true)), (.fieldAddr 25 (.tmp 2) 4)⟩,
  ⟨(some 47), (some (45, true)), (.load 3 (.tmp 46))⟩,
  ⟨(some 48), (some (45, true)), (.binOp .eql 3 (.tmp 47) (.const (.int .i64 0)) 3)⟩,
  ⟨(some 49), none, (.pick (.tmp 45) (.tmp 48) (.const (.bool false)))⟩,
  ⟨(some 6), none, (.assign (.tmp 49))⟩] := opEq (by kernel_rfl)
noncomputable def r_impl_StepOk_12 : List POp := regAt Try.f16 11
@[go_sem] theorem r_impl_StepOk_12_eq : OpEq CC DD r_impl_StepOk_12 [
  ⟨(some 77), none, (.move (.tmp 6))⟩,
  ⟨(some 78), none, (.move (.tmp 77))⟩,
  ⟨(some 79), (some (78, true)), (.move (.tmp 8))⟩,
  ⟨(some 80), none, (.pick (.tmp 78) (.tmp 79) (.const (.bool false)))⟩,
  ⟨(some 4), none, (.assign (.tmp 80))⟩] := opEq (by kernel_rfl)
noncomputable def b_impl_StepOk_0 : PC := (.seq (.ops 1 r_impl_StepOk_2) .ret)
@[go_sem] theorem b_impl_StepOk_0_eq : GoEq CC DD b_impl_StepOk_0 (.seq (.ops 1 r_impl_StepOk_2) .ret) := goEq rfl
noncomputable def b_impl_StepOk_1 : PC := (.cond (.tmp 16) b_impl_StepOk_0 .skip)
@[go_sem] theorem b_impl_StepOk_1_eq : GoEq CC DD b_impl_StepOk_1 (.cond (.tmp 16) b_impl_StepOk_0 .skip) := goEq rfl
noncomputable def b_impl_StepOk_2 : PC := (.cond (.tmp 62) (.ops 13 r_impl_StepOk_10) (.ops 7 r_impl_StepOk_11))
@[go_sem] theorem b_impl_StepOk_2_eq : GoEq CC DD b_impl_StepOk_2 (.cond (.tmp 62) (.ops 13 r_impl_StepOk_10) (.ops 7 r_impl_StepOk_11)) := goEq rfl
noncomputable def b_impl_StepOk_3 : PC := (.seq (.ops 3 r_impl_StepOk_9) b_impl_StepOk_2)
@[go_sem] theorem b_impl_StepOk_3_eq : GoEq CC DD b_impl_StepOk_3 (.seq (.ops 3 r_impl_StepOk_9) b_impl_StepOk_2) := goEq rfl
noncomputable def b_impl_StepOk_4 : PC := (.cond (.tmp 53) (.ops 7 r_impl_StepOk_8) b_impl_StepOk_3)
@[go_sem] theorem b_impl_StepOk_4_eq : GoEq CC DD b_impl_StepOk_4 (.cond (.tmp 53) (.ops 7 r_impl_StepOk_8) b_impl_StepOk_3) := goEq rfl
noncomputable def b_impl_StepOk_5 : PC := (.seq (.ops 3 r_impl_StepOk_7) b_impl_StepOk_4)
@[go_sem] theorem b_impl_StepOk_5_eq : GoEq CC DD b_impl_StepOk_5 (.seq (.ops 3 r_impl_StepOk_7) b_impl_StepOk_4) := goEq rfl
noncomputable def b_impl_StepOk_6 : PC := (.cond (.tmp 50) .skip b_impl_StepOk_5)
@[go_sem] theorem b_impl_StepOk_6_eq : GoEq CC DD b_impl_StepOk_6 (.cond (.tmp 50) .skip b_impl_StepOk_5) := goEq rfl
noncomputable def b_impl_StepOk_7 : PC := (.seq (.ops 3 r_impl_StepOk_6) b_impl_StepOk_6)
@[go_sem] theorem b_impl_StepOk_7_eq : GoEq CC DD b_impl_StepOk_7 (.seq (.ops 3 r_impl_StepOk_6) b_impl_StepOk_6) := goEq rfl
noncomputable def b_impl_StepOk_8 : PC := (.seq (.ops 5 r_impl_StepOk_12) .ret)
@[go_sem] theorem b_impl_StepOk_8_eq : GoEq CC DD b_impl_StepOk_8 (.seq (.ops 5 r_impl_StepOk_12) .ret) := goEq rfl
noncomputable def b_impl_StepOk_9 : PC := (.seq (.block 0 b_impl_StepOk_7) b_impl_StepOk_8)
@[go_sem] theorem b_impl_StepOk_9_eq : GoEq CC DD b_impl_StepOk_9 (.seq (.block 0 b_impl_StepOk_7) b_impl_StepOk_8) := goEq rfl
noncomputable def b_impl_StepOk_10 : PC := (.seq (.draw d_impl_StepOk_5) b_impl_StepOk_9)
@[go_sem] theorem b_impl_StepOk_10_eq : GoEq CC DD b_impl_StepOk_10 (.seq (.draw d_impl_StepOk_5) b_impl_StepOk_9) := goEq rfl
noncomputable def b_impl_StepOk_11 : PC := (.seq (.ops 3 r_impl_StepOk_4) b_impl_StepOk_10)
@[go_sem] theorem b_impl_StepOk_11_eq : GoEq CC DD b_impl_StepOk_11 (.seq (.ops 3 r_impl_StepOk_4) b_impl_StepOk_10) := goEq rfl
noncomputable def b_impl_StepOk_12 : PC := (.seq (.ops 8 r_impl_StepOk_3) b_impl_StepOk_11)
@[go_sem] theorem b_impl_StepOk_12_eq : GoEq CC DD b_impl_StepOk_12 (.seq (.ops 8 r_impl_StepOk_3) b_impl_StepOk_11) := goEq rfl
noncomputable def b_impl_StepOk_13 : PC := (.seq (.seq (.ops 8 r_impl_StepOk_1) b_impl_StepOk_1) b_impl_StepOk_12)
@[go_sem] theorem b_impl_StepOk_13_eq : GoEq CC DD b_impl_StepOk_13 (.seq (.seq (.ops 8 r_impl_StepOk_1) b_impl_StepOk_1) b_impl_StepOk_12) := goEq rfl
noncomputable def c_impl_StepOk : PC :=
  (.seq (.ops 2 r_impl_StepOk_0) b_impl_StepOk_13)
theorem res_impl_StepOk : Try.f16.results.toList = [(ResultVar.tmp 4)] := rfl
theorem c_impl_StepOk_ok : prep ((Try.f16.body).getD .skip) = some c_impl_StepOk := by kernel_rfl
noncomputable def r_laws_big_0 : List POp := regAt Try.f17 0
@[go_sem] theorem r_laws_big_0_eq : OpEq CC DD r_laws_big_0 [
  ⟨(some 2), none, (.assign (.const (.bool false)))⟩] := opEq (by kernel_rfl)
noncomputable def r_laws_big_1 : List POp := regAt Try.f17 1
@[go_sem] theorem r_laws_big_1_eq : OpEq CC DD r_laws_big_1 [
  ⟨(some 3), none, (.move (.tmp 0))⟩,
  ⟨(some 4), none, (.call { callee := (.builtin .len), args := #[(.tmp 3)], argTypes := #[28] })⟩,
  ⟨(some 5), none, (.binOp .gtr 3 (.tmp 4) (.const (.int .i64 1048576)) 3)⟩,
  ⟨(some 2), none, (.assign (.tmp 5))⟩] := opEq (by kernel_rfl)
noncomputable def b_laws_big_0 : PC := (.seq (.ops 4 r_laws_big_1) .ret)
@[go_sem] theorem b_laws_big_0_eq : GoEq CC DD b_laws_big_0 (.seq (.ops 4 r_laws_big_1) .ret) := goEq rfl
noncomputable def c_laws_big : PC :=
  (.seq (.ops 1 r_laws_big_0) b_laws_big_0)
theorem res_laws_big : Try.f17.results.toList = [(ResultVar.tmp 2)] := rfl
theorem c_laws_big_ok : prep ((Try.f17.body).getD .skip) = some c_laws_big := by kernel_rfl
noncomputable def r_spec_DrawStepOk_0 : List POp := regAt Try.f29 0
@[go_sem] theorem r_spec_DrawStepOk_0_eq : OpEq CC DD r_spec_DrawStepOk_0 [
  ⟨(some 2), none, (.alloc 25)⟩,
  ⟨(some 3), none, (.assign (.const (.int .i64 0)))⟩] := opEq (by kernel_rfl)
noncomputable def r_spec_DrawStepOk_1 : List POp := regAt Try.f29 1
@[go_sem] theorem r_spec_DrawStepOk_1_eq : OpEq CC DD r_spec_DrawStepOk_1 [
  ⟨(some 6), none, (.move (.tmp 0))⟩,
  ⟨(some 7), none, (.call { callee := (.value (.func 68)), args := #[(.tmp 6)], argTypes := #[28] })⟩,
  ⟨(some 4), none, (.assign (.tmp 7))⟩] := opEq (by kernel_rfl)
noncomputable def r_spec_DrawStepOk_2 : List POp := regAt Try.f29 2
@[go_sem] theorem r_spec_DrawStepOk_2_eq : OpEq CC DD r_spec_DrawStepOk_2 [
  ⟨(some 8), none, (.move (.tmp 4))⟩,
  ⟨(some 9), none, (.call { callee := (.value (.func 77)), args := #[(.tmp 8), (.const (.int .i64 9))], argTypes := #[87, 3] })⟩,
  ⟨(some 5), none, (.alloc 25)⟩,
  ⟨none, none, (.store 25 (.tmp 5) (.tmp 9))⟩] := opEq (by kernel_rfl)
noncomputable def r_spec_DrawStepOk_3 : List POp := regAt Try.f29 3
@[go_sem] theorem r_spec_DrawStepOk_3_eq : OpEq CC DD r_spec_DrawStepOk_3 [
  ⟨(some 10), none, (.move (.tmp 4))⟩,
  ⟨(some 11), none, (.call { callee := (.value (.func 72)), args := #[(.tmp 10), (.const (.int .i64 6))], argTypes := #[87, 3] })⟩] := opEq (by kernel_rfl)
noncomputable def r_spec_DrawStepOk_4 : List POp := regAt Try.f29 4
@[go_sem] theorem r_spec_DrawStepOk_4_eq : OpEq CC DD r_spec_DrawStepOk_4 [
  ⟨(some 13), none, (.binOp .eql 3 (.tmp 11) (.const (.int .i64 0)) 3)⟩,
  ⟨(some 12), none, (.assign (.tmp 13))⟩] := opEq (by kernel_rfl)
noncomputable def r_spec_DrawStepOk_5 : List POp := regAt Try.f29 5
@[go_sem] theorem r_spec_DrawStepOk_5_eq : OpEq CC DD r_spec_DrawStepOk_5 [
  ⟨(some 14), none, (.move (.tmp 4))⟩,
  ⟨(some 15), none, (.call { callee := (.value (.func 72)), args := #[(.tmp 14), (.const (.int .i64 10))], argTypes := #[87, 3] })⟩,
  ⟨(some 16), none, (.binOp .sub 3 (.tmp 15) (.const (.int .i64 1)) 3)⟩,
  ⟨(some 17), none, (.fieldAddr 25 (.tmp 5) 1)⟩,
  ⟨none, none, (.store 3 (.tmp 17) (.tmp 16))⟩] := opEq (by kernel_rfl)
noncomputable def r_spec_DrawStepOk_6 : List POp := regAt Try.f29 6
@[go_sem] theorem r_spec_DrawStepOk_6_eq : OpEq CC DD r_spec_DrawStepOk_6 [
  ⟨(some 19), none, (.binOp .eql 3 (.tmp 11) (.const (.int .i64 1)) 3)⟩,
  ⟨(some 18), none, (.assign (.tmp 19))⟩] := opEq (by kernel_rfl)
noncomputable def r_spec_DrawStepOk_7 : List POp := regAt Try.f29 7
@[go_sem] theorem r_spec_DrawStepOk_7_eq : OpEq CC DD r_spec_DrawStepOk_7 [
  ⟨(some 20), none, (.move (.tmp 4))⟩,
  ⟨(some 21), none, (.buildSlice 56 6 #[(0, (.const (.int .i64 (-1)))), (1, (.const (.int .i64 0))), (2, (.const (.int .i64 8))), (3, (.const (.int .i64 9))), (4, (.const (.int .i64 39))), (5, (.const (.int .i64 40)))])⟩,
  ⟨(some 22), none, (.call { callee := (.value (.func 70)), args := #[(.tmp 20), (.tmp 21)], argTypes := #[87, 56] })⟩,
  ⟨(some 23), none, (.fieldAddr 25 (.tmp 5) 4)⟩,
  ⟨none, none, (.store 3 (.tmp 23) (.tmp 22))⟩] := opEq (by kernel_rfl)
noncomputable def r_spec_DrawStepOk_8 : List POp := regAt Try.f29 8
@[go_sem] theorem r_spec_DrawStepOk_8_eq : OpEq CC DD r_spec_DrawStepOk_8 [
  ⟨(some 25), none, (.binOp .eql 3 (.tmp 11) (.const (.int .i64 2)) 3)⟩,
  ⟨(some 24), none, (.assign (.tmp 25))⟩] := opEq (by kernel_rfl)
noncomputable def r_spec_DrawStepOk_9 : List POp := regAt Try.f29 9
@[go_sem] theorem r_spec_DrawStepOk_9_eq : OpEq CC DD r_spec_DrawStepOk_9 [
  ⟨(some 26), none, (.move (.tmp 4))⟩,
  ⟨(some 27), none, (.call { callee := (.value (.func 72)), args := #[(.tmp 26), (.const (.int .i64 24))], argTypes := #[87, 3] })⟩,
  ⟨(some 28), none, (.binOp .sub 3 (.tmp 27) (.const (.int .i64 1)) 3)⟩,
  ⟨(some 29), none, (.fieldAddr 25 (.tmp 5) 0)⟩,
  ⟨none, none, (.store 3 (.tmp 29) (.tmp 28))⟩] := opEq (by kernel_rfl)
noncomputable def r_spec_DrawStepOk_10 : List POp := regAt Try.f29 10
@[go_sem] theorem r_spec_DrawStepOk_10_eq : OpEq CC DD r_spec_DrawStepOk_10 [
  ⟨(some 31), none, (.binOp .eql 3 (.tmp 11) (.const (.int .i64 3)) 3)⟩,
  ⟨(some 30), none, (.assign (.tmp 31))⟩] := opEq (by kernel_rfl)
noncomputable def r_spec_DrawStepOk_11 : List POp := regAt Try.f29 11
@[go_sem] theorem r_spec_DrawStepOk_11_eq : OpEq CC DD r_spec_DrawStepOk_11 [
  ⟨(some 32), none, (.move (.tmp 4))⟩,
  ⟨(some 33), none, (.call { callee := (.value (.func 72)), args := #[(.tmp 32), (.const (.int .i64 9))], argTypes := #[87, 3] })⟩,
  ⟨(some 34), none, (.fieldAddr 25 (.tmp 5) 3)⟩,
  ⟨none, none, (.store 3 (.tmp 34) (.tmp 33))⟩] := opEq (by kernel_rfl)
noncomputable def r_spec_DrawStepOk_12 : List POp := regAt Try.f29 12
@[go_sem] theorem r_spec_DrawStepOk_12_eq : OpEq CC DD r_spec_DrawStepOk_12 [
  ⟨(some 35), none, (.load 25 (.tmp 5))⟩,
  ⟨none, none, (.store 25 (.tmp 2) (.tmp 35))⟩,
  ⟨(some 3), none, (.assign (.const (.int .i64 9)))⟩] := opEq (by kernel_rfl)
noncomputable def b_spec_DrawStepOk_0 : PC := (.cond (.tmp 30) (.ops 4 r_spec_DrawStepOk_11) .skip)
@[go_sem] theorem b_spec_DrawStepOk_0_eq : GoEq CC DD b_spec_DrawStepOk_0 (.cond (.tmp 30) (.ops 4 r_spec_DrawStepOk_11) .skip) := goEq rfl
noncomputable def b_spec_DrawStepOk_1 : PC := (.seq (.ops 2 r_spec_DrawStepOk_10) b_spec_DrawStepOk_0)
@[go_sem] theorem b_spec_DrawStepOk_1_eq : GoEq CC DD b_spec_DrawStepOk_1 (.seq (.ops 2 r_spec_DrawStepOk_10) b_spec_DrawStepOk_0) := goEq rfl
noncomputable def b_spec_DrawStepOk_2 : PC := (.cond (.tmp 24) (.ops 5 r_spec_DrawStepOk_9) b_spec_DrawStepOk_1)
@[go_sem] theorem b_spec_DrawStepOk_2_eq : GoEq CC DD b_spec_DrawStepOk_2 (.cond (.tmp 24) (.ops 5 r_spec_DrawStepOk_9) b_spec_DrawStepOk_1) := goEq rfl
noncomputable def b_spec_DrawStepOk_3 : PC := (.seq (.ops 2 r_spec_DrawStepOk_8) b_spec_DrawStepOk_2)
@[go_sem] theorem b_spec_DrawStepOk_3_eq : GoEq CC DD b_spec_DrawStepOk_3 (.seq (.ops 2 r_spec_DrawStepOk_8) b_spec_DrawStepOk_2) := goEq rfl
noncomputable def b_spec_DrawStepOk_4 : PC := (.cond (.tmp 18) (.ops 5 r_spec_DrawStepOk_7) b_spec_DrawStepOk_3)
@[go_sem] theorem b_spec_DrawStepOk_4_eq : GoEq CC DD b_spec_DrawStepOk_4 (.cond (.tmp 18) (.ops 5 r_spec_DrawStepOk_7) b_spec_DrawStepOk_3) := goEq rfl
noncomputable def b_spec_DrawStepOk_5 : PC := (.seq (.ops 2 r_spec_DrawStepOk_6) b_spec_DrawStepOk_4)
@[go_sem] theorem b_spec_DrawStepOk_5_eq : GoEq CC DD b_spec_DrawStepOk_5 (.seq (.ops 2 r_spec_DrawStepOk_6) b_spec_DrawStepOk_4) := goEq rfl
noncomputable def b_spec_DrawStepOk_6 : PC := (.cond (.tmp 12) (.ops 5 r_spec_DrawStepOk_5) b_spec_DrawStepOk_5)
@[go_sem] theorem b_spec_DrawStepOk_6_eq : GoEq CC DD b_spec_DrawStepOk_6 (.cond (.tmp 12) (.ops 5 r_spec_DrawStepOk_5) b_spec_DrawStepOk_5) := goEq rfl
noncomputable def b_spec_DrawStepOk_7 : PC := (.seq (.ops 2 r_spec_DrawStepOk_4) b_spec_DrawStepOk_6)
@[go_sem] theorem b_spec_DrawStepOk_7_eq : GoEq CC DD b_spec_DrawStepOk_7 (.seq (.ops 2 r_spec_DrawStepOk_4) b_spec_DrawStepOk_6) := goEq rfl
noncomputable def b_spec_DrawStepOk_8 : PC := (.block 0 b_spec_DrawStepOk_7)
@[go_sem] theorem b_spec_DrawStepOk_8_eq : GoEq CC DD b_spec_DrawStepOk_8 (.block 0 b_spec_DrawStepOk_7) := goEq rfl
noncomputable def b_spec_DrawStepOk_9 : PC := (.seq (.ops 3 r_spec_DrawStepOk_12) .ret)
@[go_sem] theorem b_spec_DrawStepOk_9_eq : GoEq CC DD b_spec_DrawStepOk_9 (.seq (.ops 3 r_spec_DrawStepOk_12) .ret) := goEq rfl
noncomputable def b_spec_DrawStepOk_10 : PC := (.seq (.seq (.ops 2 r_spec_DrawStepOk_3) b_spec_DrawStepOk_8) b_spec_DrawStepOk_9)
@[go_sem] theorem b_spec_DrawStepOk_10_eq : GoEq CC DD b_spec_DrawStepOk_10 (.seq (.seq (.ops 2 r_spec_DrawStepOk_3) b_spec_DrawStepOk_8) b_spec_DrawStepOk_9) := goEq rfl
noncomputable def b_spec_DrawStepOk_11 : PC := (.seq (.ops 4 r_spec_DrawStepOk_2) b_spec_DrawStepOk_10)
@[go_sem] theorem b_spec_DrawStepOk_11_eq : GoEq CC DD b_spec_DrawStepOk_11 (.seq (.ops 4 r_spec_DrawStepOk_2) b_spec_DrawStepOk_10) := goEq rfl
noncomputable def b_spec_DrawStepOk_12 : PC := (.seq (.ops 3 r_spec_DrawStepOk_1) b_spec_DrawStepOk_11)
@[go_sem] theorem b_spec_DrawStepOk_12_eq : GoEq CC DD b_spec_DrawStepOk_12 (.seq (.ops 3 r_spec_DrawStepOk_1) b_spec_DrawStepOk_11) := goEq rfl
noncomputable def c_spec_DrawStepOk : PC :=
  (.seq (.ops 2 r_spec_DrawStepOk_0) b_spec_DrawStepOk_12)
theorem res_spec_DrawStepOk : Try.f29.results.toList = [(ResultVar.cell 2 25), (ResultVar.tmp 3)] := rfl
theorem c_spec_DrawStepOk_ok : prep ((Try.f29.body).getD .skip) = some c_spec_DrawStepOk := by kernel_rfl
noncomputable def r_spec_l14Reg_0 : List POp := regAt Try.f61 0
@[go_sem] theorem r_spec_l14Reg_0_eq : OpEq CC DD r_spec_l14Reg_0 [
  ⟨(some 2), none, (.assign (.const (.bool false)))⟩] := opEq (by kernel_rfl)
noncomputable def r_spec_l14Reg_1 : List POp := regAt Try.f61 1
@[go_sem] theorem r_spec_l14Reg_1_eq : OpEq CC DD r_spec_l14Reg_1 [
  ⟨(some 3), none, (.move (.tmp 0))⟩,
  ⟨(some 4), none, (.call { callee := (.value (.func 62)), args := #[(.tmp 3), (.const (.int .i64 0)), (.const (.int .i64 7))], argTypes := #[3, 3, 3] })⟩,
  ⟨(some 2), none, (.assign (.tmp 4))⟩] := opEq (by kernel_rfl)
noncomputable def b_spec_l14Reg_0 : PC := (.seq (.ops 3 r_spec_l14Reg_1) .ret)
@[go_sem] theorem b_spec_l14Reg_0_eq : GoEq CC DD b_spec_l14Reg_0 (.seq (.ops 3 r_spec_l14Reg_1) .ret) := goEq rfl
noncomputable def c_spec_l14Reg : PC :=
  (.seq (.ops 1 r_spec_l14Reg_0) b_spec_l14Reg_0)
theorem res_spec_l14Reg : Try.f61.results.toList = [(ResultVar.tmp 2)] := rfl
theorem c_spec_l14Reg_ok : prep ((Try.f61.body).getD .skip) = some c_spec_l14Reg := by kernel_rfl
noncomputable def r_spec_l1In_0 : List POp := regAt Try.f62 0
@[go_sem] theorem r_spec_l1In_0_eq : OpEq CC DD r_spec_l1In_0 [
  ⟨(some 6), none, (.assign (.const (.bool false)))⟩] := opEq (by kernel_rfl)
noncomputable def r_spec_l1In_1 : List POp := regAt Try.f62 1
@[go_sem] theorem r_spec_l1In_1_eq : OpEq CC DD r_spec_l1In_1 [
  ⟨(some 7), none, (.move (.tmp 0))⟩,
  ⟨(some 8), none, (.move (.tmp 1))⟩,
  ⟨(some 9), none, (.binOp .geq 3 (.tmp 7) (.tmp 8) 3)⟩,
  ⟨(some 10), none, (.move (.tmp 9))⟩,
  ⟨(some 11), (some (10, true)), (.move (.tmp 0))⟩,
  ⟨(some 12), (some (10, true)), (.move (.tmp 2))⟩,
  ⟨(some 13), (some (10, true)), (.binOp .leq 3 (.tmp 11) (.tmp 12) 3)⟩,
  ⟨(some 14), none, (.pick (.tmp 10) (.tmp 13) (.const (.bool false)))⟩,
  ⟨(some 6), none, (.assign (.tmp 14))⟩] := opEq (by kernel_rfl)
noncomputable def b_spec_l1In_0 : PC := (.seq (.ops 9 r_spec_l1In_1) .ret)
@[go_sem] theorem b_spec_l1In_0_eq : GoEq CC DD b_spec_l1In_0 (.seq (.ops 9 r_spec_l1In_1) .ret) := goEq rfl
noncomputable def c_spec_l1In : PC :=
  (.seq (.ops 1 r_spec_l1In_0) b_spec_l1In_0)
theorem res_spec_l1In : Try.f62.results.toList = [(ResultVar.tmp 6)] := rfl
theorem c_spec_l1In_ok : prep ((Try.f62.body).getD .skip) = some c_spec_l1In := by kernel_rfl
noncomputable def r_spec_WordOk_0 : List POp := regAt Try.f63 0
@[go_sem] theorem r_spec_WordOk_0_eq : OpEq CC DD r_spec_WordOk_0 [
  ⟨(some 2), none, (.assign (.const (.bool false)))⟩] := opEq (by kernel_rfl)
noncomputable def r_spec_WordOk_1 : List POp := regAt Try.f63 1
@[go_sem] theorem r_spec_WordOk_1_eq : OpEq CC DD r_spec_WordOk_1 [
  ⟨(some 3), none, (.move (.tmp 0))⟩,
  ⟨(some 4), none, (.call { callee := (.value (.func 62)), args := #[(.tmp 3), (.const (.int .i64 1)), (.const (.int .i64 10))], argTypes := #[3, 3, 3] })⟩,
  ⟨(some 2), none, (.assign (.tmp 4))⟩] := opEq (by kernel_rfl)
noncomputable def b_spec_WordOk_0 : PC := (.seq (.ops 3 r_spec_WordOk_1) .ret)
@[go_sem] theorem b_spec_WordOk_0_eq : GoEq CC DD b_spec_WordOk_0 (.seq (.ops 3 r_spec_WordOk_1) .ret) := goEq rfl
noncomputable def c_spec_WordOk : PC :=
  (.seq (.ops 1 r_spec_WordOk_0) b_spec_WordOk_0)
theorem res_spec_WordOk : Try.f63.results.toList = [(ResultVar.tmp 2)] := rfl
theorem c_spec_WordOk_ok : prep ((Try.f63.body).getD .skip) = some c_spec_WordOk := by kernel_rfl
noncomputable def r_impl_stepForm_0 : List POp := regAt Try.f64 0
@[go_sem] theorem r_impl_stepForm_0_eq : OpEq CC DD r_impl_stepForm_0 [
  ⟨(some 2), none, (.assign (.const (.string { data := #[] })))⟩,
  ⟨(some 3), none, (.assign (.const (.bool false)))⟩] := opEq (by kernel_rfl)
noncomputable def r_impl_stepForm_1 : List POp := regAt Try.f64 1
@[go_sem] theorem r_impl_stepForm_1_eq : OpEq CC DD r_impl_stepForm_1 [
  ⟨(some 4), none, (.move (.tmp 0))⟩] := opEq (by kernel_rfl)
noncomputable def r_impl_stepForm_2 : List POp := regAt Try.f64 2
@[go_sem] theorem r_impl_stepForm_2_eq : OpEq CC DD r_impl_stepForm_2 [
  ⟨(some 6), none, (.binOp .eql 3 (.tmp 4) (.const (.int .i64 1)) 3)⟩,
  ⟨(some 5), none, (.assign (.tmp 6))⟩] := opEq (by kernel_rfl)
noncomputable def r_impl_stepForm_3 : List POp := regAt Try.f64 3
@[go_sem] theorem r_impl_stepForm_3_eq : OpEq CC DD r_impl_stepForm_3 [
  ⟨(some 2), none, (.assign (.const (.string { data := #[82, 78] })))⟩,
  ⟨(some 3), none, (.assign (.const (.bool true)))⟩] := opEq (by kernel_rfl)
noncomputable def r_impl_stepForm_4 : List POp := regAt Try.f64 4
@[go_sem] theorem r_impl_stepForm_4_eq : OpEq CC DD r_impl_stepForm_4 [
  ⟨(some 8), none, (.binOp .eql 3 (.tmp 4) (.const (.int .i64 2)) 3)⟩,
  ⟨(some 7), none, (.assign (.tmp 8))⟩] := opEq (by kernel_rfl)
noncomputable def r_impl_stepForm_5 : List POp := regAt Try.f64 5
@[go_sem] theorem r_impl_stepForm_5_eq : OpEq CC DD r_impl_stepForm_5 [
  ⟨(some 9), none, (.binOp .eql 3 (.tmp 4) (.const (.int .i64 5)) 3)⟩,
  ⟨(some 7), none, (.assign (.tmp 9))⟩] := opEq (by kernel_rfl)
noncomputable def r_impl_stepForm_6 : List POp := regAt Try.f64 6
@[go_sem] theorem r_impl_stepForm_6_eq : OpEq CC DD r_impl_stepForm_6 [
  ⟨(some 2), none, (.assign (.const (.string { data := #[82, 65] })))⟩,
  ⟨(some 3), none, (.assign (.const (.bool true)))⟩] := opEq (by kernel_rfl)
noncomputable def r_impl_stepForm_7 : List POp := regAt Try.f64 7
@[go_sem] theorem r_impl_stepForm_7_eq : OpEq CC DD r_impl_stepForm_7 [
  ⟨(some 11), none, (.binOp .eql 3 (.tmp 4) (.const (.int .i64 3)) 3)⟩,
  ⟨(some 10), none, (.assign (.tmp 11))⟩] := opEq (by kernel_rfl)
noncomputable def r_impl_stepForm_8 : List POp := regAt Try.f64 8
@[go_sem] theorem r_impl_stepForm_8_eq : OpEq CC DD r_impl_stepForm_8 [
  ⟨(some 2), none, (.assign (.const (.string { data := #[82, 83] })))⟩,
  ⟨(some 3), none, (.assign (.const (.bool true)))⟩] := opEq (by kernel_rfl)
noncomputable def r_impl_stepForm_9 : List POp := regAt Try.f64 9
@[go_sem] theorem r_impl_stepForm_9_eq : OpEq CC DD r_impl_stepForm_9 [
  ⟨(some 13), none, (.binOp .eql 3 (.tmp 4) (.const (.int .i64 4)) 3)⟩,
  ⟨(some 12), none, (.assign (.tmp 13))⟩] := opEq (by kernel_rfl)
noncomputable def r_impl_stepForm_10 : List POp := regAt Try.f64 10
@[go_sem] theorem r_impl_stepForm_10_eq : OpEq CC DD r_impl_stepForm_10 [
  ⟨(some 2), none, (.assign (.const (.string { data := #[83, 65] })))⟩,
  ⟨(some 3), none, (.assign (.const (.bool true)))⟩] := opEq (by kernel_rfl)
noncomputable def r_impl_stepForm_11 : List POp := regAt Try.f64 11
@[go_sem] theorem r_impl_stepForm_11_eq : OpEq CC DD r_impl_stepForm_11 [
  ⟨(some 15), none, (.binOp .eql 3 (.tmp 4) (.const (.int .i64 6)) 3)⟩,
  ⟨(some 14), none, (.assign (.tmp 15))⟩] := opEq (by kernel_rfl)
noncomputable def r_impl_stepForm_12 : List POp := regAt Try.f64 12
@[go_sem] theorem r_impl_stepForm_12_eq : OpEq CC DD r_impl_stepForm_12 [
  ⟨(some 2), none, (.assign (.const (.string { data := #[65, 66] })))⟩,
  ⟨(some 3), none, (.assign (.const (.bool true)))⟩] := opEq (by kernel_rfl)
noncomputable def r_impl_stepForm_13 : List POp := regAt Try.f64 13
@[go_sem] theorem r_impl_stepForm_13_eq : OpEq CC DD r_impl_stepForm_13 [
  ⟨(some 17), none, (.binOp .eql 3 (.tmp 4) (.const (.int .i64 7)) 3)⟩,
  ⟨(some 16), none, (.assign (.tmp 17))⟩] := opEq (by kernel_rfl)
noncomputable def r_impl_stepForm_14 : List POp := regAt Try.f64 14
@[go_sem] theorem r_impl_stepForm_14_eq : OpEq CC DD r_impl_stepForm_14 [
  ⟨(some 18), none, (.binOp .eql 3 (.tmp 4) (.const (.int .i64 11)) 3)⟩,
  ⟨(some 16), none, (.assign (.tmp 18))⟩] := opEq (by kernel_rfl)
noncomputable def r_impl_stepForm_15 : List POp := regAt Try.f64 15
@[go_sem] theorem r_impl_stepForm_15_eq : OpEq CC DD r_impl_stepForm_15 [
  ⟨(some 2), none, (.assign (.const (.string { data := #[65] })))⟩,
  ⟨(some 3), none, (.assign (.const (.bool true)))⟩] := opEq (by kernel_rfl)
noncomputable def r_impl_stepForm_16 : List POp := regAt Try.f64 16
@[go_sem] theorem r_impl_stepForm_16_eq : OpEq CC DD r_impl_stepForm_16 [
  ⟨(some 20), none, (.binOp .eql 3 (.tmp 4) (.const (.int .i64 8)) 3)⟩,
  ⟨(some 19), none, (.assign (.tmp 20))⟩] := opEq (by kernel_rfl)
noncomputable def r_impl_stepForm_17 : List POp := regAt Try.f64 17
@[go_sem] theorem r_impl_stepForm_17_eq : OpEq CC DD r_impl_stepForm_17 [
  ⟨(some 2), none, (.assign (.const (.string { data := #[82] })))⟩,
  ⟨(some 3), none, (.assign (.const (.bool true)))⟩] := opEq (by kernel_rfl)
noncomputable def r_impl_stepForm_18 : List POp := regAt Try.f64 18
@[go_sem] theorem r_impl_stepForm_18_eq : OpEq CC DD r_impl_stepForm_18 [
  ⟨(some 22), none, (.binOp .eql 3 (.tmp 4) (.const (.int .i64 9)) 3)⟩,
  ⟨(some 21), none, (.assign (.tmp 22))⟩] := opEq (by kernel_rfl)
noncomputable def r_impl_stepForm_19 : List POp := regAt Try.f64 19
@[go_sem] theorem r_impl_stepForm_19_eq : OpEq CC DD r_impl_stepForm_19 [
  ⟨(some 2), none, (.assign (.const (.string { data := #[84] })))⟩,
  ⟨(some 3), none, (.assign (.const (.bool true)))⟩] := opEq (by kernel_rfl)
noncomputable def r_impl_stepForm_20 : List POp := regAt Try.f64 20
@[go_sem] theorem r_impl_stepForm_20_eq : OpEq CC DD r_impl_stepForm_20 [
  ⟨(some 24), none, (.binOp .eql 3 (.tmp 4) (.const (.int .i64 10)) 3)⟩,
  ⟨(some 23), none, (.assign (.tmp 24))⟩] := opEq (by kernel_rfl)
noncomputable def r_impl_stepForm_21 : List POp := regAt Try.f64 21
@[go_sem] theorem r_impl_stepForm_21_eq : OpEq CC DD r_impl_stepForm_21 [
  ⟨(some 2), none, (.assign (.const (.string { data := #[65, 84] })))⟩,
  ⟨(some 3), none, (.assign (.const (.bool true)))⟩] := opEq (by kernel_rfl)
noncomputable def r_impl_stepForm_22 : List POp := regAt Try.f64 22
@[go_sem] theorem r_impl_stepForm_22_eq : OpEq CC DD r_impl_stepForm_22 [
  ⟨(some 25), none, (.move (.tmp 0))⟩,
  ⟨(some 26), none, (.binOp .sub 3 (.tmp 25) (.const (.int .i64 11)) 3)⟩,
  ⟨(some 27), none, (.call { callee := (.value (.func 113)), args := #[(.tmp 26)], argTypes := #[3] })⟩,
  ⟨(some 2), none, (.assign (.const (.string { data := #[82, 65, 66] })))⟩,
  ⟨(some 3), none, (.assign (.tmp 27))⟩] := opEq (by kernel_rfl)
noncomputable def b_impl_stepForm_0 : PC := (.seq (.ops 2 r_impl_stepForm_3) .ret)
@[go_sem] theorem b_impl_stepForm_0_eq : GoEq CC DD b_impl_stepForm_0 (.seq (.ops 2 r_impl_stepForm_3) .ret) := goEq rfl
noncomputable def b_impl_stepForm_1 : PC := (.cond (.tmp 7) .skip (.ops 2 r_impl_stepForm_5))
@[go_sem] theorem b_impl_stepForm_1_eq : GoEq CC DD b_impl_stepForm_1 (.cond (.tmp 7) .skip (.ops 2 r_impl_stepForm_5)) := goEq rfl
noncomputable def b_impl_stepForm_2 : PC := (.seq (.ops 2 r_impl_stepForm_6) .ret)
@[go_sem] theorem b_impl_stepForm_2_eq : GoEq CC DD b_impl_stepForm_2 (.seq (.ops 2 r_impl_stepForm_6) .ret) := goEq rfl
noncomputable def b_impl_stepForm_3 : PC := (.seq (.ops 2 r_impl_stepForm_8) .ret)
@[go_sem] theorem b_impl_stepForm_3_eq : GoEq CC DD b_impl_stepForm_3 (.seq (.ops 2 r_impl_stepForm_8) .ret) := goEq rfl
noncomputable def b_impl_stepForm_4 : PC := (.seq (.ops 2 r_impl_stepForm_10) .ret)
@[go_sem] theorem b_impl_stepForm_4_eq : GoEq CC DD b_impl_stepForm_4 (.seq (.ops 2 r_impl_stepForm_10) .ret) := goEq rfl
noncomputable def b_impl_stepForm_5 : PC := (.seq (.ops 2 r_impl_stepForm_12) .ret)
@[go_sem] theorem b_impl_stepForm_5_eq : GoEq CC DD b_impl_stepForm_5 (.seq (.ops 2 r_impl_stepForm_12) .ret) := goEq rfl
noncomputable def b_impl_stepForm_6 : PC := (.cond (.tmp 16) .skip (.ops 2 r_impl_stepForm_14))
@[go_sem] theorem b_impl_stepForm_6_eq : GoEq CC DD b_impl_stepForm_6 (.cond (.tmp 16) .skip (.ops 2 r_impl_stepForm_14)) := goEq rfl
noncomputable def b_impl_stepForm_7 : PC := (.seq (.ops 2 r_impl_stepForm_15) .ret)
@[go_sem] theorem b_impl_stepForm_7_eq : GoEq CC DD b_impl_stepForm_7 (.seq (.ops 2 r_impl_stepForm_15) .ret) := goEq rfl
noncomputable def b_impl_stepForm_8 : PC := (.seq (.ops 2 r_impl_stepForm_17) .ret)
@[go_sem] theorem b_impl_stepForm_8_eq : GoEq CC DD b_impl_stepForm_8 (.seq (.ops 2 r_impl_stepForm_17) .ret) := goEq rfl
noncomputable def b_impl_stepForm_9 : PC := (.seq (.ops 2 r_impl_stepForm_19) .ret)
@[go_sem] theorem b_impl_stepForm_9_eq : GoEq CC DD b_impl_stepForm_9 (.seq (.ops 2 r_impl_stepForm_19) .ret) := goEq rfl
noncomputable def b_impl_stepForm_10 : PC := (.seq (.ops 2 r_impl_stepForm_21) .ret)
@[go_sem] theorem b_impl_stepForm_10_eq : GoEq CC DD b_impl_stepForm_10 (.seq (.ops 2 r_impl_stepForm_21) .ret) := goEq rfl
noncomputable def b_impl_stepForm_11 : PC := (.cond (.tmp 23) b_impl_stepForm_10 .skip)
@[go_sem] theorem b_impl_stepForm_11_eq : GoEq CC DD b_impl_stepForm_11 (.cond (.tmp 23) b_impl_stepForm_10 .skip) := goEq rfl
noncomputable def b_impl_stepForm_12 : PC := (.seq (.ops 2 r_impl_stepForm_20) b_impl_stepForm_11)
@[go_sem] theorem b_impl_stepForm_12_eq : GoEq CC DD b_impl_stepForm_12 (.seq (.ops 2 r_impl_stepForm_20) b_impl_stepForm_11) := goEq rfl
noncomputable def b_impl_stepForm_13 : PC := (.cond (.tmp 21) b_impl_stepForm_9 b_impl_stepForm_12)
@[go_sem] theorem b_impl_stepForm_13_eq : GoEq CC DD b_impl_stepForm_13 (.cond (.tmp 21) b_impl_stepForm_9 b_impl_stepForm_12) := goEq rfl
noncomputable def b_impl_stepForm_14 : PC := (.seq (.ops 2 r_impl_stepForm_18) b_impl_stepForm_13)
@[go_sem] theorem b_impl_stepForm_14_eq : GoEq CC DD b_impl_stepForm_14 (.seq (.ops 2 r_impl_stepForm_18) b_impl_stepForm_13) := goEq rfl
noncomputable def b_impl_stepForm_15 : PC := (.cond (.tmp 19) b_impl_stepForm_8 b_impl_stepForm_14)
@[go_sem] theorem b_impl_stepForm_15_eq : GoEq CC DD b_impl_stepForm_15 (.cond (.tmp 19) b_impl_stepForm_8 b_impl_stepForm_14) := goEq rfl
noncomputable def b_impl_stepForm_16 : PC := (.seq (.ops 2 r_impl_stepForm_16) b_impl_stepForm_15)
@[go_sem] theorem b_impl_stepForm_16_eq : GoEq CC DD b_impl_stepForm_16 (.seq (.ops 2 r_impl_stepForm_16) b_impl_stepForm_15) := goEq rfl
noncomputable def b_impl_stepForm_17 : PC := (.cond (.tmp 16) b_impl_stepForm_7 b_impl_stepForm_16)
@[go_sem] theorem b_impl_stepForm_17_eq : GoEq CC DD b_impl_stepForm_17 (.cond (.tmp 16) b_impl_stepForm_7 b_impl_stepForm_16) := goEq rfl
noncomputable def b_impl_stepForm_18 : PC := (.seq (.seq (.ops 2 r_impl_stepForm_13) b_impl_stepForm_6) b_impl_stepForm_17)
@[go_sem] theorem b_impl_stepForm_18_eq : GoEq CC DD b_impl_stepForm_18 (.seq (.seq (.ops 2 r_impl_stepForm_13) b_impl_stepForm_6) b_impl_stepForm_17) := goEq rfl
noncomputable def b_impl_stepForm_19 : PC := (.cond (.tmp 14) b_impl_stepForm_5 b_impl_stepForm_18)
@[go_sem] theorem b_impl_stepForm_19_eq : GoEq CC DD b_impl_stepForm_19 (.cond (.tmp 14) b_impl_stepForm_5 b_impl_stepForm_18) := goEq rfl
noncomputable def b_impl_stepForm_20 : PC := (.seq (.ops 2 r_impl_stepForm_11) b_impl_stepForm_19)
@[go_sem] theorem b_impl_stepForm_20_eq : GoEq CC DD b_impl_stepForm_20 (.seq (.ops 2 r_impl_stepForm_11) b_impl_stepForm_19) := goEq rfl
noncomputable def b_impl_stepForm_21 : PC := (.cond (.tmp 12) b_impl_stepForm_4 b_impl_stepForm_20)
@[go_sem] theorem b_impl_stepForm_21_eq : GoEq CC DD b_impl_stepForm_21 (.cond (.tmp 12) b_impl_stepForm_4 b_impl_stepForm_20) := goEq rfl
noncomputable def b_impl_stepForm_22 : PC := (.seq (.ops 2 r_impl_stepForm_9) b_impl_stepForm_21)
@[go_sem] theorem b_impl_stepForm_22_eq : GoEq CC DD b_impl_stepForm_22 (.seq (.ops 2 r_impl_stepForm_9) b_impl_stepForm_21) := goEq rfl
noncomputable def b_impl_stepForm_23 : PC := (.cond (.tmp 10) b_impl_stepForm_3 b_impl_stepForm_22)
@[go_sem] theorem b_impl_stepForm_23_eq : GoEq CC DD b_impl_stepForm_23 (.cond (.tmp 10) b_impl_stepForm_3 b_impl_stepForm_22) := goEq rfl
noncomputable def b_impl_stepForm_24 : PC := (.seq (.ops 2 r_impl_stepForm_7) b_impl_stepForm_23)
@[go_sem] theorem b_impl_stepForm_24_eq : GoEq CC DD b_impl_stepForm_24 (.seq (.ops 2 r_impl_stepForm_7) b_impl_stepForm_23) := goEq rfl
noncomputable def b_impl_stepForm_25 : PC := (.cond (.tmp 7) b_impl_stepForm_2 b_impl_stepForm_24)
@[go_sem] theorem b_impl_stepForm_25_eq : GoEq CC DD b_impl_stepForm_25 (.cond (.tmp 7) b_impl_stepForm_2 b_impl_stepForm_24) := goEq rfl
noncomputable def b_impl_stepForm_26 : PC := (.seq (.seq (.ops 2 r_impl_stepForm_4) b_impl_stepForm_1) b_impl_stepForm_25)
@[go_sem] theorem b_impl_stepForm_26_eq : GoEq CC DD b_impl_stepForm_26 (.seq (.seq (.ops 2 r_impl_stepForm_4) b_impl_stepForm_1) b_impl_stepForm_25) := goEq rfl
noncomputable def b_impl_stepForm_27 : PC := (.cond (.tmp 5) b_impl_stepForm_0 b_impl_stepForm_26)
@[go_sem] theorem b_impl_stepForm_27_eq : GoEq CC DD b_impl_stepForm_27 (.cond (.tmp 5) b_impl_stepForm_0 b_impl_stepForm_26) := goEq rfl
noncomputable def b_impl_stepForm_28 : PC := (.seq (.ops 2 r_impl_stepForm_2) b_impl_stepForm_27)
@[go_sem] theorem b_impl_stepForm_28_eq : GoEq CC DD b_impl_stepForm_28 (.seq (.ops 2 r_impl_stepForm_2) b_impl_stepForm_27) := goEq rfl
noncomputable def b_impl_stepForm_29 : PC := (.block 0 b_impl_stepForm_28)
@[go_sem] theorem b_impl_stepForm_29_eq : GoEq CC DD b_impl_stepForm_29 (.block 0 b_impl_stepForm_28) := goEq rfl
noncomputable def b_impl_stepForm_30 : PC := (.seq (.ops 5 r_impl_stepForm_22) .ret)
@[go_sem] theorem b_impl_stepForm_30_eq : GoEq CC DD b_impl_stepForm_30 (.seq (.ops 5 r_impl_stepForm_22) .ret) := goEq rfl
noncomputable def b_impl_stepForm_31 : PC := (.seq (.seq (.ops 1 r_impl_stepForm_1) b_impl_stepForm_29) b_impl_stepForm_30)
@[go_sem] theorem b_impl_stepForm_31_eq : GoEq CC DD b_impl_stepForm_31 (.seq (.seq (.ops 1 r_impl_stepForm_1) b_impl_stepForm_29) b_impl_stepForm_30) := goEq rfl
noncomputable def c_impl_stepForm : PC :=
  (.seq (.ops 2 r_impl_stepForm_0) b_impl_stepForm_31)
theorem res_impl_stepForm : Try.f64.results.toList = [(ResultVar.tmp 2), (ResultVar.tmp 3)] := rfl
theorem c_impl_stepForm_ok : prep ((Try.f64.body).getD .skip) = some c_impl_stepForm := by kernel_rfl
noncomputable def r_impl_stepPart_0 : List POp := regAt Try.f65 0
@[go_sem] theorem r_impl_stepPart_0_eq : OpEq CC DD r_impl_stepPart_0 [
  ⟨(some 6), none, (.assign (.const (.bool false)))⟩] := opEq (by kernel_rfl)
noncomputable def r_impl_stepPart_1 : List POp := regAt Try.f65 1
@[go_sem] theorem r_impl_stepPart_1_eq : OpEq CC DD r_impl_stepPart_1 [
  ⟨(some 7), none, (.move (.tmp 1))⟩] := opEq (by kernel_rfl)
noncomputable def r_impl_stepPart_2 : List POp := regAt Try.f65 2
@[go_sem] theorem r_impl_stepPart_2_eq : OpEq CC DD r_impl_stepPart_2 [
  ⟨(some 8), none, (.move (.tmp 0))⟩,
  ⟨(some 9), none, (.move (.tmp 2))⟩,
  ⟨(some 10), none, (.call { callee := (.value (.func 67)), args := #[(.tmp 8), (.const (.int .i64 0)), (.tmp 9)], argTypes := #[3, 3, 3] })⟩,
  ⟨(some 6), none, (.assign (.tmp 10))⟩] := opEq (by kernel_rfl)
noncomputable def r_impl_stepPart_3 : List POp := regAt Try.f65 3
@[go_sem] theorem r_impl_stepPart_3_eq : OpEq CC DD r_impl_stepPart_3 [
  ⟨(some 11), none, (.move (.tmp 0))⟩,
  ⟨(some 12), none, (.binOp .eql 3 (.tmp 11) (.const (.int .i64 0)) 3)⟩,
  ⟨(some 6), none, (.assign (.tmp 12))⟩] := opEq (by kernel_rfl)
noncomputable def b_impl_stepPart_0 : PC := (.seq (.ops 4 r_impl_stepPart_2) .ret)
@[go_sem] theorem b_impl_stepPart_0_eq : GoEq CC DD b_impl_stepPart_0 (.seq (.ops 4 r_impl_stepPart_2) .ret) := goEq rfl
noncomputable def b_impl_stepPart_1 : PC := (.cond (.tmp 7) b_impl_stepPart_0 .skip)
@[go_sem] theorem b_impl_stepPart_1_eq : GoEq CC DD b_impl_stepPart_1 (.cond (.tmp 7) b_impl_stepPart_0 .skip) := goEq rfl
noncomputable def b_impl_stepPart_2 : PC := (.seq (.ops 3 r_impl_stepPart_3) .ret)
@[go_sem] theorem b_impl_stepPart_2_eq : GoEq CC DD b_impl_stepPart_2 (.seq (.ops 3 r_impl_stepPart_3) .ret) := goEq rfl
noncomputable def b_impl_stepPart_3 : PC := (.seq (.seq (.ops 1 r_impl_stepPart_1) b_impl_stepPart_1) b_impl_stepPart_2)
@[go_sem] theorem b_impl_stepPart_3_eq : GoEq CC DD b_impl_stepPart_3 (.seq (.seq (.ops 1 r_impl_stepPart_1) b_impl_stepPart_1) b_impl_stepPart_2) := goEq rfl
noncomputable def c_impl_stepPart : PC :=
  (.seq (.ops 1 r_impl_stepPart_0) b_impl_stepPart_3)
theorem res_impl_stepPart : Try.f65.results.toList = [(ResultVar.tmp 6)] := rfl
theorem c_impl_stepPart_ok : prep ((Try.f65.body).getD .skip) = some c_impl_stepPart := by kernel_rfl
noncomputable def r_slices_Contains_byte_0 : List POp := regAt Try.f66 0
@[go_sem] theorem r_slices_Contains_byte_0_eq : OpEq CC DD r_slices_Contains_byte_0 [
  ⟨(some 4), none, (.assign (.const (.bool false)))⟩] := opEq (by kernel_rfl)
noncomputable def r_slices_Contains_byte_1 : List POp := regAt Try.f66 1
@[go_sem] theorem r_slices_Contains_byte_1_eq : OpEq CC DD r_slices_Contains_byte_1 [
  ⟨(some 5), none, (.move (.tmp 0))⟩,
  ⟨(some 6), none, (.move (.tmp 1))⟩,
  ⟨(some 7), none, (.call { callee := (.value (.func 114)), args := #[(.tmp 5), (.tmp 6)], argTypes := #[28, 5] })⟩,
  ⟨(some 8), none, (.binOp .geq 3 (.tmp 7) (.const (.int .i64 0)) 3)⟩,
  ⟨(some 4), none, (.assign (.tmp 8))⟩] := opEq (by kernel_rfl)
noncomputable def b_slices_Contains_byte_0 : PC := (.seq (.ops 5 r_slices_Contains_byte_1) .ret)
@[go_sem] theorem b_slices_Contains_byte_0_eq : GoEq CC DD b_slices_Contains_byte_0 (.seq (.ops 5 r_slices_Contains_byte_1) .ret) := goEq rfl
noncomputable def c_slices_Contains_byte : PC :=
  (.seq (.ops 1 r_slices_Contains_byte_0) b_slices_Contains_byte_0)
theorem res_slices_Contains_byte : Try.f66.results.toList = [(ResultVar.tmp 4)] := rfl
theorem c_slices_Contains_byte_ok : prep ((Try.f66.body).getD .skip) = some c_slices_Contains_byte := by kernel_rfl
noncomputable def r_impl_in_0 : List POp := regAt Try.f67 0
@[go_sem] theorem r_impl_in_0_eq : OpEq CC DD r_impl_in_0 [
  ⟨(some 6), none, (.assign (.const (.bool false)))⟩] := opEq (by kernel_rfl)
noncomputable def r_impl_in_1 : List POp := regAt Try.f67 1
@[go_sem] theorem r_impl_in_1_eq : OpEq CC DD r_impl_in_1 [
  ⟨(some 7), none, (.move (.tmp 0))⟩,
  ⟨(some 8), none, (.move (.tmp 1))⟩,
  ⟨(some 9), none, (.binOp .geq 3 (.tmp 7) (.tmp 8) 3)⟩,
  ⟨(some 10), none, (.move (.tmp 9))⟩,
  ⟨(some 11), (some (10, true)), (.move (.tmp 0))⟩,
  ⟨(some 12), (some (10, true)), (.move (.tmp 2))⟩,
  ⟨(some 13), (some (10, true)), (.binOp .leq 3 (.tmp 11) (.tmp 12) 3)⟩,
  ⟨(some 14), none, (.pick (.tmp 10) (.tmp 13) (.const (.bool false)))⟩,
  ⟨(some 6), none, (.assign (.tmp 14))⟩] := opEq (by kernel_rfl)
noncomputable def b_impl_in_0 : PC := (.seq (.ops 9 r_impl_in_1) .ret)
@[go_sem] theorem b_impl_in_0_eq : GoEq CC DD b_impl_in_0 (.seq (.ops 9 r_impl_in_1) .ret) := goEq rfl
noncomputable def c_impl_in : PC :=
  (.seq (.ops 1 r_impl_in_0) b_impl_in_0)
theorem res_impl_in : Try.f67.results.toList = [(ResultVar.tmp 6)] := rfl
theorem c_impl_in_ok : prep ((Try.f67.body).getD .skip) = some c_impl_in := by kernel_rfl
noncomputable def r_spec_l1New_0 : List POp := regAt Try.f68 0
@[go_sem] theorem r_spec_l1New_0_eq : OpEq CC DD r_spec_l1New_0 [
  ⟨(some 2), none, (.assign (.const (.pointer none)))⟩] := opEq (by kernel_rfl)
noncomputable def r_spec_l1New_1 : List POp := regAt Try.f68 1
@[go_sem] theorem r_spec_l1New_1_eq : OpEq CC DD r_spec_l1New_1 [
  ⟨(some 5), none, (.move (.tmp 0))⟩,
  ⟨(some 6), none, (.call { callee := (.builtin .len), args := #[(.tmp 5)], argTypes := #[28] })⟩,
  ⟨(some 7), none, (.binOp .add 3 (.const (.int .i64 17111)) (.tmp 6) 3)⟩,
  ⟨(some 3), none, (.assign (.tmp 7))⟩] := opEq (by kernel_rfl)
noncomputable def r_spec_l1New_2 : List POp := regAt Try.f68 2
@[go_sem] theorem r_spec_l1New_2_eq : OpEq CC DD r_spec_l1New_2 [
  ⟨(some 4), none, (.assign (.const (.int .i64 0)))⟩] := opEq (by kernel_rfl)
noncomputable def r_spec_l1New_3 : List POp := regAt Try.f68 3
@[go_sem] theorem r_spec_l1New_3_eq : OpEq CC DD r_spec_l1New_3 [
  ⟨(some 8), none, (.move (.tmp 4))⟩,
  ⟨(some 9), none, (.move (.tmp 0))⟩,
  ⟨(some 10), none, (.call { callee := (.builtin .len), args := #[(.tmp 9)], argTypes := #[28] })⟩,
  ⟨(some 11), none, (.binOp .lss 3 (.tmp 8) (.tmp 10) 3)⟩,
  ⟨(some 12), none, (.move (.tmp 11))⟩,
  ⟨(some 13), (some (12, true)), (.move (.tmp 4))⟩,
  ⟨(some 14), (some (12, true)), (.binOp .lss 3 (.tmp 13) (.const (.int .i64 4000)) 3)⟩,
  ⟨(some 15), none, (.pick (.tmp 12) (.tmp 14) (.const (.bool false)))⟩] := opEq (by kernel_rfl)
noncomputable def r_spec_l1New_4 : List POp := regAt Try.f68 4
@[go_sem] theorem r_spec_l1New_4_eq : OpEq CC DD r_spec_l1New_4 [
  ⟨(some 18), none, (.move (.tmp 3))⟩,
  ⟨(some 19), none, (.binOp .mul 3 (.tmp 18) (.const (.int .i64 131)) 3)⟩,
  ⟨(some 20), none, (.move (.tmp 0))⟩,
  ⟨(some 21), none, (.move (.tmp 4))⟩,
  ⟨(some 22), none, (.indexAddr 28 (.tmp 20) (.tmp 21))⟩,
  ⟨(some 23), none, (.load 5 (.tmp 22))⟩,
  ⟨(some 24), none, (.convert 5 3 (.tmp 23))⟩,
  ⟨(some 25), none, (.binOp .add 3 (.tmp 19) (.tmp 24) 3)⟩,
  ⟨(some 26), none, (.binOp .add 3 (.tmp 25) (.const (.int .i64 7)) 3)⟩,
  ⟨(some 27), none, (.binOp .and 3 (.tmp 26) (.const (.int .i64 1073741823)) 3)⟩,
  ⟨(some 3), none, (.assign (.tmp 27))⟩] := opEq (by kernel_rfl)
noncomputable def r_spec_l1New_5 : List POp := regAt Try.f68 5
@[go_sem] theorem r_spec_l1New_5_eq : OpEq CC DD r_spec_l1New_5 [
  ⟨(some 16), none, (.move (.tmp 4))⟩,
  ⟨(some 17), none, (.binOp .add 3 (.tmp 16) (.const (.int .i64 1)) 3)⟩,
  ⟨(some 4), none, (.assign (.tmp 17))⟩] := opEq (by kernel_rfl)
noncomputable def r_spec_l1New_6 : List POp := regAt Try.f68 6
@[go_sem] theorem r_spec_l1New_6_eq : OpEq CC DD r_spec_l1New_6 [
  ⟨(some 28), none, (.move (.tmp 0))⟩,
  ⟨(some 29), none, (.move (.tmp 3))⟩,
  ⟨(some 30), none, (.build 159 #[(0, (.tmp 28)), (2, (.tmp 29))])⟩,
  ⟨(some 31), none, (.box 159 (.tmp 30))⟩,
  ⟨(some 2), none, (.assign (.tmp 31))⟩] := opEq (by kernel_rfl)
noncomputable def b_spec_l1New_0 : PC := (.cond (.tmp 15) .skip (.exit 0))
@[go_sem] theorem b_spec_l1New_0_eq : GoEq CC DD b_spec_l1New_0 (.cond (.tmp 15) .skip (.exit 0)) := goEq rfl
noncomputable def b_spec_l1New_1 : PC := (.seq (.block 1 (.ops 11 r_spec_l1New_4)) (.ops 3 r_spec_l1New_5))
@[go_sem] theorem b_spec_l1New_1_eq : GoEq CC DD b_spec_l1New_1 (.seq (.block 1 (.ops 11 r_spec_l1New_4)) (.ops 3 r_spec_l1New_5)) := goEq rfl
noncomputable def b_spec_l1New_2 : PC := (.seq (.seq (.ops 8 r_spec_l1New_3) b_spec_l1New_0) b_spec_l1New_1)
@[go_sem] theorem b_spec_l1New_2_eq : GoEq CC DD b_spec_l1New_2 (.seq (.seq (.ops 8 r_spec_l1New_3) b_spec_l1New_0) b_spec_l1New_1) := goEq rfl
noncomputable def b_spec_l1New_3 : PC := (.loop b_spec_l1New_2)
@[go_sem] theorem b_spec_l1New_3_eq : GoEq CC DD b_spec_l1New_3 (.loop b_spec_l1New_2) := goEq rfl
noncomputable def b_spec_l1New_4 : PC := (.block 0 b_spec_l1New_3)
@[go_sem] theorem b_spec_l1New_4_eq : GoEq CC DD b_spec_l1New_4 (.block 0 b_spec_l1New_3) := goEq rfl
noncomputable def b_spec_l1New_5 : PC := (.seq (.ops 5 r_spec_l1New_6) .ret)
@[go_sem] theorem b_spec_l1New_5_eq : GoEq CC DD b_spec_l1New_5 (.seq (.ops 5 r_spec_l1New_6) .ret) := goEq rfl
noncomputable def b_spec_l1New_6 : PC := (.seq (.seq (.ops 1 r_spec_l1New_2) b_spec_l1New_4) b_spec_l1New_5)
@[go_sem] theorem b_spec_l1New_6_eq : GoEq CC DD b_spec_l1New_6 (.seq (.seq (.ops 1 r_spec_l1New_2) b_spec_l1New_4) b_spec_l1New_5) := goEq rfl
noncomputable def b_spec_l1New_7 : PC := (.seq (.ops 4 r_spec_l1New_1) b_spec_l1New_6)
@[go_sem] theorem b_spec_l1New_7_eq : GoEq CC DD b_spec_l1New_7 (.seq (.ops 4 r_spec_l1New_1) b_spec_l1New_6) := goEq rfl
noncomputable def c_spec_l1New : PC :=
  (.seq (.ops 1 r_spec_l1New_0) b_spec_l1New_7)
theorem res_spec_l1New : Try.f68.results.toList = [(ResultVar.tmp 2)] := rfl
theorem c_spec_l1New_ok : prep ((Try.f68.body).getD .skip) = some c_spec_l1New := by kernel_rfl
noncomputable def r_spec_l1Once_0 : List POp := regAt Try.f69 0
@[go_sem] theorem r_spec_l1Once_0_eq : OpEq CC DD r_spec_l1Once_0 [
  ⟨(some 4), none, (.assign (.const (.bool false)))⟩] := opEq (by kernel_rfl)
noncomputable def r_spec_l1Once_1 : List POp := regAt Try.f69 1
@[go_sem] theorem r_spec_l1Once_1_eq : OpEq CC DD r_spec_l1Once_1 [
  ⟨(some 5), none, (.move (.tmp 0))⟩,
  ⟨(some 6), none, (.move (.tmp 1))⟩,
  ⟨(some 7), none, (.call { callee := (.value (.func 72)), args := #[(.tmp 5), (.tmp 6)], argTypes := #[87, 3] })⟩,
  ⟨(some 8), none, (.binOp .eql 3 (.tmp 7) (.const (.int .i64 0)) 3)⟩,
  ⟨(some 4), none, (.assign (.tmp 8))⟩] := opEq (by kernel_rfl)
noncomputable def b_spec_l1Once_0 : PC := (.seq (.ops 5 r_spec_l1Once_1) .ret)
@[go_sem] theorem b_spec_l1Once_0_eq : GoEq CC DD b_spec_l1Once_0 (.seq (.ops 5 r_spec_l1Once_1) .ret) := goEq rfl
noncomputable def c_spec_l1Once : PC :=
  (.seq (.ops 1 r_spec_l1Once_0) b_spec_l1Once_0)
theorem res_spec_l1Once : Try.f69.results.toList = [(ResultVar.tmp 4)] := rfl
theorem c_spec_l1Once_ok : prep ((Try.f69.body).getD .skip) = some c_spec_l1Once := by kernel_rfl
noncomputable def r_spec_l1PickInt_0 : List POp := regAt Try.f70 0
@[go_sem] theorem r_spec_l1PickInt_0_eq : OpEq CC DD r_spec_l1PickInt_0 [
  ⟨(some 4), none, (.assign (.const (.int .i64 0)))⟩] := opEq (by kernel_rfl)
noncomputable def r_spec_l1PickInt_1 : List POp := regAt Try.f70 1
@[go_sem] theorem r_spec_l1PickInt_1_eq : OpEq CC DD r_spec_l1PickInt_1 [
  ⟨(some 5), none, (.move (.tmp 1))⟩,
  ⟨(some 6), none, (.move (.tmp 0))⟩,
  ⟨(some 7), none, (.move (.tmp 1))⟩,
  ⟨(some 8), none, (.call { callee := (.builtin .len), args := #[(.tmp 7)], argTypes := #[56] })⟩,
  ⟨(some 9), none, (.call { callee := (.value (.func 72)), args := #[(.tmp 6), (.tmp 8)], argTypes := #[87, 3] })⟩,
  ⟨(some 10), none, (.indexAddr 56 (.tmp 5) (.tmp 9))⟩,
  ⟨(some 11), none, (.load 3 (.tmp 10))⟩,
  ⟨(some 4), none, (.assign (.tmp 11))⟩] := opEq (by kernel_rfl)
noncomputable def b_spec_l1PickInt_0 : PC := (.seq (.ops 8 r_spec_l1PickInt_1) .ret)
@[go_sem] theorem b_spec_l1PickInt_0_eq : GoEq CC DD b_spec_l1PickInt_0 (.seq (.ops 8 r_spec_l1PickInt_1) .ret) := goEq rfl
noncomputable def c_spec_l1PickInt : PC :=
  (.seq (.ops 1 r_spec_l1PickInt_0) b_spec_l1PickInt_0)
theorem res_spec_l1PickInt : Try.f70.results.toList = [(ResultVar.tmp 4)] := rfl
theorem c_spec_l1PickInt_ok : prep ((Try.f70.body).getD .skip) = some c_spec_l1PickInt := by kernel_rfl
noncomputable def r_spec_l1DrawNum_0 : List POp := regAt Try.f71 0
@[go_sem] theorem r_spec_l1DrawNum_0_eq : OpEq CC DD r_spec_l1DrawNum_0 [
  ⟨(some 2), none, (.assign (.const (.int .i64 0)))⟩] := opEq (by kernel_rfl)
noncomputable def r_spec_l1DrawNum_1 : List POp := regAt Try.f71 1
@[go_sem] theorem r_spec_l1DrawNum_1_eq : OpEq CC DD r_spec_l1DrawNum_1 [
  ⟨(some 3), none, (.move (.tmp 0))⟩,
  ⟨(some 4), none, (.call { callee := (.value (.func 69)), args := #[(.tmp 3), (.const (.int .i64 8))], argTypes := #[87, 3] })⟩] := opEq (by kernel_rfl)
noncomputable def r_spec_l1DrawNum_2 : List POp := regAt Try.f71 2
@[go_sem] theorem r_spec_l1DrawNum_2_eq : OpEq CC DD r_spec_l1DrawNum_2 [
  ⟨(some 5), none, (.move (.tmp 0))⟩,
  ⟨(some 6), none, (.buildSlice 56 7 #[(0, (.const (.int .i64 9223372036854775807))), (1, (.const (.int .i64 (-9223372036854775808)))), (2, (.const (.int .i64 4294967296))), (3, (.const (.int .i64 (-1)))), (4, (.const (.int .i64 63))), (5, (.const (.int .i64 64))), (6, (.const (.int .i64 1000000007)))])⟩,
  ⟨(some 7), none, (.call { callee := (.value (.func 70)), args := #[(.tmp 5), (.tmp 6)], argTypes := #[87, 56] })⟩,
  ⟨(some 2), none, (.assign (.tmp 7))⟩] := opEq (by kernel_rfl)
noncomputable def r_spec_l1DrawNum_3 : List POp := regAt Try.f71 3
@[go_sem] theorem r_spec_l1DrawNum_3_eq : OpEq CC DD r_spec_l1DrawNum_3 [
  ⟨(some 8), none, (.move (.tmp 0))⟩,
  ⟨(some 9), none, (.call { callee := (.value (.func 72)), args := #[(.tmp 8), (.const (.int .i64 20))], argTypes := #[87, 3] })⟩,
  ⟨(some 10), none, (.binOp .sub 3 (.tmp 9) (.const (.int .i64 6)) 3)⟩,
  ⟨(some 2), none, (.assign (.tmp 10))⟩] := opEq (by kernel_rfl)
noncomputable def b_spec_l1DrawNum_0 : PC := (.seq (.ops 4 r_spec_l1DrawNum_2) .ret)
@[go_sem] theorem b_spec_l1DrawNum_0_eq : GoEq CC DD b_spec_l1DrawNum_0 (.seq (.ops 4 r_spec_l1DrawNum_2) .ret) := goEq rfl
noncomputable def b_spec_l1DrawNum_1 : PC := (.cond (.tmp 4) b_spec_l1DrawNum_0 .skip)
@[go_sem] theorem b_spec_l1DrawNum_1_eq : GoEq CC DD b_spec_l1DrawNum_1 (.cond (.tmp 4) b_spec_l1DrawNum_0 .skip) := goEq rfl
noncomputable def b_spec_l1DrawNum_2 : PC := (.seq (.ops 4 r_spec_l1DrawNum_3) .ret)
@[go_sem] theorem b_spec_l1DrawNum_2_eq : GoEq CC DD b_spec_l1DrawNum_2 (.seq (.ops 4 r_spec_l1DrawNum_3) .ret) := goEq rfl
noncomputable def b_spec_l1DrawNum_3 : PC := (.seq (.seq (.ops 2 r_spec_l1DrawNum_1) b_spec_l1DrawNum_1) b_spec_l1DrawNum_2)
@[go_sem] theorem b_spec_l1DrawNum_3_eq : GoEq CC DD b_spec_l1DrawNum_3 (.seq (.seq (.ops 2 r_spec_l1DrawNum_1) b_spec_l1DrawNum_1) b_spec_l1DrawNum_2) := goEq rfl
noncomputable def c_spec_l1DrawNum : PC :=
  (.seq (.ops 1 r_spec_l1DrawNum_0) b_spec_l1DrawNum_3)
theorem res_spec_l1DrawNum : Try.f71.results.toList = [(ResultVar.tmp 2)] := rfl
theorem c_spec_l1DrawNum_ok : prep ((Try.f71.body).getD .skip) = some c_spec_l1DrawNum := by kernel_rfl
noncomputable def r_spec_l1Below_0 : List POp := regAt Try.f72 0
@[go_sem] theorem r_spec_l1Below_0_eq : OpEq CC DD r_spec_l1Below_0 [
  ⟨(some 4), none, (.assign (.const (.int .i64 0)))⟩] := opEq (by kernel_rfl)
noncomputable def r_spec_l1Below_1 : List POp := regAt Try.f72 1
@[go_sem] theorem r_spec_l1Below_1_eq : OpEq CC DD r_spec_l1Below_1 [
  ⟨(some 9), none, (.move (.tmp 1))⟩,
  ⟨(some 10), none, (.binOp .leq 3 (.tmp 9) (.const (.int .i64 0)) 3)⟩] := opEq (by kernel_rfl)
noncomputable def r_spec_l1Below_2 : List POp := regAt Try.f72 2
@[go_sem] theorem r_spec_l1Below_2_eq : OpEq CC DD r_spec_l1Below_2 [
  ⟨(some 4), none, (.assign (.const (.int .i64 0)))⟩] := opEq (by kernel_rfl)
noncomputable def r_spec_l1Below_3 : List POp := regAt Try.f72 3
@[go_sem] theorem r_spec_l1Below_3_eq : OpEq CC DD r_spec_l1Below_3 [
  ⟨(some 11), none, (.move (.tmp 1))⟩,
  ⟨(some 12), none, (.binOp .leq 3 (.tmp 11) (.const (.int .i64 256)) 3)⟩] := opEq (by kernel_rfl)
noncomputable def r_spec_l1Below_4 : List POp := regAt Try.f72 4
@[go_sem] theorem r_spec_l1Below_4_eq : OpEq CC DD r_spec_l1Below_4 [
  ⟨(some 13), none, (.move (.tmp 0))⟩,
  ⟨(some 14), none, (.call { callee := (.value (.func 73)), args := #[(.tmp 13)], argTypes := #[87] })⟩,
  ⟨(some 15), none, (.move (.tmp 1))⟩,
  ⟨(some 16), none, (.binOp .rem 3 (.tmp 14) (.tmp 15) 3)⟩,
  ⟨(some 4), none, (.assign (.tmp 16))⟩] := opEq (by kernel_rfl)
noncomputable def r_spec_l1Below_5 : List POp := regAt Try.f72 5
@[go_sem] theorem r_spec_l1Below_5_eq : OpEq CC DD r_spec_l1Below_5 [
  ⟨(some 17), none, (.move (.tmp 0))⟩,
  ⟨(some 18), none, (.call { callee := (.value (.func 73)), args := #[(.tmp 17)], argTypes := #[87] })⟩,
  ⟨(some 5), none, (.assign (.tmp 18))⟩] := opEq (by kernel_rfl)
noncomputable def r_spec_l1Below_6 : List POp := regAt Try.f72 6
@[go_sem] theorem r_spec_l1Below_6_eq : OpEq CC DD r_spec_l1Below_6 [
  ⟨(some 19), none, (.move (.tmp 0))⟩,
  ⟨(some 20), none, (.call { callee := (.value (.func 73)), args := #[(.tmp 19)], argTypes := #[87] })⟩,
  ⟨(some 6), none, (.assign (.tmp 20))⟩] := opEq (by kernel_rfl)
noncomputable def r_spec_l1Below_7 : List POp := regAt Try.f72 7
@[go_sem] theorem r_spec_l1Below_7_eq : OpEq CC DD r_spec_l1Below_7 [
  ⟨(some 21), none, (.move (.tmp 0))⟩,
  ⟨(some 22), none, (.call { callee := (.value (.func 73)), args := #[(.tmp 21)], argTypes := #[87] })⟩,
  ⟨(some 7), none, (.assign (.tmp 22))⟩] := opEq (by kernel_rfl)
noncomputable def r_spec_l1Below_8 : List POp := regAt Try.f72 8
@[go_sem] theorem r_spec_l1Below_8_eq : OpEq CC DD r_spec_l1Below_8 [
  ⟨(some 23), none, (.move (.tmp 0))⟩,
  ⟨(some 24), none, (.call { callee := (.value (.func 73)), args := #[(.tmp 23)], argTypes := #[87] })⟩,
  ⟨(some 8), none, (.assign (.tmp 24))⟩] := opEq (by kernel_rfl)
noncomputable def r_spec_l1Below_9 : List POp := regAt Try.f72 9
@[go_sem] theorem r_spec_l1Below_9_eq : OpEq CC DD r_spec_l1Below_9 [
  ⟨(some 25), none, (.move (.tmp 5))⟩,
  ⟨(some 26), none, (.binOp .mul 3 (.tmp 25) (.const (.int .i64 16777216)) 3)⟩,
  ⟨(some 27), none, (.move (.tmp 6))⟩,
  ⟨(some 28), none, (.binOp .mul 3 (.tmp 27) (.const (.int .i64 65536)) 3)⟩,
  ⟨(some 29), none, (.binOp .add 3 (.tmp 26) (.tmp 28) 3)⟩,
  ⟨(some 30), none, (.move (.tmp 7))⟩,
  ⟨(some 31), none, (.binOp .mul 3 (.tmp 30) (.const (.int .i64 256)) 3)⟩,
  ⟨(some 32), none, (.binOp .add 3 (.tmp 29) (.tmp 31) 3)⟩,
  ⟨(some 33), none, (.move (.tmp 8))⟩,
  ⟨(some 34), none, (.binOp .add 3 (.tmp 32) (.tmp 33) 3)⟩,
  ⟨(some 35), none, (.move (.tmp 1))⟩,
  ⟨(some 36), none, (.binOp .rem 3 (.tmp 34) (.tmp 35) 3)⟩,
  ⟨(some 4), none, (.assign (.tmp 36))⟩] := opEq (by kernel_rfl)
noncomputable def b_spec_l1Below_0 : PC := (.seq (.ops 1 r_spec_l1Below_2) .ret)
@[go_sem] theorem b_spec_l1Below_0_eq : GoEq CC DD b_spec_l1Below_0 (.seq (.ops 1 r_spec_l1Below_2) .ret) := goEq rfl
noncomputable def b_spec_l1Below_1 : PC := (.cond (.tmp 10) b_spec_l1Below_0 .skip)
@[go_sem] theorem b_spec_l1Below_1_eq : GoEq CC DD b_spec_l1Below_1 (.cond (.tmp 10) b_spec_l1Below_0 .skip) := goEq rfl
noncomputable def b_spec_l1Below_2 : PC := (.seq (.ops 5 r_spec_l1Below_4) .ret)
@[go_sem] theorem b_spec_l1Below_2_eq : GoEq CC DD b_spec_l1Below_2 (.seq (.ops 5 r_spec_l1Below_4) .ret) := goEq rfl
noncomputable def b_spec_l1Below_3 : PC := (.cond (.tmp 12) b_spec_l1Below_2 .skip)
@[go_sem] theorem b_spec_l1Below_3_eq : GoEq CC DD b_spec_l1Below_3 (.cond (.tmp 12) b_spec_l1Below_2 .skip) := goEq rfl
noncomputable def b_spec_l1Below_4 : PC := (.seq (.ops 13 r_spec_l1Below_9) .ret)
@[go_sem] theorem b_spec_l1Below_4_eq : GoEq CC DD b_spec_l1Below_4 (.seq (.ops 13 r_spec_l1Below_9) .ret) := goEq rfl
noncomputable def b_spec_l1Below_5 : PC := (.seq (.ops 3 r_spec_l1Below_8) b_spec_l1Below_4)
@[go_sem] theorem b_spec_l1Below_5_eq : GoEq CC DD b_spec_l1Below_5 (.seq (.ops 3 r_spec_l1Below_8) b_spec_l1Below_4) := goEq rfl
noncomputable def b_spec_l1Below_6 : PC := (.seq (.ops 3 r_spec_l1Below_7) b_spec_l1Below_5)
@[go_sem] theorem b_spec_l1Below_6_eq : GoEq CC DD b_spec_l1Below_6 (.seq (.ops 3 r_spec_l1Below_7) b_spec_l1Below_5) := goEq rfl
noncomputable def b_spec_l1Below_7 : PC := (.seq (.ops 3 r_spec_l1Below_6) b_spec_l1Below_6)
@[go_sem] theorem b_spec_l1Below_7_eq : GoEq CC DD b_spec_l1Below_7 (.seq (.ops 3 r_spec_l1Below_6) b_spec_l1Below_6) := goEq rfl
noncomputable def b_spec_l1Below_8 : PC := (.seq (.ops 3 r_spec_l1Below_5) b_spec_l1Below_7)
@[go_sem] theorem b_spec_l1Below_8_eq : GoEq CC DD b_spec_l1Below_8 (.seq (.ops 3 r_spec_l1Below_5) b_spec_l1Below_7) := goEq rfl
noncomputable def b_spec_l1Below_9 : PC := (.seq (.seq (.ops 2 r_spec_l1Below_3) b_spec_l1Below_3) b_spec_l1Below_8)
@[go_sem] theorem b_spec_l1Below_9_eq : GoEq CC DD b_spec_l1Below_9 (.seq (.seq (.ops 2 r_spec_l1Below_3) b_spec_l1Below_3) b_spec_l1Below_8) := goEq rfl
noncomputable def b_spec_l1Below_10 : PC := (.seq (.seq (.ops 2 r_spec_l1Below_1) b_spec_l1Below_1) b_spec_l1Below_9)
@[go_sem] theorem b_spec_l1Below_10_eq : GoEq CC DD b_spec_l1Below_10 (.seq (.seq (.ops 2 r_spec_l1Below_1) b_spec_l1Below_1) b_spec_l1Below_9) := goEq rfl
noncomputable def c_spec_l1Below : PC :=
  (.seq (.ops 1 r_spec_l1Below_0) b_spec_l1Below_10)
theorem res_spec_l1Below : Try.f72.results.toList = [(ResultVar.tmp 4)] := rfl
theorem c_spec_l1Below_ok : prep ((Try.f72.body).getD .skip) = some c_spec_l1Below := by kernel_rfl
noncomputable def r_spec_l1Byte_0 : List POp := regAt Try.f73 0
@[go_sem] theorem r_spec_l1Byte_0_eq : OpEq CC DD r_spec_l1Byte_0 [
  ⟨(some 2), none, (.assign (.const (.int .i64 0)))⟩] := opEq (by kernel_rfl)
noncomputable def r_spec_l1Byte_1 : List POp := regAt Try.f73 1
@[go_sem] theorem r_spec_l1Byte_1_eq : OpEq CC DD r_spec_l1Byte_1 [
  ⟨(some 4), none, (.move (.tmp 0))⟩,
  ⟨(some 5), none, (.move (.tmp 0))⟩,
  ⟨(some 6), none, (.nilCheck (.tmp 5))⟩,
  ⟨(some 7), none, (.fieldAddr 159 (.tmp 6) 2)⟩,
  ⟨(some 8), none, (.load 3 (.tmp 7))⟩,
  ⟨(some 9), none, (.binOp .mul 3 (.tmp 8) (.const (.int .i64 6364136223846793005)) 3)⟩,
  ⟨(some 10), none, (.binOp .add 3 (.tmp 9) (.const (.int .i64 1442695040888963407)) 3)⟩,
  ⟨(some 11), none, (.nilCheck (.tmp 4))⟩,
  ⟨(some 12), none, (.fieldAddr 159 (.tmp 11) 2)⟩,
  ⟨none, none, (.store 3 (.tmp 12) (.tmp 10))⟩] := opEq (by kernel_rfl)
noncomputable def d_spec_l1Byte_2 : Array Oper := drawAt Try.f73 0
theorem d_spec_l1Byte_2_go {Q : Ex → S → Prop} {k : List Fr} {s : S} (h : OpG Γ E (TC Γ CC false (s.h.next + 13)) DD (Done Γ E CC DD Q k) s.h.next 0 [
  ⟨(some 13), none, (.move (.tmp 0))⟩,
  ⟨(some 14), none, (.nilCheck (.tmp 13))⟩,
  ⟨(some 15), none, (.fieldAddr 159 (.tmp 14) 2)⟩,
  ⟨(some 16), none, (.load 3 (.tmp 15))⟩,
  ⟨(some 17), none, (.binOp .shr 3 (.tmp 16) (.const (.int .u64 33)) 93)⟩,
  ⟨(some 18), none, (.move (.tmp 0))⟩,
  ⟨(some 19), none, (.nilCheck (.tmp 18))⟩,
  ⟨(some 20), none, (.fieldAddr 159 (.tmp 19) 2)⟩,
  ⟨(some 21), none, (.load 3 (.tmp 20))⟩,
  ⟨(some 22), none, (.binOp .shr 3 (.tmp 21) (.const (.int .u64 45)) 93)⟩,
  ⟨(some 23), none, (.binOp .xor 3 (.tmp 17) (.tmp 22) 3)⟩,
  ⟨(some 24), none, (.binOp .and 3 (.tmp 23) (.const (.int .i64 255)) 3)⟩,
  ⟨(some 3), none, (.assign (.tmp 24))⟩] [] (s.hp (s.h.cl 13))) : Go Γ E CC DD Q (.draw d_spec_l1Byte_2) k s :=
  go_text (l0 := (prepO d_spec_l1Byte_2 d_spec_l1Byte_2.toList).getD []) [0, 1, 3, 7, 15, 0, 32, 96, 224, 480, 1023, 2047, 4095] [0, 0, 0, 1, 0, 0, 0, 0, 1, 0, 0, 0, 0] false _ (by kernel_rfl) (by kernel_rfl) (by kernel_rfl) (by kernel_rfl) (by kernel_rfl) h
noncomputable def d_spec_l1Byte_3 : Array Oper := drawAt Try.f73 1
theorem d_spec_l1Byte_3_go {Q : Ex → S → Prop} {k : List Fr} {s : S} (h : OpG Γ E (TC Γ CC false (s.h.next + 10)) DD (Done Γ E CC DD Q k) s.h.next 0 [
  ⟨(some 25), none, (.move (.tmp 0))⟩,
  ⟨(some 26), none, (.nilCheck (.tmp 25))⟩,
  ⟨(some 27), none, (.fieldAddr 159 (.tmp 26) 1)⟩,
  ⟨(some 28), none, (.load 3 (.tmp 27))⟩,
  ⟨(some 29), none, (.move (.tmp 0))⟩,
  ⟨(some 30), none, (.nilCheck (.tmp 29))⟩,
  ⟨(some 31), none, (.fieldAddr 159 (.tmp 30) 0)⟩,
  ⟨(some 32), none, (.load 28 (.tmp 31))⟩,
  ⟨(some 33), none, (.call { callee := (.builtin .len), args := #[(.tmp 32)], argTypes := #[28] })⟩,
  ⟨(some 34), none, (.binOp .lss 3 (.tmp 28) (.tmp 33) 3)⟩] [] (s.hp (s.h.cl 10))) : Go Γ E CC DD Q (.draw d_spec_l1Byte_3) k s :=
  go_text (l0 := (prepO d_spec_l1Byte_3 d_spec_l1Byte_3.toList).getD []) [0, 1, 3, 7, 0, 16, 48, 112, 240, 511] [0, 0, 0, 1, 0, 0, 0, 1, 0, 0] false _ (by kernel_rfl) (by kernel_rfl) (by kernel_rfl) (by kernel_rfl) (by kernel_rfl) h
noncomputable def d_spec_l1Byte_4 : Array Oper := drawAt Try.f73 2
theorem d_spec_l1Byte_4_go {Q : Ex → S → Prop} {k : List Fr} {s : S} (h : OpG Γ E (TC Γ CC false (s.h.next + 15)) DD (Done Γ E CC DD Q k) s.h.next 0 [
  ⟨(some 35), none, (.move (.tmp 3))⟩,
  ⟨(some 36), none, (.move (.tmp 0))⟩,
  ⟨(some 37), none, (.nilCheck (.tmp 36))⟩,
  ⟨(some 38), none, (.fieldAddr 159 (.tmp 37) 0)⟩,
  ⟨(some 39), none, (.load 28 (.tmp 38))⟩,
  ⟨(some 40), none, (.move (.tmp 0))⟩,
  ⟨(some 41), none, (.nilCheck (.tmp 40))⟩,
  ⟨(some 42), none, (.fieldAddr 159 (.tmp 41) 1)⟩,
  ⟨(some 43), none, (.load 3 (.tmp 42))⟩,
  ⟨(some 44), none, (.indexAddr 28 (.tmp 39) (.tmp 43))⟩,
  ⟨(some 45), none, (.load 5 (.tmp 44))⟩,
  ⟨(some 46), none, (.convert 5 3 (.tmp 45))⟩,
  ⟨(some 47), none, (.binOp .add 3 (.tmp 35) (.tmp 46) 3)⟩,
  ⟨(some 48), none, (.binOp .and 3 (.tmp 47) (.const (.int .i64 255)) 3)⟩,
  ⟨(some 3), none, (.assign (.tmp 48))⟩] [] (s.hp (s.h.cl 15))) : Go Γ E CC DD Q (.draw d_spec_l1Byte_4) k s :=
  go_text (l0 := (prepO d_spec_l1Byte_4 d_spec_l1Byte_4.toList).getD []) [0, 0, 2, 6, 14, 0, 32, 96, 224, 510, 1022, 2046, 4095, 8191, 16383] [0, 0, 0, 0, 1, 0, 0, 0, 1, 0, 1, 0, 0, 0, 0] false _ (by kernel_rfl) (by kernel_rfl) (by kernel_rfl) (by kernel_rfl) (by kernel_rfl) h
noncomputable def r_spec_l1Byte_5 : List POp := regAt Try.f73 2
@[go_sem] theorem r_spec_l1Byte_5_eq : OpEq CC DD r_spec_l1Byte_5 [
  ⟨(some 49), none, (.move (.tmp 0))⟩,
  ⟨(some 50), none, (.move (.tmp 0))⟩,
  ⟨(some 51), none, (.nilCheck (.tmp 50))⟩,
  ⟨(some 52), none, (.fieldAddr 159 (.tmp 51) 1)⟩,
  ⟨(some 53), none, (.load 3 (.tmp 52))⟩,
  ⟨(some 54), none, (.binOp .add 3 (.tmp 53) (.const (.int .i64 1)) 3)⟩,
  ⟨(some 55), none, (.nilCheck (.tmp 49))⟩,
  ⟨(some 56), none, (.fieldAddr 159 (.tmp 55) 1)⟩,
  ⟨none, none, (.store 3 (.tmp 56) (.tmp 54))⟩] := opEq (by kernel_rfl)
noncomputable def r_spec_l1Byte_6 : List POp := regAt Try.f73 3
@[go_sem] theorem r_spec_l1Byte_6_eq : OpEq CC DD r_spec_l1Byte_6 [
  ⟨(some 57), none, (.move (.tmp 3))⟩,
  ⟨(some 2), none, (.assign (.tmp 57))⟩] := opEq (by kernel_rfl)
noncomputable def b_spec_l1Byte_0 : PC := (.seq (.draw d_spec_l1Byte_4) (.ops 9 r_spec_l1Byte_5))
@[go_sem] theorem b_spec_l1Byte_0_eq : GoEq CC DD b_spec_l1Byte_0 (.seq (.draw d_spec_l1Byte_4) (.ops 9 r_spec_l1Byte_5)) := goEq rfl
noncomputable def b_spec_l1Byte_1 : PC := (.cond (.tmp 34) b_spec_l1Byte_0 .skip)
@[go_sem] theorem b_spec_l1Byte_1_eq : GoEq CC DD b_spec_l1Byte_1 (.cond (.tmp 34) b_spec_l1Byte_0 .skip) := goEq rfl
noncomputable def b_spec_l1Byte_2 : PC := (.seq (.ops 2 r_spec_l1Byte_6) .ret)
@[go_sem] theorem b_spec_l1Byte_2_eq : GoEq CC DD b_spec_l1Byte_2 (.seq (.ops 2 r_spec_l1Byte_6) .ret) := goEq rfl
noncomputable def b_spec_l1Byte_3 : PC := (.seq (.seq (.draw d_spec_l1Byte_3) b_spec_l1Byte_1) b_spec_l1Byte_2)
@[go_sem] theorem b_spec_l1Byte_3_eq : GoEq CC DD b_spec_l1Byte_3 (.seq (.seq (.draw d_spec_l1Byte_3) b_spec_l1Byte_1) b_spec_l1Byte_2) := goEq rfl
noncomputable def b_spec_l1Byte_4 : PC := (.seq (.draw d_spec_l1Byte_2) b_spec_l1Byte_3)
@[go_sem] theorem b_spec_l1Byte_4_eq : GoEq CC DD b_spec_l1Byte_4 (.seq (.draw d_spec_l1Byte_2) b_spec_l1Byte_3) := goEq rfl
noncomputable def b_spec_l1Byte_5 : PC := (.seq (.ops 10 r_spec_l1Byte_1) b_spec_l1Byte_4)
@[go_sem] theorem b_spec_l1Byte_5_eq : GoEq CC DD b_spec_l1Byte_5 (.seq (.ops 10 r_spec_l1Byte_1) b_spec_l1Byte_4) := goEq rfl
noncomputable def c_spec_l1Byte : PC :=
  (.seq (.ops 1 r_spec_l1Byte_0) b_spec_l1Byte_5)
theorem res_spec_l1Byte : Try.f73.results.toList = [(ResultVar.tmp 2)] := rfl
theorem c_spec_l1Byte_ok : prep ((Try.f73.body).getD .skip) = some c_spec_l1Byte := by kernel_rfl
noncomputable def r_spec_l14DrawStep_0 : List POp := regAt Try.f77 0
@[go_sem] theorem r_spec_l14DrawStep_0_eq : OpEq CC DD r_spec_l14DrawStep_0 [
  ⟨(some 4), none, (.alloc 25)⟩] := opEq (by kernel_rfl)
noncomputable def r_spec_l14DrawStep_1 : List POp := regAt Try.f77 1
@[go_sem] theorem r_spec_l14DrawStep_1_eq : OpEq CC DD r_spec_l14DrawStep_1 [
  ⟨(some 9), none, (.move (.tmp 0))⟩,
  ⟨(some 10), none, (.call { callee := (.value (.func 72)), args := #[(.tmp 9), (.const (.int .i64 21))], argTypes := #[87, 3] })⟩,
  ⟨(some 11), none, (.binOp .add 3 (.const (.int .i64 1)) (.tmp 10) 3)⟩,
  ⟨(some 12), none, (.build 25 #[(0, (.tmp 11))])⟩,
  ⟨(some 5), none, (.alloc 25)⟩,
  ⟨none, none, (.store 25 (.tmp 5) (.tmp 12))⟩] := opEq (by kernel_rfl)
noncomputable def r_spec_l14DrawStep_2 : List POp := regAt Try.f77 2
@[go_sem] theorem r_spec_l14DrawStep_2_eq : OpEq CC DD r_spec_l14DrawStep_2 [
  ⟨(some 13), none, (.move (.tmp 0))⟩,
  ⟨(some 14), none, (.call { callee := (.value (.func 72)), args := #[(.tmp 13), (.const (.int .i64 8))], argTypes := #[87, 3] })⟩,
  ⟨(some 15), none, (.move (.tmp 0))⟩,
  ⟨(some 16), none, (.call { callee := (.value (.func 72)), args := #[(.tmp 15), (.const (.int .i64 8))], argTypes := #[87, 3] })⟩,
  ⟨(some 17), none, (.move (.tmp 0))⟩,
  ⟨(some 18), none, (.call { callee := (.value (.func 72)), args := #[(.tmp 17), (.const (.int .i64 8))], argTypes := #[87, 3] })⟩,
  ⟨(some 6), none, (.assign (.tmp 14))⟩,
  ⟨(some 7), none, (.assign (.tmp 16))⟩,
  ⟨(some 8), none, (.assign (.tmp 18))⟩] := opEq (by kernel_rfl)
noncomputable def r_spec_l14DrawStep_3 : List POp := regAt Try.f77 3
@[go_sem] theorem r_spec_l14DrawStep_3_eq : OpEq CC DD r_spec_l14DrawStep_3 [
  ⟨(some 19), none, (.fieldAddr 25 (.tmp 5) 0)⟩,
  ⟨(some 20), none, (.load 3 (.tmp 19))⟩] := opEq (by kernel_rfl)
noncomputable def r_spec_l14DrawStep_4 : List POp := regAt Try.f77 4
@[go_sem] theorem r_spec_l14DrawStep_4_eq : OpEq CC DD r_spec_l14DrawStep_4 [
  ⟨(some 28), none, (.binOp .eql 3 (.tmp 20) (.const (.int .i64 1)) 3)⟩,
  ⟨(some 27), none, (.assign (.tmp 28))⟩] := opEq (by kernel_rfl)
noncomputable def r_spec_l14DrawStep_5 : List POp := regAt Try.f77 5
@[go_sem] theorem r_spec_l14DrawStep_5_eq : OpEq CC DD r_spec_l14DrawStep_5 [
  ⟨(some 29), none, (.move (.tmp 6))⟩,
  ⟨(some 30), none, (.fieldAddr 25 (.tmp 5) 1)⟩,
  ⟨none, none, (.store 3 (.tmp 30) (.tmp 29))⟩] := opEq (by kernel_rfl)
noncomputable def r_spec_l14DrawStep_6 : List POp := regAt Try.f77 6
@[go_sem] theorem r_spec_l14DrawStep_6_eq : OpEq CC DD r_spec_l14DrawStep_6 [
  ⟨(some 31), none, (.move (.tmp 0))⟩,
  ⟨(some 32), none, (.call { callee := (.value (.func 71)), args := #[(.tmp 31)], argTypes := #[87] })⟩,
  ⟨(some 33), none, (.fieldAddr 25 (.tmp 5) 4)⟩,
  ⟨none, none, (.store 3 (.tmp 33) (.tmp 32))⟩] := opEq (by kernel_rfl)
noncomputable def r_spec_l14DrawStep_7 : List POp := regAt Try.f77 7
@[go_sem] theorem r_spec_l14DrawStep_7_eq : OpEq CC DD r_spec_l14DrawStep_7 [
  ⟨(some 35), none, (.binOp .eql 3 (.tmp 20) (.const (.int .i64 2)) 3)⟩,
  ⟨(some 34), none, (.assign (.tmp 35))⟩] := opEq (by kernel_rfl)
noncomputable def r_spec_l14DrawStep_8 : List POp := regAt Try.f77 8
@[go_sem] theorem r_spec_l14DrawStep_8_eq : OpEq CC DD r_spec_l14DrawStep_8 [
  ⟨(some 36), none, (.binOp .eql 3 (.tmp 20) (.const (.int .i64 5)) 3)⟩,
  ⟨(some 34), none, (.assign (.tmp 36))⟩] := opEq (by kernel_rfl)
noncomputable def r_spec_l14DrawStep_9 : List POp := regAt Try.f77 9
@[go_sem] theorem r_spec_l14DrawStep_9_eq : OpEq CC DD r_spec_l14DrawStep_9 [
  ⟨(some 37), none, (.move (.tmp 6))⟩,
  ⟨(some 38), none, (.fieldAddr 25 (.tmp 5) 1)⟩,
  ⟨none, none, (.store 3 (.tmp 38) (.tmp 37))⟩] := opEq (by kernel_rfl)
noncomputable def r_spec_l14DrawStep_10 : List POp := regAt Try.f77 10
@[go_sem] theorem r_spec_l14DrawStep_10_eq : OpEq CC DD r_spec_l14DrawStep_10 [
  ⟨(some 39), none, (.move (.tmp 7))⟩,
  ⟨(some 40), none, (.fieldAddr 25 (.tmp 5) 2)⟩,
  ⟨none, none, (.store 3 (.tmp 40) (.tmp 39))⟩] := opEq (by kernel_rfl)
noncomputable def r_spec_l14DrawStep_11 : List POp := regAt Try.f77 11
@[go_sem] theorem r_spec_l14DrawStep_11_eq : OpEq CC DD r_spec_l14DrawStep_11 [
  ⟨(some 42), none, (.binOp .eql 3 (.tmp 20) (.const (.int .i64 3)) 3)⟩,
  ⟨(some 41), none, (.assign (.tmp 42))⟩] := opEq (by kernel_rfl)
noncomputable def r_spec_l14DrawStep_12 : List POp := regAt Try.f77 12
@[go_sem] theorem r_spec_l14DrawStep_12_eq : OpEq CC DD r_spec_l14DrawStep_12 [
  ⟨(some 43), none, (.move (.tmp 6))⟩,
  ⟨(some 44), none, (.fieldAddr 25 (.tmp 5) 1)⟩,
  ⟨none, none, (.store 3 (.tmp 44) (.tmp 43))⟩] := opEq (by kernel_rfl)
noncomputable def r_spec_l14DrawStep_13 : List POp := regAt Try.f77 13
@[go_sem] theorem r_spec_l14DrawStep_13_eq : OpEq CC DD r_spec_l14DrawStep_13 [
  ⟨(some 45), none, (.move (.tmp 0))⟩,
  ⟨(some 46), none, (.call { callee := (.value (.func 72)), args := #[(.tmp 45), (.const (.int .i64 6))], argTypes := #[87, 3] })⟩,
  ⟨(some 47), none, (.fieldAddr 25 (.tmp 5) 4)⟩,
  ⟨none, none, (.store 3 (.tmp 47) (.tmp 46))⟩] := opEq (by kernel_rfl)
noncomputable def r_spec_l14DrawStep_14 : List POp := regAt Try.f77 14
@[go_sem] theorem r_spec_l14DrawStep_14_eq : OpEq CC DD r_spec_l14DrawStep_14 [
  ⟨(some 49), none, (.binOp .eql 3 (.tmp 20) (.const (.int .i64 4)) 3)⟩,
  ⟨(some 48), none, (.assign (.tmp 49))⟩] := opEq (by kernel_rfl)
noncomputable def r_spec_l14DrawStep_15 : List POp := regAt Try.f77 15
@[go_sem] theorem r_spec_l14DrawStep_15_eq : OpEq CC DD r_spec_l14DrawStep_15 [
  ⟨(some 50), none, (.move (.tmp 7))⟩,
  ⟨(some 51), none, (.fieldAddr 25 (.tmp 5) 2)⟩,
  ⟨none, none, (.store 3 (.tmp 51) (.tmp 50))⟩] := opEq (by kernel_rfl)
noncomputable def r_spec_l14DrawStep_16 : List POp := regAt Try.f77 16
@[go_sem] theorem r_spec_l14DrawStep_16_eq : OpEq CC DD r_spec_l14DrawStep_16 [
  ⟨(some 52), none, (.move (.tmp 0))⟩,
  ⟨(some 53), none, (.call { callee := (.value (.func 72)), args := #[(.tmp 52), (.const (.int .i64 6))], argTypes := #[87, 3] })⟩,
  ⟨(some 54), none, (.fieldAddr 25 (.tmp 5) 4)⟩,
  ⟨none, none, (.store 3 (.tmp 54) (.tmp 53))⟩] := opEq (by kernel_rfl)
noncomputable def r_spec_l14DrawStep_17 : List POp := regAt Try.f77 17
@[go_sem] theorem r_spec_l14DrawStep_17_eq : OpEq CC DD r_spec_l14DrawStep_17 [
  ⟨(some 56), none, (.binOp .eql 3 (.tmp 20) (.const (.int .i64 6)) 3)⟩,
  ⟨(some 55), none, (.assign (.tmp 56))⟩] := opEq (by kernel_rfl)
noncomputable def r_spec_l14DrawStep_18 : List POp := regAt Try.f77 18
@[go_sem] theorem r_spec_l14DrawStep_18_eq : OpEq CC DD r_spec_l14DrawStep_18 [
  ⟨(some 57), none, (.move (.tmp 7))⟩,
  ⟨(some 58), none, (.fieldAddr 25 (.tmp 5) 2)⟩,
  ⟨none, none, (.store 3 (.tmp 58) (.tmp 57))⟩] := opEq (by kernel_rfl)
noncomputable def r_spec_l14DrawStep_19 : List POp := regAt Try.f77 19
@[go_sem] theorem r_spec_l14DrawStep_19_eq : OpEq CC DD r_spec_l14DrawStep_19 [
  ⟨(some 59), none, (.move (.tmp 8))⟩,
  ⟨(some 60), none, (.fieldAddr 25 (.tmp 5) 3)⟩,
  ⟨none, none, (.store 3 (.tmp 60) (.tmp 59))⟩] := opEq (by kernel_rfl)
noncomputable def r_spec_l14DrawStep_20 : List POp := regAt Try.f77 20
@[go_sem] theorem r_spec_l14DrawStep_20_eq : OpEq CC DD r_spec_l14DrawStep_20 [
  ⟨(some 62), none, (.binOp .eql 3 (.tmp 20) (.const (.int .i64 7)) 3)⟩,
  ⟨(some 61), none, (.assign (.tmp 62))⟩] := opEq (by kernel_rfl)
noncomputable def r_spec_l14DrawStep_21 : List POp := regAt Try.f77 21
@[go_sem] theorem r_spec_l14DrawStep_21_eq : OpEq CC DD r_spec_l14DrawStep_21 [
  ⟨(some 63), none, (.binOp .eql 3 (.tmp 20) (.const (.int .i64 11)) 3)⟩,
  ⟨(some 61), none, (.assign (.tmp 63))⟩] := opEq (by kernel_rfl)
noncomputable def r_spec_l14DrawStep_22 : List POp := regAt Try.f77 22
@[go_sem] theorem r_spec_l14DrawStep_22_eq : OpEq CC DD r_spec_l14DrawStep_22 [
  ⟨(some 64), none, (.move (.tmp 7))⟩,
  ⟨(some 65), none, (.fieldAddr 25 (.tmp 5) 2)⟩,
  ⟨none, none, (.store 3 (.tmp 65) (.tmp 64))⟩] := opEq (by kernel_rfl)
noncomputable def r_spec_l14DrawStep_23 : List POp := regAt Try.f77 23
@[go_sem] theorem r_spec_l14DrawStep_23_eq : OpEq CC DD r_spec_l14DrawStep_23 [
  ⟨(some 67), none, (.binOp .eql 3 (.tmp 20) (.const (.int .i64 8)) 3)⟩,
  ⟨(some 66), none, (.assign (.tmp 67))⟩] := opEq (by kernel_rfl)
noncomputable def r_spec_l14DrawStep_24 : List POp := regAt Try.f77 24
@[go_sem] theorem r_spec_l14DrawStep_24_eq : OpEq CC DD r_spec_l14DrawStep_24 [
  ⟨(some 68), none, (.move (.tmp 6))⟩,
  ⟨(some 69), none, (.fieldAddr 25 (.tmp 5) 1)⟩,
  ⟨none, none, (.store 3 (.tmp 69) (.tmp 68))⟩] := opEq (by kernel_rfl)
noncomputable def r_spec_l14DrawStep_25 : List POp := regAt Try.f77 25
@[go_sem] theorem r_spec_l14DrawStep_25_eq : OpEq CC DD r_spec_l14DrawStep_25 [
  ⟨(some 71), none, (.binOp .eql 3 (.tmp 20) (.const (.int .i64 9)) 3)⟩,
  ⟨(some 70), none, (.assign (.tmp 71))⟩] := opEq (by kernel_rfl)
noncomputable def r_spec_l14DrawStep_26 : List POp := regAt Try.f77 26
@[go_sem] theorem r_spec_l14DrawStep_26_eq : OpEq CC DD r_spec_l14DrawStep_26 [
  ⟨(some 72), none, (.move (.tmp 0))⟩,
  ⟨(some 73), none, (.move (.tmp 1))⟩,
  ⟨(some 74), none, (.call { callee := (.value (.func 72)), args := #[(.tmp 72), (.tmp 73)], argTypes := #[87, 3] })⟩,
  ⟨(some 75), none, (.fieldAddr 25 (.tmp 5) 4)⟩,
  ⟨none, none, (.store 3 (.tmp 75) (.tmp 74))⟩] := opEq (by kernel_rfl)
noncomputable def r_spec_l14DrawStep_27 : List POp := regAt Try.f77 27
@[go_sem] theorem r_spec_l14DrawStep_27_eq : OpEq CC DD r_spec_l14DrawStep_27 [
  ⟨(some 77), none, (.binOp .eql 3 (.tmp 20) (.const (.int .i64 10)) 3)⟩,
  ⟨(some 76), none, (.assign (.tmp 77))⟩] := opEq (by kernel_rfl)
noncomputable def r_spec_l14DrawStep_28 : List POp := regAt Try.f77 28
@[go_sem] theorem r_spec_l14DrawStep_28_eq : OpEq CC DD r_spec_l14DrawStep_28 [
  ⟨(some 78), none, (.move (.tmp 7))⟩,
  ⟨(some 79), none, (.fieldAddr 25 (.tmp 5) 2)⟩,
  ⟨none, none, (.store 3 (.tmp 79) (.tmp 78))⟩] := opEq (by kernel_rfl)
noncomputable def r_spec_l14DrawStep_29 : List POp := regAt Try.f77 29
@[go_sem] theorem r_spec_l14DrawStep_29_eq : OpEq CC DD r_spec_l14DrawStep_29 [
  ⟨(some 80), none, (.move (.tmp 0))⟩,
  ⟨(some 81), none, (.move (.tmp 1))⟩,
  ⟨(some 82), none, (.call { callee := (.value (.func 72)), args := #[(.tmp 80), (.tmp 81)], argTypes := #[87, 3] })⟩,
  ⟨(some 83), none, (.fieldAddr 25 (.tmp 5) 4)⟩,
  ⟨none, none, (.store 3 (.tmp 83) (.tmp 82))⟩] := opEq (by kernel_rfl)
noncomputable def r_spec_l14DrawStep_30 : List POp := regAt Try.f77 30
@[go_sem] theorem r_spec_l14DrawStep_30_eq : OpEq CC DD r_spec_l14DrawStep_30 [
  ⟨(some 21), none, (.move (.tmp 6))⟩,
  ⟨(some 22), none, (.fieldAddr 25 (.tmp 5) 1)⟩,
  ⟨none, none, (.store 3 (.tmp 22) (.tmp 21))⟩] := opEq (by kernel_rfl)
noncomputable def r_spec_l14DrawStep_31 : List POp := regAt Try.f77 31
@[go_sem] theorem r_spec_l14DrawStep_31_eq : OpEq CC DD r_spec_l14DrawStep_31 [
  ⟨(some 23), none, (.move (.tmp 7))⟩,
  ⟨(some 24), none, (.fieldAddr 25 (.tmp 5) 2)⟩,
  ⟨none, none, (.store 3 (.tmp 24) (.tmp 23))⟩] := opEq (by kernel_rfl)
noncomputable def r_spec_l14DrawStep_32 : List POp := regAt Try.f77 32
@[go_sem] theorem r_spec_l14DrawStep_32_eq : OpEq CC DD r_spec_l14DrawStep_32 [
  ⟨(some 25), none, (.move (.tmp 8))⟩,
  ⟨(some 26), none, (.fieldAddr 25 (.tmp 5) 3)⟩,
  ⟨none, none, (.store 3 (.tmp 26) (.tmp 25))⟩] := opEq (by kernel_rfl)
noncomputable def r_spec_l14DrawStep_33 : List POp := regAt Try.f77 33
@[go_sem] theorem r_spec_l14DrawStep_33_eq : OpEq CC DD r_spec_l14DrawStep_33 [
  ⟨(some 84), none, (.load 25 (.tmp 5))⟩,
  ⟨none, none, (.store 25 (.tmp 4) (.tmp 84))⟩] := opEq (by kernel_rfl)
noncomputable def b_spec_l14DrawStep_0 : PC := (.seq (.ops 3 r_spec_l14DrawStep_5) (.ops 4 r_spec_l14DrawStep_6))
@[go_sem] theorem b_spec_l14DrawStep_0_eq : GoEq CC DD b_spec_l14DrawStep_0 (.seq (.ops 3 r_spec_l14DrawStep_5) (.ops 4 r_spec_l14DrawStep_6)) := goEq rfl
noncomputable def b_spec_l14DrawStep_1 : PC := (.cond (.tmp 34) .skip (.ops 2 r_spec_l14DrawStep_8))
@[go_sem] theorem b_spec_l14DrawStep_1_eq : GoEq CC DD b_spec_l14DrawStep_1 (.cond (.tmp 34) .skip (.ops 2 r_spec_l14DrawStep_8)) := goEq rfl
noncomputable def b_spec_l14DrawStep_2 : PC := (.seq (.ops 3 r_spec_l14DrawStep_9) (.ops 3 r_spec_l14DrawStep_10))
@[go_sem] theorem b_spec_l14DrawStep_2_eq : GoEq CC DD b_spec_l14DrawStep_2 (.seq (.ops 3 r_spec_l14DrawStep_9) (.ops 3 r_spec_l14DrawStep_10)) := goEq rfl
noncomputable def b_spec_l14DrawStep_3 : PC := (.seq (.ops 3 r_spec_l14DrawStep_12) (.ops 4 r_spec_l14DrawStep_13))
@[go_sem] theorem b_spec_l14DrawStep_3_eq : GoEq CC DD b_spec_l14DrawStep_3 (.seq (.ops 3 r_spec_l14DrawStep_12) (.ops 4 r_spec_l14DrawStep_13)) := goEq rfl
noncomputable def b_spec_l14DrawStep_4 : PC := (.seq (.ops 3 r_spec_l14DrawStep_15) (.ops 4 r_spec_l14DrawStep_16))
@[go_sem] theorem b_spec_l14DrawStep_4_eq : GoEq CC DD b_spec_l14DrawStep_4 (.seq (.ops 3 r_spec_l14DrawStep_15) (.ops 4 r_spec_l14DrawStep_16)) := goEq rfl
noncomputable def b_spec_l14DrawStep_5 : PC := (.seq (.ops 3 r_spec_l14DrawStep_18) (.ops 3 r_spec_l14DrawStep_19))
@[go_sem] theorem b_spec_l14DrawStep_5_eq : GoEq CC DD b_spec_l14DrawStep_5 (.seq (.ops 3 r_spec_l14DrawStep_18) (.ops 3 r_spec_l14DrawStep_19)) := goEq rfl
noncomputable def b_spec_l14DrawStep_6 : PC := (.cond (.tmp 61) .skip (.ops 2 r_spec_l14DrawStep_21))
@[go_sem] theorem b_spec_l14DrawStep_6_eq : GoEq CC DD b_spec_l14DrawStep_6 (.cond (.tmp 61) .skip (.ops 2 r_spec_l14DrawStep_21)) := goEq rfl
noncomputable def b_spec_l14DrawStep_7 : PC := (.seq (.ops 3 r_spec_l14DrawStep_28) (.ops 5 r_spec_l14DrawStep_29))
@[go_sem] theorem b_spec_l14DrawStep_7_eq : GoEq CC DD b_spec_l14DrawStep_7 (.seq (.ops 3 r_spec_l14DrawStep_28) (.ops 5 r_spec_l14DrawStep_29)) := goEq rfl
noncomputable def b_spec_l14DrawStep_8 : PC := (.seq (.ops 3 r_spec_l14DrawStep_31) (.ops 3 r_spec_l14DrawStep_32))
@[go_sem] theorem b_spec_l14DrawStep_8_eq : GoEq CC DD b_spec_l14DrawStep_8 (.seq (.ops 3 r_spec_l14DrawStep_31) (.ops 3 r_spec_l14DrawStep_32)) := goEq rfl
noncomputable def b_spec_l14DrawStep_9 : PC := (.seq (.ops 3 r_spec_l14DrawStep_30) b_spec_l14DrawStep_8)
@[go_sem] theorem b_spec_l14DrawStep_9_eq : GoEq CC DD b_spec_l14DrawStep_9 (.seq (.ops 3 r_spec_l14DrawStep_30) b_spec_l14DrawStep_8) := goEq rfl
noncomputable def b_spec_l14DrawStep_10 : PC := (.cond (.tmp 76) b_spec_l14DrawStep_7 b_spec_l14DrawStep_9)
@[go_sem] theorem b_spec_l14DrawStep_10_eq : GoEq CC DD b_spec_l14DrawStep_10 (.cond (.tmp 76) b_spec_l14DrawStep_7 b_spec_l14DrawStep_9) := goEq rfl
noncomputable def b_spec_l14DrawStep_11 : PC := (.seq (.ops 2 r_spec_l14DrawStep_27) b_spec_l14DrawStep_10)
@[go_sem] theorem b_spec_l14DrawStep_11_eq : GoEq CC DD b_spec_l14DrawStep_11 (.seq (.ops 2 r_spec_l14DrawStep_27) b_spec_l14DrawStep_10) := goEq rfl
noncomputable def b_spec_l14DrawStep_12 : PC := (.cond (.tmp 70) (.ops 5 r_spec_l14DrawStep_26) b_spec_l14DrawStep_11)
@[go_sem] theorem b_spec_l14DrawStep_12_eq : GoEq CC DD b_spec_l14DrawStep_12 (.cond (.tmp 70) (.ops 5 r_spec_l14DrawStep_26) b_spec_l14DrawStep_11) := goEq rfl
noncomputable def b_spec_l14DrawStep_13 : PC := (.seq (.ops 2 r_spec_l14DrawStep_25) b_spec_l14DrawStep_12)
@[go_sem] theorem b_spec_l14DrawStep_13_eq : GoEq CC DD b_spec_l14DrawStep_13 (.seq (.ops 2 r_spec_l14DrawStep_25) b_spec_l14DrawStep_12) := goEq rfl
noncomputable def b_spec_l14DrawStep_14 : PC := (.cond (.tmp 66) (.ops 3 r_spec_l14DrawStep_24) b_spec_l14DrawStep_13)
@[go_sem] theorem b_spec_l14DrawStep_14_eq : GoEq CC DD b_spec_l14DrawStep_14 (.cond (.tmp 66) (.ops 3 r_spec_l14DrawStep_24) b_spec_l14DrawStep_13) := goEq rfl
noncomputable def b_spec_l14DrawStep_15 : PC := (.seq (.ops 2 r_spec_l14DrawStep_23) b_spec_l14DrawStep_14)
@[go_sem] theorem b_spec_l14DrawStep_15_eq : GoEq CC DD b_spec_l14DrawStep_15 (.seq (.ops 2 r_spec_l14DrawStep_23) b_spec_l14DrawStep_14) := goEq rfl
noncomputable def b_spec_l14DrawStep_16 : PC := (.cond (.tmp 61) (.ops 3 r_spec_l14DrawStep_22) b_spec_l14DrawStep_15)
@[go_sem] theorem b_spec_l14DrawStep_16_eq : GoEq CC DD b_spec_l14DrawStep_16 (.cond (.tmp 61) (.ops 3 r_spec_l14DrawStep_22) b_spec_l14DrawStep_15) := goEq rfl
noncomputable def b_spec_l14DrawStep_17 : PC := (.seq (.seq (.ops 2 r_spec_l14DrawStep_20) b_spec_l14DrawStep_6) b_spec_l14DrawStep_16)
@[go_sem] theorem b_spec_l14DrawStep_17_eq : GoEq CC DD b_spec_l14DrawStep_17 (.seq (.seq (.ops 2 r_spec_l14DrawStep_20) b_spec_l14DrawStep_6) b_spec_l14DrawStep_16) := goEq rfl
noncomputable def b_spec_l14DrawStep_18 : PC := (.cond (.tmp 55) b_spec_l14DrawStep_5 b_spec_l14DrawStep_17)
@[go_sem] theorem b_spec_l14DrawStep_18_eq : GoEq CC DD b_spec_l14DrawStep_18 (.cond (.tmp 55) b_spec_l14DrawStep_5 b_spec_l14DrawStep_17) := goEq rfl
noncomputable def b_spec_l14DrawStep_19 : PC := (.seq (.ops 2 r_spec_l14DrawStep_17) b_spec_l14DrawStep_18)
@[go_sem] theorem b_spec_l14DrawStep_19_eq : GoEq CC DD b_spec_l14DrawStep_19 (.seq (.ops 2 r_spec_l14DrawStep_17) b_spec_l14DrawStep_18) := goEq rfl
noncomputable def b_spec_l14DrawStep_20 : PC := (.cond (.tmp 48) b_spec_l14DrawStep_4 b_spec_l14DrawStep_19)
@[go_sem] theorem b_spec_l14DrawStep_20_eq : GoEq CC DD b_spec_l14DrawStep_20 (.cond (.tmp 48) b_spec_l14DrawStep_4 b_spec_l14DrawStep_19) := goEq rfl
noncomputable def b_spec_l14DrawStep_21 : PC := (.seq (.ops 2 r_spec_l14DrawStep_14) b_spec_l14DrawStep_20)
@[go_sem] theorem b_spec_l14DrawStep_21_eq : GoEq CC DD b_spec_l14DrawStep_21 (.seq (.ops 2 r_spec_l14DrawStep_14) b_spec_l14DrawStep_20) := goEq rfl
noncomputable def b_spec_l14DrawStep_22 : PC := (.cond (.tmp 41) b_spec_l14DrawStep_3 b_spec_l14DrawStep_21)
@[go_sem] theorem b_spec_l14DrawStep_22_eq : GoEq CC DD b_spec_l14DrawStep_22 (.cond (.tmp 41) b_spec_l14DrawStep_3 b_spec_l14DrawStep_21) := goEq rfl
noncomputable def b_spec_l14DrawStep_23 : PC := (.seq (.ops 2 r_spec_l14DrawStep_11) b_spec_l14DrawStep_22)
@[go_sem] theorem b_spec_l14DrawStep_23_eq : GoEq CC DD b_spec_l14DrawStep_23 (.seq (.ops 2 r_spec_l14DrawStep_11) b_spec_l14DrawStep_22) := goEq rfl
noncomputable def b_spec_l14DrawStep_24 : PC := (.cond (.tmp 34) b_spec_l14DrawStep_2 b_spec_l14DrawStep_23)
@[go_sem] theorem b_spec_l14DrawStep_24_eq : GoEq CC DD b_spec_l14DrawStep_24 (.cond (.tmp 34) b_spec_l14DrawStep_2 b_spec_l14DrawStep_23) := goEq rfl
noncomputable def b_spec_l14DrawStep_25 : PC := (.seq (.seq (.ops 2 r_spec_l14DrawStep_7) b_spec_l14DrawStep_1) b_spec_l14DrawStep_24)
@[go_sem] theorem b_spec_l14DrawStep_25_eq : GoEq CC DD b_spec_l14DrawStep_25 (.seq (.seq (.ops 2 r_spec_l14DrawStep_7) b_spec_l14DrawStep_1) b_spec_l14DrawStep_24) := goEq rfl
noncomputable def b_spec_l14DrawStep_26 : PC := (.cond (.tmp 27) b_spec_l14DrawStep_0 b_spec_l14DrawStep_25)
@[go_sem] theorem b_spec_l14DrawStep_26_eq : GoEq CC DD b_spec_l14DrawStep_26 (.cond (.tmp 27) b_spec_l14DrawStep_0 b_spec_l14DrawStep_25) := goEq rfl
noncomputable def b_spec_l14DrawStep_27 : PC := (.seq (.ops 2 r_spec_l14DrawStep_4) b_spec_l14DrawStep_26)
@[go_sem] theorem b_spec_l14DrawStep_27_eq : GoEq CC DD b_spec_l14DrawStep_27 (.seq (.ops 2 r_spec_l14DrawStep_4) b_spec_l14DrawStep_26) := goEq rfl
noncomputable def b_spec_l14DrawStep_28 : PC := (.block 0 b_spec_l14DrawStep_27)
@[go_sem] theorem b_spec_l14DrawStep_28_eq : GoEq CC DD b_spec_l14DrawStep_28 (.block 0 b_spec_l14DrawStep_27) := goEq rfl
noncomputable def b_spec_l14DrawStep_29 : PC := (.seq (.ops 2 r_spec_l14DrawStep_33) .ret)
@[go_sem] theorem b_spec_l14DrawStep_29_eq : GoEq CC DD b_spec_l14DrawStep_29 (.seq (.ops 2 r_spec_l14DrawStep_33) .ret) := goEq rfl
noncomputable def b_spec_l14DrawStep_30 : PC := (.seq (.seq (.ops 2 r_spec_l14DrawStep_3) b_spec_l14DrawStep_28) b_spec_l14DrawStep_29)
@[go_sem] theorem b_spec_l14DrawStep_30_eq : GoEq CC DD b_spec_l14DrawStep_30 (.seq (.seq (.ops 2 r_spec_l14DrawStep_3) b_spec_l14DrawStep_28) b_spec_l14DrawStep_29) := goEq rfl
noncomputable def b_spec_l14DrawStep_31 : PC := (.seq (.ops 9 r_spec_l14DrawStep_2) b_spec_l14DrawStep_30)
@[go_sem] theorem b_spec_l14DrawStep_31_eq : GoEq CC DD b_spec_l14DrawStep_31 (.seq (.ops 9 r_spec_l14DrawStep_2) b_spec_l14DrawStep_30) := goEq rfl
noncomputable def b_spec_l14DrawStep_32 : PC := (.seq (.ops 6 r_spec_l14DrawStep_1) b_spec_l14DrawStep_31)
@[go_sem] theorem b_spec_l14DrawStep_32_eq : GoEq CC DD b_spec_l14DrawStep_32 (.seq (.ops 6 r_spec_l14DrawStep_1) b_spec_l14DrawStep_31) := goEq rfl
noncomputable def c_spec_l14DrawStep : PC :=
  (.seq (.ops 1 r_spec_l14DrawStep_0) b_spec_l14DrawStep_32)
theorem res_spec_l14DrawStep : Try.f77.results.toList = [(ResultVar.cell 4 25)] := rfl
theorem c_spec_l14DrawStep_ok : prep ((Try.f77.body).getD .skip) = some c_spec_l14DrawStep := by kernel_rfl
noncomputable def r_impl_WordOk_0 : List POp := regAt Try.f113 0
@[go_sem] theorem r_impl_WordOk_0_eq : OpEq CC DD r_impl_WordOk_0 [
  ⟨(some 2), none, (.assign (.const (.bool false)))⟩] := opEq (by kernel_rfl)
noncomputable def r_impl_WordOk_1 : List POp := regAt Try.f113 1
@[go_sem] theorem r_impl_WordOk_1_eq : OpEq CC DD r_impl_WordOk_1 [
  ⟨(some 3), none, (.move (.tmp 0))⟩,
  ⟨(some 4), none, (.call { callee := (.value (.func 67)), args := #[(.tmp 3), (.const (.int .i64 1)), (.const (.int .i64 10))], argTypes := #[3, 3, 3] })⟩,
  ⟨(some 2), none, (.assign (.tmp 4))⟩] := opEq (by kernel_rfl)
noncomputable def b_impl_WordOk_0 : PC := (.seq (.ops 3 r_impl_WordOk_1) .ret)
@[go_sem] theorem b_impl_WordOk_0_eq : GoEq CC DD b_impl_WordOk_0 (.seq (.ops 3 r_impl_WordOk_1) .ret) := goEq rfl
noncomputable def c_impl_WordOk : PC :=
  (.seq (.ops 1 r_impl_WordOk_0) b_impl_WordOk_0)
theorem res_impl_WordOk : Try.f113.results.toList = [(ResultVar.tmp 2)] := rfl
theorem c_impl_WordOk_ok : prep ((Try.f113.body).getD .skip) = some c_impl_WordOk := by kernel_rfl
noncomputable def r_slices_Index_byte_0 : List POp := regAt Try.f114 0
@[go_sem] theorem r_slices_Index_byte_0_eq : OpEq CC DD r_slices_Index_byte_0 [
  ⟨(some 4), none, (.assign (.const (.int .i64 0)))⟩] := opEq (by kernel_rfl)
noncomputable def r_slices_Index_byte_1 : List POp := regAt Try.f114 1
@[go_sem] theorem r_slices_Index_byte_1_eq : OpEq CC DD r_slices_Index_byte_1 [
  ⟨(some 6), none, (.move (.tmp 0))⟩,
  ⟨(some 7), none, (.call { callee := (.builtin .len), args := #[(.tmp 6)], argTypes := #[28] })⟩,
  ⟨(some 8), none, (.move (.const (.int .i64 0)))⟩] := opEq (by kernel_rfl)
noncomputable def r_slices_Index_byte_2 : List POp := regAt Try.f114 2
@[go_sem] theorem r_slices_Index_byte_2_eq : OpEq CC DD r_slices_Index_byte_2 [
  ⟨(some 9), none, (.binOp .lss 3 (.tmp 8) (.tmp 7) 3)⟩] := opEq (by kernel_rfl)
noncomputable def r_slices_Index_byte_3 : List POp := regAt Try.f114 3
@[go_sem] theorem r_slices_Index_byte_3_eq : OpEq CC DD r_slices_Index_byte_3 [
  ⟨(some 10), none, (.move (.tmp 8))⟩,
  ⟨(some 5), none, (.assign (.tmp 10))⟩] := opEq (by kernel_rfl)
noncomputable def r_slices_Index_byte_4 : List POp := regAt Try.f114 4
@[go_sem] theorem r_slices_Index_byte_4_eq : OpEq CC DD r_slices_Index_byte_4 [
  ⟨(some 11), none, (.move (.tmp 1))⟩,
  ⟨(some 12), none, (.move (.tmp 0))⟩,
  ⟨(some 13), none, (.move (.tmp 5))⟩,
  ⟨(some 14), none, (.indexAddr 28 (.tmp 12) (.tmp 13))⟩,
  ⟨(some 15), none, (.load 5 (.tmp 14))⟩,
  ⟨(some 16), none, (.binOp .eql 5 (.tmp 11) (.tmp 15) 5)⟩] := opEq (by kernel_rfl)
noncomputable def r_slices_Index_byte_5 : List POp := regAt Try.f114 5
@[go_sem] theorem r_slices_Index_byte_5_eq : OpEq CC DD r_slices_Index_byte_5 [
  ⟨(some 17), none, (.move (.tmp 5))⟩,
  ⟨(some 4), none, (.assign (.tmp 17))⟩] := opEq (by kernel_rfl)
noncomputable def r_slices_Index_byte_6 : List POp := regAt Try.f114 6
@[go_sem] theorem r_slices_Index_byte_6_eq : OpEq CC DD r_slices_Index_byte_6 [
  ⟨(some 18), none, (.binOp .add 3 (.tmp 8) (.const (.int .i64 1)) 3)⟩,
  ⟨(some 8), none, (.move (.tmp 18))⟩] := opEq (by kernel_rfl)
noncomputable def r_slices_Index_byte_7 : List POp := regAt Try.f114 7
@[go_sem] theorem r_slices_Index_byte_7_eq : OpEq CC DD r_slices_Index_byte_7 [
  ⟨(some 4), none, (.assign (.const (.int .i64 (-1))))⟩] := opEq (by kernel_rfl)
noncomputable def b_slices_Index_byte_0 : PC := (.seq (.ops 2 r_slices_Index_byte_5) .ret)
@[go_sem] theorem b_slices_Index_byte_0_eq : GoEq CC DD b_slices_Index_byte_0 (.seq (.ops 2 r_slices_Index_byte_5) .ret) := goEq rfl
noncomputable def b_slices_Index_byte_1 : PC := (.cond (.tmp 16) b_slices_Index_byte_0 .skip)
@[go_sem] theorem b_slices_Index_byte_1_eq : GoEq CC DD b_slices_Index_byte_1 (.cond (.tmp 16) b_slices_Index_byte_0 .skip) := goEq rfl
noncomputable def b_slices_Index_byte_2 : PC := (.seq (.ops 6 r_slices_Index_byte_4) b_slices_Index_byte_1)
@[go_sem] theorem b_slices_Index_byte_2_eq : GoEq CC DD b_slices_Index_byte_2 (.seq (.ops 6 r_slices_Index_byte_4) b_slices_Index_byte_1) := goEq rfl
noncomputable def b_slices_Index_byte_3 : PC := (.seq (.ops 2 r_slices_Index_byte_3) b_slices_Index_byte_2)
@[go_sem] theorem b_slices_Index_byte_3_eq : GoEq CC DD b_slices_Index_byte_3 (.seq (.ops 2 r_slices_Index_byte_3) b_slices_Index_byte_2) := goEq rfl
noncomputable def b_slices_Index_byte_4 : PC := (.seq (.block 1 b_slices_Index_byte_3) (.ops 2 r_slices_Index_byte_6))
@[go_sem] theorem b_slices_Index_byte_4_eq : GoEq CC DD b_slices_Index_byte_4 (.seq (.block 1 b_slices_Index_byte_3) (.ops 2 r_slices_Index_byte_6)) := goEq rfl
noncomputable def b_slices_Index_byte_5 : PC := (.seq (.cond (.tmp 9) .skip (.exit 0)) b_slices_Index_byte_4)
@[go_sem] theorem b_slices_Index_byte_5_eq : GoEq CC DD b_slices_Index_byte_5 (.seq (.cond (.tmp 9) .skip (.exit 0)) b_slices_Index_byte_4) := goEq rfl
noncomputable def b_slices_Index_byte_6 : PC := (.seq (.ops 1 r_slices_Index_byte_2) b_slices_Index_byte_5)
@[go_sem] theorem b_slices_Index_byte_6_eq : GoEq CC DD b_slices_Index_byte_6 (.seq (.ops 1 r_slices_Index_byte_2) b_slices_Index_byte_5) := goEq rfl
noncomputable def b_slices_Index_byte_7 : PC := (.loop b_slices_Index_byte_6)
@[go_sem] theorem b_slices_Index_byte_7_eq : GoEq CC DD b_slices_Index_byte_7 (.loop b_slices_Index_byte_6) := goEq rfl
noncomputable def b_slices_Index_byte_8 : PC := (.block 0 b_slices_Index_byte_7)
@[go_sem] theorem b_slices_Index_byte_8_eq : GoEq CC DD b_slices_Index_byte_8 (.block 0 b_slices_Index_byte_7) := goEq rfl
noncomputable def b_slices_Index_byte_9 : PC := (.seq (.ops 1 r_slices_Index_byte_7) .ret)
@[go_sem] theorem b_slices_Index_byte_9_eq : GoEq CC DD b_slices_Index_byte_9 (.seq (.ops 1 r_slices_Index_byte_7) .ret) := goEq rfl
noncomputable def b_slices_Index_byte_10 : PC := (.seq (.seq (.ops 3 r_slices_Index_byte_1) b_slices_Index_byte_8) b_slices_Index_byte_9)
@[go_sem] theorem b_slices_Index_byte_10_eq : GoEq CC DD b_slices_Index_byte_10 (.seq (.seq (.ops 3 r_slices_Index_byte_1) b_slices_Index_byte_8) b_slices_Index_byte_9) := goEq rfl
noncomputable def c_slices_Index_byte : PC :=
  (.seq (.ops 1 r_slices_Index_byte_0) b_slices_Index_byte_10)
theorem res_slices_Index_byte : Try.f114.results.toList = [(ResultVar.tmp 4)] := rfl
theorem c_slices_Index_byte_ok : prep ((Try.f114.body).getD .skip) = some c_slices_Index_byte := by kernel_rfl
end Go.Proofs.YtbgaljpilmmefaaM
