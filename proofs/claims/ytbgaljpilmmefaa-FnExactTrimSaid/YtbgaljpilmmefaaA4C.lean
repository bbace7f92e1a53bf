/- The code of the functions, laid out. -/
import Derived.Test.YtbgaljpilmmefaaA4T
namespace Go.Proofs.YtbgaljpilmmefaaM
open Go
set_option linter.unusedVariables false
set_option maxRecDepth 100000
noncomputable def r_laws_FnExactTrim_0 : List POp := regAt Try.f9 0
@[go_sem] theorem r_laws_FnExactTrim_0_eq : OpEq CC DD r_laws_FnExactTrim_0 [
  ⟨(some 2), none, (.assign (.const (.bool false)))⟩] := opEq (by kernel_rfl)
noncomputable def r_laws_FnExactTrim_1 : List POp := regAt Try.f9 1
@[go_sem] theorem r_laws_FnExactTrim_1_eq : OpEq CC DD r_laws_FnExactTrim_1 [
  ⟨(some 3), none, (.assign (.const (.int .i64 1048576)))⟩] := opEq (by kernel_rfl)
noncomputable def r_laws_FnExactTrim_2 : List POp := regAt Try.f9 2
@[go_sem] theorem r_laws_FnExactTrim_2_eq : OpEq CC DD r_laws_FnExactTrim_2 [
  ⟨(some 11), none, (.move (.tmp 0))⟩,
  ⟨(some 12), none, (.move (.tmp 3))⟩,
  ⟨(some 13), none, (.call { callee := (.value (.func 24)), args := #[(.tmp 11), (.tmp 12)], argTypes := #[36, 3] })⟩,
  ⟨(some 3), none, (.assign (.tmp 13))⟩] := opEq (by kernel_rfl)
noncomputable def r_laws_FnExactTrim_3 : List POp := regAt Try.f9 3
@[go_sem] theorem r_laws_FnExactTrim_3_eq : OpEq CC DD r_laws_FnExactTrim_3 [
  ⟨(some 14), none, (.move (.tmp 3))⟩,
  ⟨(some 15), none, (.binOp .lss 3 (.tmp 14) (.const (.int .i64 0)) 3)⟩] := opEq (by kernel_rfl)
noncomputable def r_laws_FnExactTrim_4 : List POp := regAt Try.f9 4
@[go_sem] theorem r_laws_FnExactTrim_4_eq : OpEq CC DD r_laws_FnExactTrim_4 [
  ⟨(some 2), none, (.assign (.const (.bool true)))⟩] := opEq (by kernel_rfl)
noncomputable def r_laws_FnExactTrim_5 : List POp := regAt Try.f9 5
@[go_sem] theorem r_laws_FnExactTrim_5_eq : OpEq CC DD r_laws_FnExactTrim_5 [
  ⟨(some 16), none, (.move (.tmp 0))⟩,
  ⟨(some 17), none, (.call { callee := (.value (.func 26)), args := #[(.tmp 16)], argTypes := #[36] })⟩,
  ⟨(some 18), none, (.call { callee := (.value (.func 37)), args := #[(.tmp 17)], argTypes := #[39] })⟩,
  ⟨(some 4), none, (.assign (.tmp 18))⟩] := opEq (by kernel_rfl)
noncomputable def r_laws_FnExactTrim_6 : List POp := regAt Try.f9 6
@[go_sem] theorem r_laws_FnExactTrim_6_eq : OpEq CC DD r_laws_FnExactTrim_6 [
  ⟨(some 19), none, (.move (.tmp 0))⟩,
  ⟨(some 20), none, (.call { callee := (.value (.func 26)), args := #[(.tmp 19)], argTypes := #[36] })⟩,
  ⟨(some 5), none, (.assign (.tmp 20))⟩] := opEq (by kernel_rfl)
noncomputable def r_laws_FnExactTrim_7 : List POp := regAt Try.f9 7
@[go_sem] theorem r_laws_FnExactTrim_7_eq : OpEq CC DD r_laws_FnExactTrim_7 [
  ⟨(some 21), none, (.move (.tmp 5))⟩,
  ⟨(some 22), none, (.call { callee := (.value (.func 38)), args := #[(.tmp 21)], argTypes := #[39] })⟩,
  ⟨(some 6), none, (.assign (.tmp 22))⟩] := opEq (by kernel_rfl)
noncomputable def r_laws_FnExactTrim_8 : List POp := regAt Try.f9 8
@[go_sem] theorem r_laws_FnExactTrim_8_eq : OpEq CC DD r_laws_FnExactTrim_8 [
  ⟨(some 23), none, (.move (.tmp 6))⟩,
  ⟨(some 24), none, (.move (.tmp 4))⟩,
  ⟨(some 25), none, (.call { callee := (.value (.func 28)), args := #[(.tmp 23), (.tmp 24)], argTypes := #[39, 39] })⟩,
  ⟨(some 26), none, (.unOp .not 4 (.tmp 25))⟩] := opEq (by kernel_rfl)
noncomputable def r_laws_FnExactTrim_9 : List POp := regAt Try.f9 9
@[go_sem] theorem r_laws_FnExactTrim_9_eq : OpEq CC DD r_laws_FnExactTrim_9 [
  ⟨(some 2), none, (.assign (.const (.bool false)))⟩] := opEq (by kernel_rfl)
noncomputable def r_laws_FnExactTrim_10 : List POp := regAt Try.f9 10
@[go_sem] theorem r_laws_FnExactTrim_10_eq : OpEq CC DD r_laws_FnExactTrim_10 [
  ⟨(some 27), none, (.move (.tmp 5))⟩,
  ⟨(some 28), none, (.move (.tmp 0))⟩,
  ⟨(some 29), none, (.call { callee := (.value (.func 26)), args := #[(.tmp 28)], argTypes := #[36] })⟩,
  ⟨(some 30), none, (.call { callee := (.value (.func 28)), args := #[(.tmp 27), (.tmp 29)], argTypes := #[39, 39] })⟩,
  ⟨(some 31), none, (.unOp .not 4 (.tmp 30))⟩] := opEq (by kernel_rfl)
noncomputable def r_laws_FnExactTrim_11 : List POp := regAt Try.f9 11
@[go_sem] theorem r_laws_FnExactTrim_11_eq : OpEq CC DD r_laws_FnExactTrim_11 [
  ⟨(some 2), none, (.assign (.const (.bool false)))⟩] := opEq (by kernel_rfl)
noncomputable def r_laws_FnExactTrim_12 : List POp := regAt Try.f9 12
@[go_sem] theorem r_laws_FnExactTrim_12_eq : OpEq CC DD r_laws_FnExactTrim_12 [
  ⟨(some 7), none, (.assign (.const (.int .i64 1)))⟩] := opEq (by kernel_rfl)
noncomputable def r_laws_FnExactTrim_13 : List POp := regAt Try.f9 13
@[go_sem] theorem r_laws_FnExactTrim_13_eq : OpEq CC DD r_laws_FnExactTrim_13 [
  ⟨(some 32), none, (.move (.tmp 5))⟩,
  ⟨(some 33), none, (.move (.tmp 7))⟩,
  ⟨(some 34), none, (.call { callee := (.value (.func 35)), args := #[(.tmp 32), (.tmp 33)], argTypes := #[39, 3] })⟩,
  ⟨(some 7), none, (.assign (.tmp 34))⟩] := opEq (by kernel_rfl)
noncomputable def r_laws_FnExactTrim_14 : List POp := regAt Try.f9 14
@[go_sem] theorem r_laws_FnExactTrim_14_eq : OpEq CC DD r_laws_FnExactTrim_14 [
  ⟨(some 35), none, (.move (.tmp 7))⟩,
  ⟨(some 36), none, (.binOp .lss 3 (.tmp 35) (.const (.int .i64 0)) 3)⟩,
  ⟨(some 37), none, (.move (.tmp 36))⟩,
  ⟨(some 38), (some (37, false)), (.move (.tmp 6))⟩,
  ⟨(some 39), (some (37, false)), (.move (.tmp 4))⟩,
  ⟨(some 40), (some (37, false)), (.call { callee := (.value (.func 28)), args := #[(.tmp 38), (.tmp 39)], argTypes := #[39, 39] })⟩,
  ⟨(some 41), (some (37, false)), (.unOp .not 4 (.tmp 40))⟩,
  ⟨(some 42), none, (.pick (.tmp 37) (.const (.bool true)) (.tmp 41))⟩] := opEq (by kernel_rfl)
noncomputable def r_laws_FnExactTrim_15 : List POp := regAt Try.f9 15
@[go_sem] theorem r_laws_FnExactTrim_15_eq : OpEq CC DD r_laws_FnExactTrim_15 [
  ⟨(some 2), none, (.assign (.const (.bool false)))⟩] := opEq (by kernel_rfl)
noncomputable def r_laws_FnExactTrim_16 : List POp := regAt Try.f9 16
@[go_sem] theorem r_laws_FnExactTrim_16_eq : OpEq CC DD r_laws_FnExactTrim_16 [
  ⟨(some 8), none, (.assign (.const (.int .i64 1)))⟩] := opEq (by kernel_rfl)
noncomputable def r_laws_FnExactTrim_17 : List POp := regAt Try.f9 17
@[go_sem] theorem r_laws_FnExactTrim_17_eq : OpEq CC DD r_laws_FnExactTrim_17 [
  ⟨(some 43), none, (.move (.tmp 6))⟩,
  ⟨(some 44), none, (.move (.tmp 8))⟩,
  ⟨(some 45), none, (.call { callee := (.value (.func 35)), args := #[(.tmp 43), (.tmp 44)], argTypes := #[39, 3] })⟩,
  ⟨(some 8), none, (.assign (.tmp 45))⟩] := opEq (by kernel_rfl)
noncomputable def r_laws_FnExactTrim_18 : List POp := regAt Try.f9 18
@[go_sem] theorem r_laws_FnExactTrim_18_eq : OpEq CC DD r_laws_FnExactTrim_18 [
  ⟨(some 9), none, (.assign (.const (.int .i64 1)))⟩] := opEq (by kernel_rfl)
noncomputable def r_laws_FnExactTrim_19 : List POp := regAt Try.f9 19
@[go_sem] theorem r_laws_FnExactTrim_19_eq : OpEq CC DD r_laws_FnExactTrim_19 [
  ⟨(some 46), none, (.move (.tmp 6))⟩,
  ⟨(some 47), none, (.move (.tmp 9))⟩,
  ⟨(some 48), none, (.call { callee := (.value (.func 36)), args := #[(.tmp 46), (.tmp 47)], argTypes := #[39, 3] })⟩,
  ⟨(some 9), none, (.assign (.tmp 48))⟩] := opEq (by kernel_rfl)
noncomputable def r_laws_FnExactTrim_20 : List POp := regAt Try.f9 20
@[go_sem] theorem r_laws_FnExactTrim_20_eq : OpEq CC DD r_laws_FnExactTrim_20 [
  ⟨(some 49), none, (.move (.tmp 9))⟩,
  ⟨(some 50), none, (.binOp .lss 3 (.tmp 49) (.const (.int .i64 0)) 3)⟩] := opEq (by kernel_rfl)
noncomputable def r_laws_FnExactTrim_21 : List POp := regAt Try.f9 21
@[go_sem] theorem r_laws_FnExactTrim_21_eq : OpEq CC DD r_laws_FnExactTrim_21 [
  ⟨(some 2), none, (.assign (.const (.bool false)))⟩] := opEq (by kernel_rfl)
noncomputable def r_laws_FnExactTrim_22 : List POp := regAt Try.f9 22
@[go_sem] theorem r_laws_FnExactTrim_22_eq : OpEq CC DD r_laws_FnExactTrim_22 [
  ⟨(some 51), none, (.move (.tmp 9))⟩,
  ⟨(some 52), none, (.move (.tmp 8))⟩,
  ⟨(some 53), none, (.binOp .neq 3 (.tmp 51) (.tmp 52) 3)⟩] := opEq (by kernel_rfl)
noncomputable def r_laws_FnExactTrim_23 : List POp := regAt Try.f9 23
@[go_sem] theorem r_laws_FnExactTrim_23_eq : OpEq CC DD r_laws_FnExactTrim_23 [
  ⟨(some 2), none, (.assign (.const (.bool false)))⟩] := opEq (by kernel_rfl)
noncomputable def r_laws_FnExactTrim_24 : List POp := regAt Try.f9 24
@[go_sem] theorem r_laws_FnExactTrim_24_eq : OpEq CC DD r_laws_FnExactTrim_24 [
  ⟨(some 54), none, (.move (.tmp 0))⟩,
  ⟨(some 55), none, (.call { callee := (.value (.func 26)), args := #[(.tmp 54)], argTypes := #[36] })⟩,
  ⟨(some 56), none, (.call { callee := (.value (.func 38)), args := #[(.tmp 55)], argTypes := #[39] })⟩,
  ⟨(some 10), none, (.assign (.tmp 56))⟩] := opEq (by kernel_rfl)
noncomputable def r_laws_FnExactTrim_25 : List POp := regAt Try.f9 25
@[go_sem] theorem r_laws_FnExactTrim_25_eq : OpEq CC DD r_laws_FnExactTrim_25 [
  ⟨(some 57), none, (.move (.tmp 10))⟩,
  ⟨(some 58), none, (.move (.tmp 4))⟩,
  ⟨(some 59), none, (.call { callee := (.value (.func 28)), args := #[(.tmp 57), (.tmp 58)], argTypes := #[39, 39] })⟩,
  ⟨(some 60), none, (.unOp .not 4 (.tmp 59))⟩] := opEq (by kernel_rfl)
noncomputable def r_laws_FnExactTrim_26 : List POp := regAt Try.f9 26
@[go_sem] theorem r_laws_FnExactTrim_26_eq : OpEq CC DD r_laws_FnExactTrim_26 [
  ⟨(some 2), none, (.assign (.const (.bool false)))⟩] := opEq (by kernel_rfl)
noncomputable def r_laws_FnExactTrim_27 : List POp := regAt Try.f9 27
@[go_sem] theorem r_laws_FnExactTrim_27_eq : OpEq CC DD r_laws_FnExactTrim_27 [
  ⟨(some 9), none, (.assign (.const (.int .i64 1)))⟩] := opEq (by kernel_rfl)
noncomputable def r_laws_FnExactTrim_28 : List POp := regAt Try.f9 28
@[go_sem] theorem r_laws_FnExactTrim_28_eq : OpEq CC DD r_laws_FnExactTrim_28 [
  ⟨(some 61), none, (.move (.tmp 6))⟩,
  ⟨(some 62), none, (.move (.tmp 9))⟩,
  ⟨(some 63), none, (.call { callee := (.value (.func 36)), args := #[(.tmp 61), (.tmp 62)], argTypes := #[39, 3] })⟩,
  ⟨(some 9), none, (.assign (.tmp 63))⟩] := opEq (by kernel_rfl)
noncomputable def r_laws_FnExactTrim_29 : List POp := regAt Try.f9 29
@[go_sem] theorem r_laws_FnExactTrim_29_eq : OpEq CC DD r_laws_FnExactTrim_29 [
  ⟨(some 64), none, (.move (.tmp 9))⟩,
  ⟨(some 65), none, (.binOp .lss 3 (.tmp 64) (.const (.int .i64 0)) 3)⟩] := opEq (by kernel_rfl)
noncomputable def r_laws_FnExactTrim_30 : List POp := regAt Try.f9 30
@[go_sem] theorem r_laws_FnExactTrim_30_eq : OpEq CC DD r_laws_FnExactTrim_30 [
  ⟨(some 2), none, (.assign (.const (.bool false)))⟩] := opEq (by kernel_rfl)
noncomputable def r_laws_FnExactTrim_31 : List POp := regAt Try.f9 31
@[go_sem] theorem r_laws_FnExactTrim_31_eq : OpEq CC DD r_laws_FnExactTrim_31 [
  ⟨(some 66), none, (.move (.tmp 9))⟩,
  ⟨(some 67), none, (.move (.tmp 8))⟩,
  ⟨(some 68), none, (.binOp .neq 3 (.tmp 66) (.tmp 67) 3)⟩] := opEq (by kernel_rfl)
noncomputable def r_laws_FnExactTrim_32 : List POp := regAt Try.f9 32
@[go_sem] theorem r_laws_FnExactTrim_32_eq : OpEq CC DD r_laws_FnExactTrim_32 [
  ⟨(some 2), none, (.assign (.const (.bool false)))⟩] := opEq (by kernel_rfl)
noncomputable def r_laws_FnExactTrim_33 : List POp := regAt Try.f9 33
@[go_sem] theorem r_laws_FnExactTrim_33_eq : OpEq CC DD r_laws_FnExactTrim_33 [
  ⟨(some 2), none, (.assign (.const (.bool true)))⟩] := opEq (by kernel_rfl)
noncomputable def b_laws_FnExactTrim_0 : PC := (.seq (.ops 1 r_laws_FnExactTrim_4) .ret)
@[go_sem] theorem b_laws_FnExactTrim_0_eq : GoEq CC DD b_laws_FnExactTrim_0 (.seq (.ops 1 r_laws_FnExactTrim_4) .ret) := goEq rfl
noncomputable def b_laws_FnExactTrim_1 : PC := (.cond (.tmp 15) b_laws_FnExactTrim_0 .skip)
@[go_sem] theorem b_laws_FnExactTrim_1_eq : GoEq CC DD b_laws_FnExactTrim_1 (.cond (.tmp 15) b_laws_FnExactTrim_0 .skip) := goEq rfl
noncomputable def b_laws_FnExactTrim_2 : PC := (.seq (.ops 1 r_laws_FnExactTrim_9) .ret)
@[go_sem] theorem b_laws_FnExactTrim_2_eq : GoEq CC DD b_laws_FnExactTrim_2 (.seq (.ops 1 r_laws_FnExactTrim_9) .ret) := goEq rfl
noncomputable def b_laws_FnExactTrim_3 : PC := (.cond (.tmp 26) b_laws_FnExactTrim_2 .skip)
@[go_sem] theorem b_laws_FnExactTrim_3_eq : GoEq CC DD b_laws_FnExactTrim_3 (.cond (.tmp 26) b_laws_FnExactTrim_2 .skip) := goEq rfl
noncomputable def b_laws_FnExactTrim_4 : PC := (.seq (.ops 1 r_laws_FnExactTrim_11) .ret)
@[go_sem] theorem b_laws_FnExactTrim_4_eq : GoEq CC DD b_laws_FnExactTrim_4 (.seq (.ops 1 r_laws_FnExactTrim_11) .ret) := goEq rfl
noncomputable def b_laws_FnExactTrim_5 : PC := (.cond (.tmp 31) b_laws_FnExactTrim_4 .skip)
@[go_sem] theorem b_laws_FnExactTrim_5_eq : GoEq CC DD b_laws_FnExactTrim_5 (.cond (.tmp 31) b_laws_FnExactTrim_4 .skip) := goEq rfl
noncomputable def b_laws_FnExactTrim_6 : PC := (.seq (.ops 1 r_laws_FnExactTrim_15) .ret)
@[go_sem] theorem b_laws_FnExactTrim_6_eq : GoEq CC DD b_laws_FnExactTrim_6 (.seq (.ops 1 r_laws_FnExactTrim_15) .ret) := goEq rfl
noncomputable def b_laws_FnExactTrim_7 : PC := (.cond (.tmp 42) b_laws_FnExactTrim_6 .skip)
@[go_sem] theorem b_laws_FnExactTrim_7_eq : GoEq CC DD b_laws_FnExactTrim_7 (.cond (.tmp 42) b_laws_FnExactTrim_6 .skip) := goEq rfl
noncomputable def b_laws_FnExactTrim_8 : PC := (.seq (.ops 1 r_laws_FnExactTrim_21) .ret)
@[go_sem] theorem b_laws_FnExactTrim_8_eq : GoEq CC DD b_laws_FnExactTrim_8 (.seq (.ops 1 r_laws_FnExactTrim_21) .ret) := goEq rfl
noncomputable def b_laws_FnExactTrim_9 : PC := (.cond (.tmp 50) b_laws_FnExactTrim_8 .skip)
@[go_sem] theorem b_laws_FnExactTrim_9_eq : GoEq CC DD b_laws_FnExactTrim_9 (.cond (.tmp 50) b_laws_FnExactTrim_8 .skip) := goEq rfl
noncomputable def b_laws_FnExactTrim_10 : PC := (.seq (.ops 1 r_laws_FnExactTrim_23) .ret)
@[go_sem] theorem b_laws_FnExactTrim_10_eq : GoEq CC DD b_laws_FnExactTrim_10 (.seq (.ops 1 r_laws_FnExactTrim_23) .ret) := goEq rfl
noncomputable def b_laws_FnExactTrim_11 : PC := (.cond (.tmp 53) b_laws_FnExactTrim_10 .skip)
@[go_sem] theorem b_laws_FnExactTrim_11_eq : GoEq CC DD b_laws_FnExactTrim_11 (.cond (.tmp 53) b_laws_FnExactTrim_10 .skip) := goEq rfl
noncomputable def b_laws_FnExactTrim_12 : PC := (.seq (.ops 1 r_laws_FnExactTrim_26) .ret)
@[go_sem] theorem b_laws_FnExactTrim_12_eq : GoEq CC DD b_laws_FnExactTrim_12 (.seq (.ops 1 r_laws_FnExactTrim_26) .ret) := goEq rfl
noncomputable def b_laws_FnExactTrim_13 : PC := (.cond (.tmp 60) b_laws_FnExactTrim_12 .skip)
@[go_sem] theorem b_laws_FnExactTrim_13_eq : GoEq CC DD b_laws_FnExactTrim_13 (.cond (.tmp 60) b_laws_FnExactTrim_12 .skip) := goEq rfl
noncomputable def b_laws_FnExactTrim_14 : PC := (.seq (.ops 1 r_laws_FnExactTrim_30) .ret)
@[go_sem] theorem b_laws_FnExactTrim_14_eq : GoEq CC DD b_laws_FnExactTrim_14 (.seq (.ops 1 r_laws_FnExactTrim_30) .ret) := goEq rfl
noncomputable def b_laws_FnExactTrim_15 : PC := (.cond (.tmp 65) b_laws_FnExactTrim_14 .skip)
@[go_sem] theorem b_laws_FnExactTrim_15_eq : GoEq CC DD b_laws_FnExactTrim_15 (.cond (.tmp 65) b_laws_FnExactTrim_14 .skip) := goEq rfl
noncomputable def b_laws_FnExactTrim_16 : PC := (.seq (.ops 1 r_laws_FnExactTrim_32) .ret)
@[go_sem] theorem b_laws_FnExactTrim_16_eq : GoEq CC DD b_laws_FnExactTrim_16 (.seq (.ops 1 r_laws_FnExactTrim_32) .ret) := goEq rfl
noncomputable def b_laws_FnExactTrim_17 : PC := (.cond (.tmp 68) b_laws_FnExactTrim_16 .skip)
@[go_sem] theorem b_laws_FnExactTrim_17_eq : GoEq CC DD b_laws_FnExactTrim_17 (.cond (.tmp 68) b_laws_FnExactTrim_16 .skip) := goEq rfl
noncomputable def b_laws_FnExactTrim_18 : PC := (.seq (.ops 1 r_laws_FnExactTrim_33) .ret)
@[go_sem] theorem b_laws_FnExactTrim_18_eq : GoEq CC DD b_laws_FnExactTrim_18 (.seq (.ops 1 r_laws_FnExactTrim_33) .ret) := goEq rfl
noncomputable def b_laws_FnExactTrim_19 : PC := (.seq (.seq (.ops 3 r_laws_FnExactTrim_31) b_laws_FnExactTrim_17) b_laws_FnExactTrim_18)
@[go_sem] theorem b_laws_FnExactTrim_19_eq : GoEq CC DD b_laws_FnExactTrim_19 (.seq (.seq (.ops 3 r_laws_FnExactTrim_31) b_laws_FnExactTrim_17) b_laws_FnExactTrim_18) := goEq rfl
noncomputable def b_laws_FnExactTrim_20 : PC := (.seq (.seq (.ops 2 r_laws_FnExactTrim_29) b_laws_FnExactTrim_15) b_laws_FnExactTrim_19)
@[go_sem] theorem b_laws_FnExactTrim_20_eq : GoEq CC DD b_laws_FnExactTrim_20 (.seq (.seq (.ops 2 r_laws_FnExactTrim_29) b_laws_FnExactTrim_15) b_laws_FnExactTrim_19) := goEq rfl
noncomputable def b_laws_FnExactTrim_21 : PC := (.seq (.ops 4 r_laws_FnExactTrim_28) b_laws_FnExactTrim_20)
@[go_sem] theorem b_laws_FnExactTrim_21_eq : GoEq CC DD b_laws_FnExactTrim_21 (.seq (.ops 4 r_laws_FnExactTrim_28) b_laws_FnExactTrim_20) := goEq rfl
noncomputable def b_laws_FnExactTrim_22 : PC := (.seq (.ops 1 r_laws_FnExactTrim_27) b_laws_FnExactTrim_21)
@[go_sem] theorem b_laws_FnExactTrim_22_eq : GoEq CC DD b_laws_FnExactTrim_22 (.seq (.ops 1 r_laws_FnExactTrim_27) b_laws_FnExactTrim_21) := goEq rfl
noncomputable def b_laws_FnExactTrim_23 : PC := (.seq (.seq (.ops 4 r_laws_FnExactTrim_25) b_laws_FnExactTrim_13) b_laws_FnExactTrim_22)
@[go_sem] theorem b_laws_FnExactTrim_23_eq : GoEq CC DD b_laws_FnExactTrim_23 (.seq (.seq (.ops 4 r_laws_FnExactTrim_25) b_laws_FnExactTrim_13) b_laws_FnExactTrim_22) := goEq rfl
noncomputable def b_laws_FnExactTrim_24 : PC := (.seq (.ops 4 r_laws_FnExactTrim_24) b_laws_FnExactTrim_23)
@[go_sem] theorem b_laws_FnExactTrim_24_eq : GoEq CC DD b_laws_FnExactTrim_24 (.seq (.ops 4 r_laws_FnExactTrim_24) b_laws_FnExactTrim_23) := goEq rfl
noncomputable def b_laws_FnExactTrim_25 : PC := (.seq (.seq (.ops 3 r_laws_FnExactTrim_22) b_laws_FnExactTrim_11) b_laws_FnExactTrim_24)
@[go_sem] theorem b_laws_FnExactTrim_25_eq : GoEq CC DD b_laws_FnExactTrim_25 (.seq (.seq (.ops 3 r_laws_FnExactTrim_22) b_laws_FnExactTrim_11) b_laws_FnExactTrim_24) := goEq rfl
noncomputable def b_laws_FnExactTrim_26 : PC := (.seq (.seq (.ops 2 r_laws_FnExactTrim_20) b_laws_FnExactTrim_9) b_laws_FnExactTrim_25)
@[go_sem] theorem b_laws_FnExactTrim_26_eq : GoEq CC DD b_laws_FnExactTrim_26 (.seq (.seq (.ops 2 r_laws_FnExactTrim_20) b_laws_FnExactTrim_9) b_laws_FnExactTrim_25) := goEq rfl
noncomputable def b_laws_FnExactTrim_27 : PC := (.seq (.ops 4 r_laws_FnExactTrim_19) b_laws_FnExactTrim_26)
@[go_sem] theorem b_laws_FnExactTrim_27_eq : GoEq CC DD b_laws_FnExactTrim_27 (.seq (.ops 4 r_laws_FnExactTrim_19) b_laws_FnExactTrim_26) := goEq rfl
noncomputable def b_laws_FnExactTrim_28 : PC := (.seq (.ops 1 r_laws_FnExactTrim_18) b_laws_FnExactTrim_27)
@[go_sem] theorem b_laws_FnExactTrim_28_eq : GoEq CC DD b_laws_FnExactTrim_28 (.seq (.ops 1 r_laws_FnExactTrim_18) b_laws_FnExactTrim_27) := goEq rfl
noncomputable def b_laws_FnExactTrim_29 : PC := (.seq (.ops 4 r_laws_FnExactTrim_17) b_laws_FnExactTrim_28)
@[go_sem] theorem b_laws_FnExactTrim_29_eq : GoEq CC DD b_laws_FnExactTrim_29 (.seq (.ops 4 r_laws_FnExactTrim_17) b_laws_FnExactTrim_28) := goEq rfl
noncomputable def b_laws_FnExactTrim_30 : PC := (.seq (.ops 1 r_laws_FnExactTrim_16) b_laws_FnExactTrim_29)
@[go_sem] theorem b_laws_FnExactTrim_30_eq : GoEq CC DD b_laws_FnExactTrim_30 (.seq (.ops 1 r_laws_FnExactTrim_16) b_laws_FnExactTrim_29) := goEq rfl
noncomputable def b_laws_FnExactTrim_31 : PC := (.seq (.seq (.ops 8 r_laws_FnExactTrim_14) b_laws_FnExactTrim_7) b_laws_FnExactTrim_30)
@[go_sem] theorem b_laws_FnExactTrim_31_eq : GoEq CC DD b_laws_FnExactTrim_31 (.seq (.seq (.ops 8 r_laws_FnExactTrim_14) b_laws_FnExactTrim_7) b_laws_FnExactTrim_30) := goEq rfl
noncomputable def b_laws_FnExactTrim_32 : PC := (.seq (.ops 4 r_laws_FnExactTrim_13) b_laws_FnExactTrim_31)
@[go_sem] theorem b_laws_FnExactTrim_32_eq : GoEq CC DD b_laws_FnExactTrim_32 (.seq (.ops 4 r_laws_FnExactTrim_13) b_laws_FnExactTrim_31) := goEq rfl
noncomputable def b_laws_FnExactTrim_33 : PC := (.seq (.ops 1 r_laws_FnExactTrim_12) b_laws_FnExactTrim_32)
@[go_sem] theorem b_laws_FnExactTrim_33_eq : GoEq CC DD b_laws_FnExactTrim_33 (.seq (.ops 1 r_laws_FnExactTrim_12) b_laws_FnExactTrim_32) := goEq rfl
noncomputable def b_laws_FnExactTrim_34 : PC := (.seq (.seq (.ops 5 r_laws_FnExactTrim_10) b_laws_FnExactTrim_5) b_laws_FnExactTrim_33)
@[go_sem] theorem b_laws_FnExactTrim_34_eq : GoEq CC DD b_laws_FnExactTrim_34 (.seq (.seq (.ops 5 r_laws_FnExactTrim_10) b_laws_FnExactTrim_5) b_laws_FnExactTrim_33) := goEq rfl
noncomputable def b_laws_FnExactTrim_35 : PC := (.seq (.seq (.ops 4 r_laws_FnExactTrim_8) b_laws_FnExactTrim_3) b_laws_FnExactTrim_34)
@[go_sem] theorem b_laws_FnExactTrim_35_eq : GoEq CC DD b_laws_FnExactTrim_35 (.seq (.seq (.ops 4 r_laws_FnExactTrim_8) b_laws_FnExactTrim_3) b_laws_FnExactTrim_34) := goEq rfl
noncomputable def b_laws_FnExactTrim_36 : PC := (.seq (.ops 3 r_laws_FnExactTrim_7) b_laws_FnExactTrim_35)
@[go_sem] theorem b_laws_FnExactTrim_36_eq : GoEq CC DD b_laws_FnExactTrim_36 (.seq (.ops 3 r_laws_FnExactTrim_7) b_laws_FnExactTrim_35) := goEq rfl
noncomputable def b_laws_FnExactTrim_37 : PC := (.seq (.ops 3 r_laws_FnExactTrim_6) b_laws_FnExactTrim_36)
@[go_sem] theorem b_laws_FnExactTrim_37_eq : GoEq CC DD b_laws_FnExactTrim_37 (.seq (.ops 3 r_laws_FnExactTrim_6) b_laws_FnExactTrim_36) := goEq rfl
noncomputable def b_laws_FnExactTrim_38 : PC := (.seq (.ops 4 r_laws_FnExactTrim_5) b_laws_FnExactTrim_37)
@[go_sem] theorem b_laws_FnExactTrim_38_eq : GoEq CC DD b_laws_FnExactTrim_38 (.seq (.ops 4 r_laws_FnExactTrim_5) b_laws_FnExactTrim_37) := goEq rfl
noncomputable def b_laws_FnExactTrim_39 : PC := (.seq (.seq (.ops 2 r_laws_FnExactTrim_3) b_laws_FnExactTrim_1) b_laws_FnExactTrim_38)
@[go_sem] theorem b_laws_FnExactTrim_39_eq : GoEq CC DD b_laws_FnExactTrim_39 (.seq (.seq (.ops 2 r_laws_FnExactTrim_3) b_laws_FnExactTrim_1) b_laws_FnExactTrim_38) := goEq rfl
noncomputable def b_laws_FnExactTrim_40 : PC := (.seq (.ops 4 r_laws_FnExactTrim_2) b_laws_FnExactTrim_39)
@[go_sem] theorem b_laws_FnExactTrim_40_eq : GoEq CC DD b_laws_FnExactTrim_40 (.seq (.ops 4 r_laws_FnExactTrim_2) b_laws_FnExactTrim_39) := goEq rfl
noncomputable def b_laws_FnExactTrim_41 : PC := (.seq (.ops 1 r_laws_FnExactTrim_1) b_laws_FnExactTrim_40)
@[go_sem] theorem b_laws_FnExactTrim_41_eq : GoEq CC DD b_laws_FnExactTrim_41 (.seq (.ops 1 r_laws_FnExactTrim_1) b_laws_FnExactTrim_40) := goEq rfl
noncomputable def c_laws_FnExactTrim : PC :=
  (.seq (.ops 1 r_laws_FnExactTrim_0) b_laws_FnExactTrim_41)
theorem res_laws_FnExactTrim : Try.f9.results.toList = [(ResultVar.tmp 2)] := rfl
theorem c_laws_FnExactTrim_ok : prep ((Try.f9.body).getD .skip) = some c_laws_FnExactTrim := by kernel_rfl
noncomputable def r_spec_StepOk_0 : List POp := regAt Try.f14 0
@[go_sem] theorem r_spec_StepOk_0_eq : OpEq CC DD r_spec_StepOk_0 [
  ⟨(some 2), none, (.box 25 (.tmp 0))⟩,
  ⟨(some 4), none, (.assign (.const (.bool false)))⟩] := opEq (by kernel_rfl)
noncomputable def r_spec_StepOk_1 : List POp := regAt Try.f14 1
@[go_sem] theorem r_spec_StepOk_1_eq : OpEq CC DD r_spec_StepOk_1 [
  ⟨(some 7), none, (.fieldAddr 25 (.tmp 2) 1)⟩,
  ⟨(some 8), none, (.load 3 (.tmp 7))⟩,
  ⟨(some 9), none, (.call { callee := (.value (.func 61)), args := #[(.tmp 8)], argTypes := #[3] })⟩,
  ⟨(some 10), none, (.unOp .not 4 (.tmp 9))⟩,
  ⟨(some 11), none, (.move (.tmp 10))⟩,
  ⟨(some 12), (some (11, false)), (.fieldAddr 25 (.tmp 2) 2)⟩,
  ⟨(some 13), (some (11, false)), (.load 3 (.tmp 12))⟩,
  ⟨(some 14), (some (11, false)), (.call { callee := (.value (.func 61)), args := #[(.tmp 13)], argTypes := #[3] })⟩,
  ⟨(some 15), (some (11, false)), (.unOp .not 4 (.tmp 14))⟩,
  ⟨(some 16), none, (.pick (.tmp 11) (.const (.bool true)) (.tmp 15))⟩,
  ⟨(some 17), none, (.move (.tmp 16))⟩,
  ⟨(some 18), (some (17, false)), (.fieldAddr 25 (.tmp 2) 3)⟩,
  ⟨(some 19), (some (17, false)), (.load 3 (.tmp 18))⟩,
  ⟨(some 20), (some (17, false)), (.call { callee := (.value (.func 61)), args := #[(.tmp 19)], argTypes := #[3] })⟩,
  ⟨(some 21), (some (17, false)), (.unOp .not 4 (.tmp 20))⟩,
  ⟨(some 22), none, (.pick (.tmp 17) (.const (.bool true)) (.tmp 21))⟩] := opEq (by kernel_rfl)
noncomputable def r_spec_StepOk_2 : List POp := regAt Try.f14 2
@[go_sem] theorem r_spec_StepOk_2_eq : OpEq CC DD r_spec_StepOk_2 [
  ⟨(some 4), none, (.assign (.const (.bool false)))⟩] := opEq (by kernel_rfl)
noncomputable def r_spec_StepOk_3 : List POp := regAt Try.f14 3
@[go_sem] theorem r_spec_StepOk_3_eq : OpEq CC DD r_spec_StepOk_3 [
  ⟨(some 23), none, (.fieldAddr 25 (.tmp 2) 4)⟩,
  ⟨(some 24), none, (.load 3 (.tmp 23))⟩,
  ⟨(some 25), none, (.call { callee := (.value (.func 62)), args := #[(.tmp 24), (.const (.int .i64 0)), (.const (.int .i64 39))], argTypes := #[3, 3, 3] })⟩,
  ⟨(some 5), none, (.assign (.tmp 25))⟩] := opEq (by kernel_rfl)
noncomputable def r_spec_StepOk_4 : List POp := regAt Try.f14 4
@[go_sem] theorem r_spec_StepOk_4_eq : OpEq CC DD r_spec_StepOk_4 [
  ⟨(some 26), none, (.fieldAddr 25 (.tmp 2) 4)⟩,
  ⟨(some 27), none, (.load 3 (.tmp 26))⟩,
  ⟨(some 28), none, (.binOp .geq 3 (.tmp 27) (.const (.int .i64 0)) 3)⟩,
  ⟨(some 29), none, (.move (.tmp 28))⟩,
  ⟨(some 30), (some (29, true)), (.fieldAddr 25 (.tmp 2) 4)⟩,
  ⟨(some 31), (some (29, true)), (.load 3 (.tmp 30))⟩,
  ⟨(some 32), (some (29, true)), (.move (.tmp 1))⟩,
  ⟨(some 33), (some (29, true)), (.binOp .lss 3 (.tmp 31) (.tmp 32) 3)⟩,
  ⟨(some 34), none, (.pick (.tmp 29) (.tmp 33) (.const (.bool false)))⟩,
  ⟨(some 6), none, (.assign (.tmp 34))⟩] := opEq (by kernel_rfl)
noncomputable def r_spec_StepOk_5 : List POp := regAt Try.f14 5
@[go_sem] theorem r_spec_StepOk_5_eq : OpEq CC DD r_spec_StepOk_5 [
  ⟨(some 35), none, (.fieldAddr 25 (.tmp 2) 0)⟩,
  ⟨(some 36), none, (.load 3 (.tmp 35))⟩] := opEq (by kernel_rfl)
noncomputable def r_spec_StepOk_6 : List POp := regAt Try.f14 6
@[go_sem] theorem r_spec_StepOk_6_eq : OpEq CC DD r_spec_StepOk_6 [
  ⟨(some 38), none, (.binOp .eql 3 (.tmp 36) (.const (.int .i64 1)) 3)⟩,
  ⟨(some 37), none, (.assign (.tmp 38))⟩] := opEq (by kernel_rfl)
noncomputable def r_spec_StepOk_7 : List POp := regAt Try.f14 7
@[go_sem] theorem r_spec_StepOk_7_eq : OpEq CC DD r_spec_StepOk_7 [
  ⟨(some 39), none, (.fieldAddr 25 (.tmp 2) 2)⟩,
  ⟨(some 40), none, (.load 3 (.tmp 39))⟩,
  ⟨(some 41), none, (.binOp .eql 3 (.tmp 40) (.const (.int .i64 0)) 3)⟩,
  ⟨(some 42), none, (.move (.tmp 41))⟩,
  ⟨(some 43), (some (42, true)), (.fieldAddr 25 (.tmp 2) 3)⟩,
  ⟨(some 44), (some (42, true)), (.load 3 (.tmp 43))⟩,
  ⟨(some 45), (some (42, true)), (.binOp .eql 3 (.tmp 44) (.const (.int .i64 0)) 3)⟩,
  ⟨(some 46), none, (.pick (.tmp 42) (.tmp 45) (.const (.bool false)))⟩,
  ⟨(some 4), none, (.assign (.tmp 46))⟩] := opEq (by kernel_rfl)
noncomputable def r_spec_StepOk_8 : List POp := regAt Try.f14 8
@[go_sem] theorem r_spec_StepOk_8_eq : OpEq CC DD r_spec_StepOk_8 [
  ⟨(some 48), none, (.binOp .eql 3 (.tmp 36) (.const (.int .i64 2)) 3)⟩,
  ⟨(some 47), none, (.assign (.tmp 48))⟩] := opEq (by kernel_rfl)
noncomputable def r_spec_StepOk_9 : List POp := regAt Try.f14 9
@[go_sem] theorem r_spec_StepOk_9_eq : OpEq CC DD r_spec_StepOk_9 [
  ⟨(some 49), none, (.binOp .eql 3 (.tmp 36) (.const (.int .i64 5)) 3)⟩,
  ⟨(some 47), none, (.assign (.tmp 49))⟩] := opEq (by kernel_rfl)
noncomputable def r_spec_StepOk_10 : List POp := regAt Try.f14 10
@[go_sem] theorem r_spec_StepOk_10_eq : OpEq CC DD r_spec_StepOk_10 [
  ⟨(some 50), none, (.fieldAddr 25 (.tmp 2) 3)⟩,
  ⟨(some 51), none, (.load 3 (.tmp 50))⟩,
  ⟨(some 52), none, (.binOp .eql 3 (.tmp 51) (.const (.int .i64 0)) 3)⟩,
  ⟨(some 53), none, (.move (.tmp 52))⟩,
  ⟨(some 54), (some (53, true)), (.fieldAddr 25 (.tmp 2) 4)⟩,
  ⟨(some 55), (some (53, true)), (.load 3 (.tmp 54))⟩,
  ⟨(some 56), (some (53, true)), (.binOp .eql 3 (.tmp 55) (.const (.int .i64 0)) 3)⟩,
  ⟨(some 57), none, (.pick (.tmp 53) (.tmp 56) (.const (.bool false)))⟩,
  ⟨(some 4), none, (.assign (.tmp 57))⟩] := opEq (by kernel_rfl)
noncomputable def r_spec_StepOk_11 : List POp := regAt Try.f14 11
@[go_sem] theorem r_spec_StepOk_11_eq : OpEq CC DD r_spec_StepOk_11 [
  ⟨(some 59), none, (.binOp .eql 3 (.tmp 36) (.const (.int .i64 3)) 3)⟩,
  ⟨(some 58), none, (.assign (.tmp 59))⟩] := opEq (by kernel_rfl)
noncomputable def r_spec_StepOk_12 : List POp := regAt Try.f14 12
@[go_sem] theorem r_spec_StepOk_12_eq : OpEq CC DD r_spec_StepOk_12 [
  ⟨(some 60), none, (.move (.tmp 5))⟩,
  ⟨(some 61), none, (.move (.tmp 60))⟩,
  ⟨(some 62), (some (61, true)), (.fieldAddr 25 (.tmp 2) 2)⟩,
  ⟨(some 63), (some (61, true)), (.load 3 (.tmp 62))⟩,
  ⟨(some 64), (some (61, true)), (.binOp .eql 3 (.tmp 63) (.const (.int .i64 0)) 3)⟩,
  ⟨(some 65), none, (.pick (.tmp 61) (.tmp 64) (.const (.bool false)))⟩,
  ⟨(some 66), none, (.move (.tmp 65))⟩,
  ⟨(some 67), (some (66, true)), (.fieldAddr 25 (.tmp 2) 3)⟩,
  ⟨(some 68), (some (66, true)), (.load 3 (.tmp 67))⟩,
  ⟨(some 69), (some (66, true)), (.binOp .eql 3 (.tmp 68) (.const (.int .i64 0)) 3)⟩,
  ⟨(some 70), none, (.pick (.tmp 66) (.tmp 69) (.const (.bool false)))⟩,
  ⟨(some 4), none, (.assign (.tmp 70))⟩] := opEq (by kernel_rfl)
noncomputable def r_spec_StepOk_13 : List POp := regAt Try.f14 13
@[go_sem] theorem r_spec_StepOk_13_eq : OpEq CC DD r_spec_StepOk_13 [
  ⟨(some 72), none, (.binOp .eql 3 (.tmp 36) (.const (.int .i64 4)) 3)⟩,
  ⟨(some 71), none, (.assign (.tmp 72))⟩] := opEq (by kernel_rfl)
noncomputable def r_spec_StepOk_14 : List POp := regAt Try.f14 14
@[go_sem] theorem r_spec_StepOk_14_eq : OpEq CC DD r_spec_StepOk_14 [
  ⟨(some 73), none, (.move (.tmp 5))⟩,
  ⟨(some 74), none, (.move (.tmp 73))⟩,
  ⟨(some 75), (some (74, true)), (.fieldAddr 25 (.tmp 2) 1)⟩,
  ⟨(some 76), (some (74, true)), (.load 3 (.tmp 75))⟩,
  ⟨(some 77), (some (74, true)), (.binOp .eql 3 (.tmp 76) (.const (.int .i64 0)) 3)⟩,
  ⟨(some 78), none, (.pick (.tmp 74) (.tmp 77) (.const (.bool false)))⟩,
  ⟨(some 79), none, (.move (.tmp 78))⟩,
  ⟨(some 80), (some (79, true)), (.fieldAddr 25 (.tmp 2) 3)⟩,
  ⟨(some 81), (some (79, true)), (.load 3 (.tmp 80))⟩,
  ⟨(some 82), (some (79, true)), (.binOp .eql 3 (.tmp 81) (.const (.int .i64 0)) 3)⟩,
  ⟨(some 83), none, (.pick (.tmp 79) (.tmp 82) (.const (.bool false)))⟩,
  ⟨(some 4), none, (.assign (.tmp 83))⟩] := opEq (by kernel_rfl)
noncomputable def r_spec_StepOk_15 : List POp := regAt Try.f14 15
@[go_sem] theorem r_spec_StepOk_15_eq : OpEq CC DD r_spec_StepOk_15 [
  ⟨(some 85), none, (.binOp .eql 3 (.tmp 36) (.const (.int .i64 6)) 3)⟩,
  ⟨(some 84), none, (.assign (.tmp 85))⟩] := opEq (by kernel_rfl)
noncomputable def r_spec_StepOk_16 : List POp := regAt Try.f14 16
@[go_sem] theorem r_spec_StepOk_16_eq : OpEq CC DD r_spec_StepOk_16 [
  ⟨(some 86), none, (.fieldAddr 25 (.tmp 2) 1)⟩,
  ⟨(some 87), none, (.load 3 (.tmp 86))⟩,
  ⟨(some 88), none, (.binOp .eql 3 (.tmp 87) (.const (.int .i64 0)) 3)⟩,
  ⟨(some 89), none, (.move (.tmp 88))⟩,
  ⟨(some 90), (some (89, true)), (.fieldAddr 25 (.tmp 2) 4)⟩,
  ⟨(some 91), (some (89, true)), (.load 3 (.tmp 90))⟩,
  ⟨(some 92), (some (89, true)), (.binOp .eql 3 (.tmp 91) (.const (.int .i64 0)) 3)⟩,
  ⟨(some 93), none, (.pick (.tmp 89) (.tmp 92) (.const (.bool false)))⟩,
  ⟨(some 4), none, (.assign (.tmp 93))⟩] := opEq (by kernel_rfl)
noncomputable def r_spec_StepOk_17 : List POp := regAt Try.f14 17
@[go_sem] theorem r_spec_StepOk_17_eq : OpEq CC DD r_spec_StepOk_17 [
  ⟨(some 95), none, (.binOp .eql 3 (.tmp 36) (.const (.int .i64 7)) 3)⟩,
  ⟨(some 94), none, (.assign (.tmp 95))⟩] := opEq (by kernel_rfl)
noncomputable def r_spec_StepOk_18 : List POp := regAt Try.f14 18
@[go_sem] theorem r_spec_StepOk_18_eq : OpEq CC DD r_spec_StepOk_18 [
  ⟨(some 96), none, (.binOp .eql 3 (.tmp 36) (.const (.int .i64 11)) 3)⟩,
  ⟨(some 94), none, (.assign (.tmp 96))⟩] := opEq (by kernel_rfl)
noncomputable def r_spec_StepOk_19 : List POp := regAt Try.f14 19
@[go_sem] theorem r_spec_StepOk_19_eq : OpEq CC DD r_spec_StepOk_19 [
  ⟨(some 97), none, (.fieldAddr 25 (.tmp 2) 1)⟩,
  ⟨(some 98), none, (.load 3 (.tmp 97))⟩,
  ⟨(some 99), none, (.binOp .eql 3 (.tmp 98) (.const (.int .i64 0)) 3)⟩,
  ⟨(some 100), none, (.move (.tmp 99))⟩,
  ⟨(some 101), (some (100, true)), (.fieldAddr 25 (.tmp 2) 3)⟩,
  ⟨(some 102), (some (100, true)), (.load 3 (.tmp 101))⟩,
  ⟨(some 103), (some (100, true)), (.binOp .eql 3 (.tmp 102) (.const (.int .i64 0)) 3)⟩,
  ⟨(some 104), none, (.pick (.tmp 100) (.tmp 103) (.const (.bool false)))⟩,
  ⟨(some 105), none, (.move (.tmp 104))⟩,
  ⟨(some 106), (some (105, true)), (.fieldAddr 25 (.tmp 2) 4)⟩,
  ⟨(some 107), (some (105, true)), (.load 3 (.tmp 106))⟩,
  ⟨(some 108), (some (105, true)), (.binOp .eql 3 (.tmp 107) (.const (.int .i64 0)) 3)⟩,
  ⟨(some 109), none, (.pick (.tmp 105) (.tmp 108) (.const (.bool false)))⟩,
  ⟨(some 4), none, (.assign (.tmp 109))⟩] := opEq (by kernel_rfl)
noncomputable def r_spec_StepOk_20 : List POp := regAt Try.f14 20
@[go_sem] theorem r_spec_StepOk_20_eq : OpEq CC DD r_spec_StepOk_20 [
  ⟨(some 111), none, (.binOp .eql 3 (.tmp 36) (.const (.int .i64 8)) 3)⟩,
  ⟨(some 110), none, (.assign (.tmp 111))⟩] := opEq (by kernel_rfl)
noncomputable def r_spec_StepOk_21 : List POp := regAt Try.f14 21
@[go_sem] theorem r_spec_StepOk_21_eq : OpEq CC DD r_spec_StepOk_21 [
  ⟨(some 112), none, (.fieldAddr 25 (.tmp 2) 2)⟩,
  ⟨(some 113), none, (.load 3 (.tmp 112))⟩,
  ⟨(some 114), none, (.binOp .eql 3 (.tmp 113) (.const (.int .i64 0)) 3)⟩,
  ⟨(some 115), none, (.move (.tmp 114))⟩,
  ⟨(some 116), (some (115, true)), (.fieldAddr 25 (.tmp 2) 3)⟩,
  ⟨(some 117), (some (115, true)), (.load 3 (.tmp 116))⟩,
  ⟨(some 118), (some (115, true)), (.binOp .eql 3 (.tmp 117) (.const (.int .i64 0)) 3)⟩,
  ⟨(some 119), none, (.pick (.tmp 115) (.tmp 118) (.const (.bool false)))⟩,
  ⟨(some 120), none, (.move (.tmp 119))⟩,
  ⟨(some 121), (some (120, true)), (.fieldAddr 25 (.tmp 2) 4)⟩,
  ⟨(some 122), (some (120, true)), (.load 3 (.tmp 121))⟩,
  ⟨(some 123), (some (120, true)), (.binOp .eql 3 (.tmp 122) (.const (.int .i64 0)) 3)⟩,
  ⟨(some 124), none, (.pick (.tmp 120) (.tmp 123) (.const (.bool false)))⟩,
  ⟨(some 4), none, (.assign (.tmp 124))⟩] := opEq (by kernel_rfl)
noncomputable def r_spec_StepOk_22 : List POp := regAt Try.f14 22
@[go_sem] theorem r_spec_StepOk_22_eq : OpEq CC DD r_spec_StepOk_22 [
  ⟨(some 126), none, (.binOp .eql 3 (.tmp 36) (.const (.int .i64 9)) 3)⟩,
  ⟨(some 125), none, (.assign (.tmp 126))⟩] := opEq (by kernel_rfl)
noncomputable def r_spec_StepOk_23 : List POp := regAt Try.f14 23
@[go_sem] theorem r_spec_StepOk_23_eq : OpEq CC DD r_spec_StepOk_23 [
  ⟨(some 127), none, (.move (.tmp 6))⟩,
  ⟨(some 128), none, (.move (.tmp 127))⟩,
  ⟨(some 129), (some (128, true)), (.fieldAddr 25 (.tmp 2) 1)⟩,
  ⟨(some 130), (some (128, true)), (.load 3 (.tmp 129))⟩,
  ⟨(some 131), (some (128, true)), (.binOp .eql 3 (.tmp 130) (.const (.int .i64 0)) 3)⟩,
  ⟨(some 132), none, (.pick (.tmp 128) (.tmp 131) (.const (.bool false)))⟩,
  ⟨(some 133), none, (.move (.tmp 132))⟩,
  ⟨(some 134), (some (133, true)), (.fieldAddr 25 (.tmp 2) 2)⟩,
  ⟨(some 135), (some (133, true)), (.load 3 (.tmp 134))⟩,
  ⟨(some 136), (some (133, true)), (.binOp .eql 3 (.tmp 135) (.const (.int .i64 0)) 3)⟩,
  ⟨(some 137), none, (.pick (.tmp 133) (.tmp 136) (.const (.bool false)))⟩,
  ⟨(some 138), none, (.move (.tmp 137))⟩,
  ⟨(some 139), (some (138, true)), (.fieldAddr 25 (.tmp 2) 3)⟩,
  ⟨(some 140), (some (138, true)), (.load 3 (.tmp 139))⟩,
  ⟨(some 141), (some (138, true)), (.binOp .eql 3 (.tmp 140) (.const (.int .i64 0)) 3)⟩,
  ⟨(some 142), none, (.pick (.tmp 138) (.tmp 141) (.const (.bool false)))⟩,
  ⟨(some 4), none, (.assign (.tmp 142))⟩] := opEq (by kernel_rfl)
noncomputable def r_spec_StepOk_24 : List POp := regAt Try.f14 24
@[go_sem] theorem r_spec_StepOk_24_eq : OpEq CC DD r_spec_StepOk_24 [
  ⟨(some 144), none, (.binOp .eql 3 (.tmp 36) (.const (.int .i64 10)) 3)⟩,
  ⟨(some 143), none, (.assign (.tmp 144))⟩] := opEq (by kernel_rfl)
noncomputable def r_spec_StepOk_25 : List POp := regAt Try.f14 25
@[go_sem] theorem r_spec_StepOk_25_eq : OpEq CC DD r_spec_StepOk_25 [
  ⟨(some 145), none, (.move (.tmp 6))⟩,
  ⟨(some 146), none, (.move (.tmp 145))⟩,
  ⟨(some 147), (some (146, true)), (.fieldAddr 25 (.tmp 2) 1)⟩,
  ⟨(some 148), (some (146, true)), (.load 3 (.tmp 147))⟩,
  ⟨(some 149), (some (146, true)), (.binOp .eql 3 (.tmp 148) (.const (.int .i64 0)) 3)⟩,
  ⟨(some 150), none, (.pick (.tmp 146) (.tmp 149) (.const (.bool false)))⟩,
  ⟨(some 151), none, (.move (.tmp 150))⟩,
  ⟨(some 152), (some (151, true)), (.fieldAddr 25 (.tmp 2) 3)⟩,
  ⟨(some 153), (some (151, true)), (.load 3 (.tmp 152))⟩,
  ⟨(some 154), (some (151, true)), (.binOp .eql 3 (.tmp 153) (.const (.int .i64 0)) 3)⟩,
  ⟨(some 155), none, (.pick (.tmp 151) (.tmp 154) (.const (.bool false)))⟩,
  ⟨(some 4), none, (.assign (.tmp 155))⟩] := opEq (by kernel_rfl)
noncomputable def r_spec_StepOk_26 : List POp := regAt Try.f14 26
@[go_sem] theorem r_spec_StepOk_26_eq : OpEq CC DD r_spec_StepOk_26 [
  ⟨(some 156), none, (.fieldAddr 25 (.tmp 2) 0)⟩,
  ⟨(some 157), none, (.load 3 (.tmp 156))⟩,
  ⟨(some 158), none, (.binOp .sub 3 (.tmp 157) (.const (.int .i64 11)) 3)⟩,
  ⟨(some 159), none, (.call { callee := (.value (.func 63)), args := #[(.tmp 158)], argTypes := #[3] })⟩,
  ⟨(some 160), none, (.move (.tmp 159))⟩,
  ⟨(some 161), (some (160, true)), (.fieldAddr 25 (.tmp 2) 4)⟩,
  ⟨(some 162), (some (160, true)), (.load 3 (.tmp 161))⟩,
  ⟨(some 163), (some (160, true)), (.binOp .eql 3 (.tmp 162) (.const (.int .i64 0)) 3)⟩,
  ⟨(some 164), none, (.pick (.tmp 160) (.tmp 163) (.const (.bool false)))⟩,
  ⟨(some 4), none, (.assign (.tmp 164))⟩] := opEq (by kernel_rfl)
noncomputable def b_spec_StepOk_0 : PC := (.seq (.ops 1 r_spec_StepOk_2) .ret)
@[go_sem] theorem b_spec_StepOk_0_eq : GoEq CC DD b_spec_StepOk_0 (.seq (.ops 1 r_spec_StepOk_2) .ret) := goEq rfl
noncomputable def b_spec_StepOk_1 : PC := (.cond (.tmp 22) b_spec_StepOk_0 .skip)
@[go_sem] theorem b_spec_StepOk_1_eq : GoEq CC DD b_spec_StepOk_1 (.cond (.tmp 22) b_spec_StepOk_0 .skip) := goEq rfl
noncomputable def b_spec_StepOk_2 : PC := (.seq (.ops 9 r_spec_StepOk_7) .ret)
@[go_sem] theorem b_spec_StepOk_2_eq : GoEq CC DD b_spec_StepOk_2 (.seq (.ops 9 r_spec_StepOk_7) .ret) := goEq rfl
noncomputable def b_spec_StepOk_3 : PC := (.cond (.tmp 47) .skip (.ops 2 r_spec_StepOk_9))
@[go_sem] theorem b_spec_StepOk_3_eq : GoEq CC DD b_spec_StepOk_3 (.cond (.tmp 47) .skip (.ops 2 r_spec_StepOk_9)) := goEq rfl
noncomputable def b_spec_StepOk_4 : PC := (.seq (.ops 9 r_spec_StepOk_10) .ret)
@[go_sem] theorem b_spec_StepOk_4_eq : GoEq CC DD b_spec_StepOk_4 (.seq (.ops 9 r_spec_StepOk_10) .ret) := goEq rfl
noncomputable def b_spec_StepOk_5 : PC := (.seq (.ops 12 r_spec_StepOk_12) .ret)
@[go_sem] theorem b_spec_StepOk_5_eq : GoEq CC DD b_spec_StepOk_5 (.seq (.ops 12 r_spec_StepOk_12) .ret) := goEq rfl
noncomputable def b_spec_StepOk_6 : PC := (.seq (.ops 12 r_spec_StepOk_14) .ret)
@[go_sem] theorem b_spec_StepOk_6_eq : GoEq CC DD b_spec_StepOk_6 (.seq (.ops 12 r_spec_StepOk_14) .ret) := goEq rfl
noncomputable def b_spec_StepOk_7 : PC := (.seq (.ops 9 r_spec_StepOk_16) .ret)
@[go_sem] theorem b_spec_StepOk_7_eq : GoEq CC DD b_spec_StepOk_7 (.seq (.ops 9 r_spec_StepOk_16) .ret) := goEq rfl
noncomputable def b_spec_StepOk_8 : PC := (.cond (.tmp 94) .skip (.ops 2 r_spec_StepOk_18))
@[go_sem] theorem b_spec_StepOk_8_eq : GoEq CC DD b_spec_StepOk_8 (.cond (.tmp 94) .skip (.ops 2 r_spec_StepOk_18)) := goEq rfl
noncomputable def b_spec_StepOk_9 : PC := (.seq (.ops 14 r_spec_StepOk_19) .ret)
@[go_sem] theorem b_spec_StepOk_9_eq : GoEq CC DD b_spec_StepOk_9 (.seq (.ops 14 r_spec_StepOk_19) .ret) := goEq rfl
noncomputable def b_spec_StepOk_10 : PC := (.seq (.ops 14 r_spec_StepOk_21) .ret)
@[go_sem] theorem b_spec_StepOk_10_eq : GoEq CC DD b_spec_StepOk_10 (.seq (.ops 14 r_spec_StepOk_21) .ret) := goEq rfl
noncomputable def b_spec_StepOk_11 : PC := (.seq (.ops 17 r_spec_StepOk_23) .ret)
@[go_sem] theorem b_spec_StepOk_11_eq : GoEq CC DD b_spec_StepOk_11 (.seq (.ops 17 r_spec_StepOk_23) .ret) := goEq rfl
noncomputable def b_spec_StepOk_12 : PC := (.seq (.ops 12 r_spec_StepOk_25) .ret)
@[go_sem] theorem b_spec_StepOk_12_eq : GoEq CC DD b_spec_StepOk_12 (.seq (.ops 12 r_spec_StepOk_25) .ret) := goEq rfl
noncomputable def b_spec_StepOk_13 : PC := (.cond (.tmp 143) b_spec_StepOk_12 .skip)
@[go_sem] theorem b_spec_StepOk_13_eq : GoEq CC DD b_spec_StepOk_13 (.cond (.tmp 143) b_spec_StepOk_12 .skip) := goEq rfl
noncomputable def b_spec_StepOk_14 : PC := (.seq (.ops 2 r_spec_StepOk_24) b_spec_StepOk_13)
@[go_sem] theorem b_spec_StepOk_14_eq : GoEq CC DD b_spec_StepOk_14 (.seq (.ops 2 r_spec_StepOk_24) b_spec_StepOk_13) := goEq rfl
noncomputable def b_spec_StepOk_15 : PC := (.cond (.tmp 125) b_spec_StepOk_11 b_spec_StepOk_14)
@[go_sem] theorem b_spec_StepOk_15_eq : GoEq CC DD b_spec_StepOk_15 (.cond (.tmp 125) b_spec_StepOk_11 b_spec_StepOk_14) := goEq rfl
noncomputable def b_spec_StepOk_16 : PC := (.seq (.ops 2 r_spec_StepOk_22) b_spec_StepOk_15)
@[go_sem] theorem b_spec_StepOk_16_eq : GoEq CC DD b_spec_StepOk_16 (.seq (.ops 2 r_spec_StepOk_22) b_spec_StepOk_15) := goEq rfl
noncomputable def b_spec_StepOk_17 : PC := (.cond (.tmp 110) b_spec_StepOk_10 b_spec_StepOk_16)
@[go_sem] theorem b_spec_StepOk_17_eq : GoEq CC DD b_spec_StepOk_17 (.cond (.tmp 110) b_spec_StepOk_10 b_spec_StepOk_16) := goEq rfl
noncomputable def b_spec_StepOk_18 : PC := (.seq (.ops 2 r_spec_StepOk_20) b_spec_StepOk_17)
@[go_sem] theorem b_spec_StepOk_18_eq : GoEq CC DD b_spec_StepOk_18 (.seq (.ops 2 r_spec_StepOk_20) b_spec_StepOk_17) := goEq rfl
noncomputable def b_spec_StepOk_19 : PC := (.cond (.tmp 94) b_spec_StepOk_9 b_spec_StepOk_18)
@[go_sem] theorem b_spec_StepOk_19_eq : GoEq CC DD b_spec_StepOk_19 (.cond (.tmp 94) b_spec_StepOk_9 b_spec_StepOk_18) := goEq rfl
noncomputable def b_spec_StepOk_20 : PC := (.seq (.seq (.ops 2 r_spec_StepOk_17) b_spec_StepOk_8) b_spec_StepOk_19)
@[go_sem] theorem b_spec_StepOk_20_eq : GoEq CC DD b_spec_StepOk_20 (.seq (.seq (.ops 2 r_spec_StepOk_17) b_spec_StepOk_8) b_spec_StepOk_19) := goEq rfl
noncomputable def b_spec_StepOk_21 : PC := (.cond (.tmp 84) b_spec_StepOk_7 b_spec_StepOk_20)
@[go_sem] theorem b_spec_StepOk_21_eq : GoEq CC DD b_spec_StepOk_21 (.cond (.tmp 84) b_spec_StepOk_7 b_spec_StepOk_20) := goEq rfl
noncomputable def b_spec_StepOk_22 : PC := (.seq (.ops 2 r_spec_StepOk_15) b_spec_StepOk_21)
@[go_sem] theorem b_spec_StepOk_22_eq : GoEq CC DD b_spec_StepOk_22 (.seq (.ops 2 r_spec_StepOk_15) b_spec_StepOk_21) := goEq rfl
noncomputable def b_spec_StepOk_23 : PC := (.cond (.tmp 71) b_spec_StepOk_6 b_spec_StepOk_22)
@[go_sem] theorem b_spec_StepOk_23_eq : GoEq CC DD b_spec_StepOk_23 (.cond (.tmp 71) b_spec_StepOk_6 b_spec_StepOk_22) := goEq rfl
noncomputable def b_spec_StepOk_24 : PC := (.seq (.ops 2 r_spec_StepOk_13) b_spec_StepOk_23)
@[go_sem] theorem b_spec_StepOk_24_eq : GoEq CC DD b_spec_StepOk_24 (.seq (.ops 2 r_spec_StepOk_13) b_spec_StepOk_23) := goEq rfl
noncomputable def b_spec_StepOk_25 : PC := (.cond (.tmp 58) b_spec_StepOk_5 b_spec_StepOk_24)
@[go_sem] theorem b_spec_StepOk_25_eq : GoEq CC DD b_spec_StepOk_25 (.cond (.tmp 58) b_spec_StepOk_5 b_spec_StepOk_24) := goEq rfl
noncomputable def b_spec_StepOk_26 : PC := (.seq (.ops 2 r_spec_StepOk_11) b_spec_StepOk_25)
@[go_sem] theorem b_spec_StepOk_26_eq : GoEq CC DD b_spec_StepOk_26 (.seq (.ops 2 r_spec_StepOk_11) b_spec_StepOk_25) := goEq rfl
noncomputable def b_spec_StepOk_27 : PC := (.cond (.tmp 47) b_spec_StepOk_4 b_spec_StepOk_26)
@[go_sem] theorem b_spec_StepOk_27_eq : GoEq CC DD b_spec_StepOk_27 (.cond (.tmp 47) b_spec_StepOk_4 b_spec_StepOk_26) := goEq rfl
noncomputable def b_spec_StepOk_28 : PC := (.seq (.seq (.ops 2 r_spec_StepOk_8) b_spec_StepOk_3) b_spec_StepOk_27)
@[go_sem] theorem b_spec_StepOk_28_eq : GoEq CC DD b_spec_StepOk_28 (.seq (.seq (.ops 2 r_spec_StepOk_8) b_spec_StepOk_3) b_spec_StepOk_27) := goEq rfl
noncomputable def b_spec_StepOk_29 : PC := (.cond (.tmp 37) b_spec_StepOk_2 b_spec_StepOk_28)
@[go_sem] theorem b_spec_StepOk_29_eq : GoEq CC DD b_spec_StepOk_29 (.cond (.tmp 37) b_spec_StepOk_2 b_spec_StepOk_28) := goEq rfl
noncomputable def b_spec_StepOk_30 : PC := (.seq (.ops 2 r_spec_StepOk_6) b_spec_StepOk_29)
@[go_sem] theorem b_spec_StepOk_30_eq : GoEq CC DD b_spec_StepOk_30 (.seq (.ops 2 r_spec_StepOk_6) b_spec_StepOk_29) := goEq rfl
noncomputable def b_spec_StepOk_31 : PC := (.block 0 b_spec_StepOk_30)
@[go_sem] theorem b_spec_StepOk_31_eq : GoEq CC DD b_spec_StepOk_31 (.block 0 b_spec_StepOk_30) := goEq rfl
noncomputable def b_spec_StepOk_32 : PC := (.seq (.ops 10 r_spec_StepOk_26) .ret)
@[go_sem] theorem b_spec_StepOk_32_eq : GoEq CC DD b_spec_StepOk_32 (.seq (.ops 10 r_spec_StepOk_26) .ret) := goEq rfl
noncomputable def b_spec_StepOk_33 : PC := (.seq (.seq (.ops 2 r_spec_StepOk_5) b_spec_StepOk_31) b_spec_StepOk_32)
@[go_sem] theorem b_spec_StepOk_33_eq : GoEq CC DD b_spec_StepOk_33 (.seq (.seq (.ops 2 r_spec_StepOk_5) b_spec_StepOk_31) b_spec_StepOk_32) := goEq rfl
noncomputable def b_spec_StepOk_34 : PC := (.seq (.ops 10 r_spec_StepOk_4) b_spec_StepOk_33)
@[go_sem] theorem b_spec_StepOk_34_eq : GoEq CC DD b_spec_StepOk_34 (.seq (.ops 10 r_spec_StepOk_4) b_spec_StepOk_33) := goEq rfl
noncomputable def b_spec_StepOk_35 : PC := (.seq (.ops 4 r_spec_StepOk_3) b_spec_StepOk_34)
@[go_sem] theorem b_spec_StepOk_35_eq : GoEq CC DD b_spec_StepOk_35 (.seq (.ops 4 r_spec_StepOk_3) b_spec_StepOk_34) := goEq rfl
noncomputable def b_spec_StepOk_36 : PC := (.seq (.seq (.ops 16 r_spec_StepOk_1) b_spec_StepOk_1) b_spec_StepOk_35)
@[go_sem] theorem b_spec_StepOk_36_eq : GoEq CC DD b_spec_StepOk_36 (.seq (.seq (.ops 16 r_spec_StepOk_1) b_spec_StepOk_1) b_spec_StepOk_35) := goEq rfl
noncomputable def c_spec_StepOk : PC :=
  (.seq (.ops 2 r_spec_StepOk_0) b_spec_StepOk_36)
theorem res_spec_StepOk : Try.f14.results.toList = [(ResultVar.tmp 4)] := rfl
theorem c_spec_StepOk_ok : prep ((Try.f14.body).getD .skip) = some c_spec_StepOk := by kernel_rfl
noncomputable def r_laws_toStep_0 : List POp := regAt Try.f15 0
@[go_sem] theorem r_laws_toStep_0_eq : OpEq CC DD r_laws_toStep_0 [
  ⟨(some 1), none, (.box 23 (.tmp 0))⟩,
  ⟨(some 2), none, (.alloc 25)⟩] := opEq (by kernel_rfl)
noncomputable def r_laws_toStep_1 : List POp := regAt Try.f15 1
@[go_sem] theorem r_laws_toStep_1_eq : OpEq CC DD r_laws_toStep_1 [
  ⟨(some 3), none, (.alloc 25)⟩] := opEq (by kernel_rfl)
noncomputable def r_laws_toStep_2 : List POp := regAt Try.f15 2
@[go_sem] theorem r_laws_toStep_2_eq : OpEq CC DD r_laws_toStep_2 [
  ⟨(some 4), none, (.fieldAddr 23 (.tmp 1) 0)⟩,
  ⟨(some 5), none, (.load 3 (.tmp 4))⟩,
  ⟨(some 6), none, (.fieldAddr 25 (.tmp 3) 0)⟩,
  ⟨none, none, (.store 3 (.tmp 6) (.tmp 5))⟩] := opEq (by kernel_rfl)
noncomputable def r_laws_toStep_3 : List POp := regAt Try.f15 3
@[go_sem] theorem r_laws_toStep_3_eq : OpEq CC DD r_laws_toStep_3 [
  ⟨(some 7), none, (.fieldAddr 23 (.tmp 1) 1)⟩,
  ⟨(some 8), none, (.load 3 (.tmp 7))⟩,
  ⟨(some 9), none, (.fieldAddr 25 (.tmp 3) 1)⟩,
  ⟨none, none, (.store 3 (.tmp 9) (.tmp 8))⟩] := opEq (by kernel_rfl)
noncomputable def r_laws_toStep_4 : List POp := regAt Try.f15 4
@[go_sem] theorem r_laws_toStep_4_eq : OpEq CC DD r_laws_toStep_4 [
  ⟨(some 10), none, (.fieldAddr 23 (.tmp 1) 2)⟩,
  ⟨(some 11), none, (.load 3 (.tmp 10))⟩,
  ⟨(some 12), none, (.fieldAddr 25 (.tmp 3) 2)⟩,
  ⟨none, none, (.store 3 (.tmp 12) (.tmp 11))⟩] := opEq (by kernel_rfl)
noncomputable def r_laws_toStep_5 : List POp := regAt Try.f15 5
@[go_sem] theorem r_laws_toStep_5_eq : OpEq CC DD r_laws_toStep_5 [
  ⟨(some 13), none, (.fieldAddr 23 (.tmp 1) 3)⟩,
  ⟨(some 14), none, (.load 3 (.tmp 13))⟩,
  ⟨(some 15), none, (.fieldAddr 25 (.tmp 3) 3)⟩,
  ⟨none, none, (.store 3 (.tmp 15) (.tmp 14))⟩] := opEq (by kernel_rfl)
noncomputable def r_laws_toStep_6 : List POp := regAt Try.f15 6
@[go_sem] theorem r_laws_toStep_6_eq : OpEq CC DD r_laws_toStep_6 [
  ⟨(some 16), none, (.fieldAddr 23 (.tmp 1) 4)⟩,
  ⟨(some 17), none, (.load 3 (.tmp 16))⟩,
  ⟨(some 18), none, (.fieldAddr 25 (.tmp 3) 4)⟩,
  ⟨none, none, (.store 3 (.tmp 18) (.tmp 17))⟩] := opEq (by kernel_rfl)
noncomputable def r_laws_toStep_7 : List POp := regAt Try.f15 7
@[go_sem] theorem r_laws_toStep_7_eq : OpEq CC DD r_laws_toStep_7 [
  ⟨(some 19), none, (.load 25 (.tmp 3))⟩,
  ⟨none, none, (.store 25 (.tmp 2) (.tmp 19))⟩] := opEq (by kernel_rfl)
noncomputable def b_laws_toStep_0 : PC := (.seq (.ops 2 r_laws_toStep_7) .ret)
@[go_sem] theorem b_laws_toStep_0_eq : GoEq CC DD b_laws_toStep_0 (.seq (.ops 2 r_laws_toStep_7) .ret) := goEq rfl
noncomputable def b_laws_toStep_1 : PC := (.seq (.ops 4 r_laws_toStep_6) b_laws_toStep_0)
@[go_sem] theorem b_laws_toStep_1_eq : GoEq CC DD b_laws_toStep_1 (.seq (.ops 4 r_laws_toStep_6) b_laws_toStep_0) := goEq rfl
noncomputable def b_laws_toStep_2 : PC := (.seq (.ops 4 r_laws_toStep_5) b_laws_toStep_1)
@[go_sem] theorem b_laws_toStep_2_eq : GoEq CC DD b_laws_toStep_2 (.seq (.ops 4 r_laws_toStep_5) b_laws_toStep_1) := goEq rfl
noncomputable def b_laws_toStep_3 : PC := (.seq (.ops 4 r_laws_toStep_4) b_laws_toStep_2)
@[go_sem] theorem b_laws_toStep_3_eq : GoEq CC DD b_laws_toStep_3 (.seq (.ops 4 r_laws_toStep_4) b_laws_toStep_2) := goEq rfl
noncomputable def b_laws_toStep_4 : PC := (.seq (.ops 4 r_laws_toStep_3) b_laws_toStep_3)
@[go_sem] theorem b_laws_toStep_4_eq : GoEq CC DD b_laws_toStep_4 (.seq (.ops 4 r_laws_toStep_3) b_laws_toStep_3) := goEq rfl
noncomputable def b_laws_toStep_5 : PC := (.seq (.ops 4 r_laws_toStep_2) b_laws_toStep_4)
@[go_sem] theorem b_laws_toStep_5_eq : GoEq CC DD b_laws_toStep_5 (.seq (.ops 4 r_laws_toStep_2) b_laws_toStep_4) := goEq rfl
noncomputable def b_laws_toStep_6 : PC := (.seq (.ops 1 r_laws_toStep_1) b_laws_toStep_5)
@[go_sem] theorem b_laws_toStep_6_eq : GoEq CC DD b_laws_toStep_6 (.seq (.ops 1 r_laws_toStep_1) b_laws_toStep_5) := goEq rfl
noncomputable def c_laws_toStep : PC :=
  (.seq (.ops 2 r_laws_toStep_0) b_laws_toStep_6)
theorem res_laws_toStep : Try.f15.results.toList = [(ResultVar.cell 2 25)] := rfl
theorem c_laws_toStep_ok : prep ((Try.f15.body).getD .skip) = some c_laws_toStep := by kernel_rfl
noncomputable def r_impl_StepOk_0 : List POp := regAt Try.f16 0
@[go_sem] theorem r_impl_StepOk_0_eq : OpEq CC DD r_impl_StepOk_0 [
  ⟨(some 2), none, (.box 25 (.tmp 0))⟩,
  ⟨(some 4), none, (.assign (.const (.bool false)))⟩] := opEq (by kernel_rfl)
noncomputable def r_impl_StepOk_1 : List POp := regAt Try.f16 1
@[go_sem] theorem r_impl_StepOk_1_eq : OpEq CC DD r_impl_StepOk_1 [
  ⟨(some 9), none, (.fieldAddr 25 (.tmp 2) 0)⟩,
  ⟨(some 10), none, (.load 3 (.tmp 9))⟩,
  ⟨(some 11), none, (.binOp .lss 3 (.tmp 10) (.const (.int .i64 1)) 3)⟩,
  ⟨(some 12), none, (.move (.tmp 11))⟩,
  ⟨(some 13), (some (12, false)), (.fieldAddr 25 (.tmp 2) 0)⟩,
  ⟨(some 14), (some (12, false)), (.load 3 (.tmp 13))⟩,
  ⟨(some 15), (some (12, false)), (.binOp .gtr 3 (.tmp 14) (.const (.int .i64 21)) 3)⟩,
  ⟨(some 16), none, (.pick (.tmp 12) (.const (.bool true)) (.tmp 15))⟩] := opEq (by kernel_rfl)
noncomputable def r_impl_StepOk_2 : List POp := regAt Try.f16 2
@[go_sem] theorem r_impl_StepOk_2_eq : OpEq CC DD r_impl_StepOk_2 [
  ⟨(some 4), none, (.assign (.const (.bool false)))⟩] := opEq (by kernel_rfl)
noncomputable def r_impl_StepOk_3 : List POp := regAt Try.f16 3
@[go_sem] theorem r_impl_StepOk_3_eq : OpEq CC DD r_impl_StepOk_3 [
  ⟨(some 18), none, (.fieldAddr 25 (.tmp 2) 0)⟩,
  ⟨(some 19), none, (.load 3 (.tmp 18))⟩,
  ⟨(some 20), none, (.call { callee := (.value (.func 64)), args := #[(.tmp 19)], argTypes := #[3] })⟩,
  ⟨(some 17), none, (.move (.tmp 20))⟩,
  ⟨(some 21), none, (.extract (.tmp 17) 0)⟩,
  ⟨(some 22), none, (.extract (.tmp 17) 1)⟩,
  ⟨(some 5), none, (.assign (.tmp 21))⟩,
  ⟨(some 6), none, (.assign (.tmp 22))⟩] := opEq (by kernel_rfl)
noncomputable def r_impl_StepOk_4 : List POp := regAt Try.f16 4
@[go_sem] theorem r_impl_StepOk_4_eq : OpEq CC DD r_impl_StepOk_4 [
  ⟨(some 23), none, (.move (.tmp 5))⟩,
  ⟨(some 24), none, (.convert 9 28 (.tmp 23))⟩,
  ⟨(some 7), none, (.assign (.tmp 24))⟩] := opEq (by kernel_rfl)
noncomputable def d_impl_StepOk_5 : Array Oper := drawAt Try.f16 0
theorem d_impl_StepOk_5_go {Q : Ex → S → Prop} {k : List Fr} {s : S} (h : OpG Γ E (TC Γ CC true (s.h.next + 20)) DD (Done Γ E CC DD Q k) s.h.next 0 [
  ⟨(some 25), none, (.fieldAddr 25 (.tmp 2) 1)⟩,
  ⟨(some 26), none, (ldQ 3 (.tmp 25))⟩,
  ⟨(some 27), none, (.move (.tmp 7))⟩,
  ⟨(some 28), none, (.call { callee := (.value (.func 66)), args := #[(.tmp 27), (.const (.int .u8 82))], argTypes := #[28, 5] })⟩,
  ⟨(some 29), none, (.call { callee := (.value (.func 65)), args := #[(.tmp 26), (.tmp 28), (.const (.int .i64 7))], argTypes := #[3, 4, 3] })⟩,
  ⟨(some 30), none, (.move (.tmp 29))⟩,
  ⟨(some 31), (some (30, true)), (.fieldAddr 25 (.tmp 2) 2)⟩,
  ⟨(some 32), (some (30, true)), (ldQ 3 (.tmp 31))⟩,
  ⟨(some 33), (some (30, true)), (.move (.tmp 7))⟩,
  ⟨(some 34), (some (30, true)), (.call { callee := (.value (.func 66)), args := #[(.tmp 33), (.const (.int .u8 65))], argTypes := #[28, 5] })⟩,
  ⟨(some 35), (some (30, true)), (.call { callee := (.value (.func 65)), args := #[(.tmp 32), (.tmp 34), (.const (.int .i64 7))], argTypes := #[3, 4, 3] })⟩,
  ⟨(some 36), none, (.pick (.tmp 30) (.tmp 35) (.const (.bool false)))⟩,
  ⟨(some 37), none, (.move (.tmp 36))⟩,
  ⟨(some 38), (some (37, true)), (.fieldAddr 25 (.tmp 2) 3)⟩,
  ⟨(some 39), (some (37, true)), (ldQ 3 (.tmp 38))⟩,
  ⟨(some 40), (some (37, true)), (.move (.tmp 7))⟩,
  ⟨(some 41), (some (37, true)), (.call { callee := (.value (.func 66)), args := #[(.tmp 40), (.const (.int .u8 66))], argTypes := #[28, 5] })⟩,
  ⟨(some 42), (some (37, true)), (.call { callee := (.value (.func 65)), args := #[(.tmp 39), (.tmp 41), (.const (.int .i64 7))], argTypes := #[3, 4, 3] })⟩,
  ⟨(some 43), none, (.pick (.tmp 37) (.tmp 42) (.const (.bool false)))⟩,
  ⟨(some 8), none, (.assign (.tmp 43))⟩] [] (s.hp (s.h.cl 20))) : Go Γ E CC DD Q (.draw d_impl_StepOk_5) k s :=
  go_text (l0 := (prepO d_impl_StepOk_5 d_impl_StepOk_5.toList).getD []) [0, 1, 0, 4, 15, 31, 63, 127, 63, 319, 1023, 2047, 4095, 8191, 16383, 8191, 40959, 131071, 262143, 524287] [0, 2, 0, 6, 5, 0, 0, 2, 0, 6, 5, 0, 0, 0, 2, 0, 6, 5, 0, 0] true _ (by kernel_rfl) (by kernel_rfl) (by kernel_rfl) (by kernel_rfl) (by kernel_rfl) h
noncomputable def r_impl_StepOk_6 : List POp := regAt Try.f16 5
@[go_sem] theorem r_impl_StepOk_6_eq : OpEq CC DD r_impl_StepOk_6 [
  ⟨(some 51), none, (.move (.tmp 7))⟩,
  ⟨(some 52), none, (.call { callee := (.value (.func 66)), args := #[(.tmp 51), (.const (.int .u8 78))], argTypes := #[28, 5] })⟩,
  ⟨(some 50), none, (.assign (.tmp 52))⟩] := opEq (by kernel_rfl)
noncomputable def r_impl_StepOk_7 : List POp := regAt Try.f16 6
@[go_sem] theorem r_impl_StepOk_7_eq : OpEq CC DD r_impl_StepOk_7 [
  ⟨(some 54), none, (.move (.tmp 7))⟩,
  ⟨(some 55), none, (.call { callee := (.value (.func 66)), args := #[(.tmp 54), (.const (.int .u8 83))], argTypes := #[28, 5] })⟩,
  ⟨(some 53), none, (.assign (.tmp 55))⟩] := opEq (by kernel_rfl)
noncomputable def r_impl_StepOk_8 : List POp := regAt Try.f16 7
@[go_sem] theorem r_impl_StepOk_8_eq : OpEq CC DD r_impl_StepOk_8 [
  ⟨(some 56), none, (.move (.tmp 6))⟩,
  ⟨(some 57), none, (.move (.tmp 56))⟩,
  ⟨(some 58), (some (57, true)), (.fieldAddr 25 (.tmp 2) 4)⟩,
  ⟨(some 59), (some (57, true)), (.load 3 (.tmp 58))⟩,
  ⟨(some 60), (some (57, true)), (.call { callee := (.value (.func 67)), args := #[(.tmp 59), (.const (.int .i64 0)), (.const (.int .i64 39))], argTypes := #[3, 3, 3] })⟩,
  ⟨(some 61), none, (.pick (.tmp 57) (.tmp 60) (.const (.bool false)))⟩,
  ⟨(some 6), none, (.assign (.tmp 61))⟩] := opEq (by kernel_rfl)
noncomputable def r_impl_StepOk_9 : List POp := regAt Try.f16 8
@[go_sem] theorem r_impl_StepOk_9_eq : OpEq CC DD r_impl_StepOk_9 [
  ⟨(some 63), none, (.move (.tmp 7))⟩,
  ⟨(some 64), none, (.call { callee := (.value (.func 66)), args := #[(.tmp 63), (.const (.int .u8 84))], argTypes := #[28, 5] })⟩,
  ⟨(some 62), none, (.assign (.tmp 64))⟩] := opEq (by kernel_rfl)
noncomputable def r_impl_StepOk_10 : List POp := regAt Try.f16 9
@[go_sem] theorem r_impl_StepOk_10_eq : OpEq CC DD r_impl_StepOk_10 [
  ⟨(some 65), none, (.move (.tmp 6))⟩,
  ⟨(some 66), none, (.move (.tmp 65))⟩,
  ⟨(some 67), (some (66, true)), (.fieldAddr 25 (.tmp 2) 4)⟩,
  ⟨(some 68), (some (66, true)), (.load 3 (.tmp 67))⟩,
  ⟨(some 69), (some (66, true)), (.binOp .geq 3 (.tmp 68) (.const (.int .i64 0)) 3)⟩,
  ⟨(some 70), none, (.pick (.tmp 66) (.tmp 69) (.const (.bool false)))⟩,
  ⟨(some 71), none, (.move (.tmp 70))⟩,
  ⟨(some 72), (some (71, true)), (.fieldAddr 25 (.tmp 2) 4)⟩,
  ⟨(some 73), (some (71, true)), (.load 3 (.tmp 72))⟩,
  ⟨(some 74), (some (71, true)), (.move (.tmp 1))⟩,
  ⟨(some 75), (some (71, true)), (.binOp .lss 3 (.tmp 73) (.tmp 74) 3)⟩,
  ⟨(some 76), none, (.pick (.tmp 71) (.tmp 75) (.const (.bool false)))⟩,
  ⟨(some 6), none, (.assign (.tmp 76))⟩] := opEq (by kernel_rfl)
noncomputable def r_impl_StepOk_11 : List POp := regAt Try.f16 10
@[go_sem] theorem r_impl_StepOk_11_eq : OpEq CC DD r_impl_StepOk_11 [
  ⟨(some 44), none, (.move (.tmp 6))⟩,
  ⟨(some 45), none, (.move (.tmp 44))⟩,
  ⟨(some 46), (some (45, true)), (.fieldAddr 25 (.tmp 2) 4)⟩,
  ⟨(some 47), (some (45, true)), (.load 3 (.tmp 46))⟩,
  ⟨(some 48), (some (45, true)), (.binOp .eql 3 (.tmp 47) (.const (.int .i64 0)) 3)⟩,
  ⟨(some 49), none, (.pick (.tmp 45) (.tmp 48) (.const (.bool false)))⟩,
  ⟨(some 6), none, (.assign (.tmp 49))⟩] := opEq (by kernel_rfl)
noncomputable def r_impl_StepOk_12 : List POp := regAt Try.f16 11
@[go_sem] theorem r_impl_StepOk_12_eq : OpEq CC DD r_impl_StepOk_12 [
  ⟨(some 77), none, (.move (.tmp 6))⟩,
  ⟨(some 78), none, (.move (.tmp 77))⟩,
  ⟨(some 79), (some (78, true)), (.move (.tmp 8))⟩,
  ⟨(some 80), none, (.pick (.tmp 78) (.tmp 79) (.const (.bool false)))⟩,
  ⟨(some 4), none, (.assign (.tmp 80))⟩] := opEq (by kernel_rfl)
noncomputable def b_impl_StepOk_0 : PC := (.seq (.ops 1 r_impl_StepOk_2) .ret)
@[go_sem] theorem b_impl_StepOk_0_eq : GoEq CC DD b_impl_StepOk_0 (.seq (.ops 1 r_impl_StepOk_2) .ret) := goEq rfl
noncomputable def b_impl_StepOk_1 : PC := (.cond (.tmp 16) b_impl_StepOk_0 .skip)
@[go_sem] theorem b_impl_StepOk_1_eq : GoEq CC DD b_impl_StepOk_1 (.cond (.tmp 16) b_impl_StepOk_0 .skip) := goEq rfl
noncomputable def b_impl_StepOk_2 : PC := (.cond (.tmp 62) (.ops 13 r_impl_StepOk_10) (.ops 7 r_impl_StepOk_11))
@[go_sem] theorem b_impl_StepOk_2_eq : GoEq CC DD b_impl_StepOk_2 (.cond (.tmp 62) (.ops 13 r_impl_StepOk_10) (.ops 7 r_impl_StepOk_11)) := goEq rfl
noncomputable def b_impl_StepOk_3 : PC := (.seq (.ops 3 r_impl_StepOk_9) b_impl_StepOk_2)
@[go_sem] theorem b_impl_StepOk_3_eq : GoEq CC DD b_impl_StepOk_3 (.seq (.ops 3 r_impl_StepOk_9) b_impl_StepOk_2) := goEq rfl
noncomputable def b_impl_StepOk_4 : PC := (.cond (.tmp 53) (.ops 7 r_impl_StepOk_8) b_impl_StepOk_3)
@[go_sem] theorem b_impl_StepOk_4_eq : GoEq CC DD b_impl_StepOk_4 (.cond (.tmp 53) (.ops 7 r_impl_StepOk_8) b_impl_StepOk_3) := goEq rfl
noncomputable def b_impl_StepOk_5 : PC := (.seq (.ops 3 r_impl_StepOk_7) b_impl_StepOk_4)
@[go_sem] theorem b_impl_StepOk_5_eq : GoEq CC DD b_impl_StepOk_5 (.seq (.ops 3 r_impl_StepOk_7) b_impl_StepOk_4) := goEq rfl
noncomputable def b_impl_StepOk_6 : PC := (.cond (.tmp 50) .skip b_impl_StepOk_5)
@[go_sem] theorem b_impl_StepOk_6_eq : GoEq CC DD b_impl_StepOk_6 (.cond (.tmp 50) .skip b_impl_StepOk_5) := goEq rfl
noncomputable def b_impl_StepOk_7 : PC := (.seq (.ops 3 r_impl_StepOk_6) b_impl_StepOk_6)
@[go_sem] theorem b_impl_StepOk_7_eq : GoEq CC DD b_impl_StepOk_7 (.seq (.ops 3 r_impl_StepOk_6) b_impl_StepOk_6) := goEq rfl
noncomputable def b_impl_StepOk_8 : PC := (.seq (.ops 5 r_impl_StepOk_12) .ret)
@[go_sem] theorem b_impl_StepOk_8_eq : GoEq CC DD b_impl_StepOk_8 (.seq (.ops 5 r_impl_StepOk_12) .ret) := goEq rfl
noncomputable def b_impl_StepOk_9 : PC := (.seq (.block 0 b_impl_StepOk_7) b_impl_StepOk_8)
@[go_sem] theorem b_impl_StepOk_9_eq : GoEq CC DD b_impl_StepOk_9 (.seq (.block 0 b_impl_StepOk_7) b_impl_StepOk_8) := goEq rfl
noncomputable def b_impl_StepOk_10 : PC := (.seq (.draw d_impl_StepOk_5) b_impl_StepOk_9)
@[go_sem] theorem b_impl_StepOk_10_eq : GoEq CC DD b_impl_StepOk_10 (.seq (.draw d_impl_StepOk_5) b_impl_StepOk_9) := goEq rfl
noncomputable def b_impl_StepOk_11 : PC := (.seq (.ops 3 r_impl_StepOk_4) b_impl_StepOk_10)
@[go_sem] theorem b_impl_StepOk_11_eq : GoEq CC DD b_impl_StepOk_11 (.seq (.ops 3 r_impl_StepOk_4) b_impl_StepOk_10) := goEq rfl
noncomputable def b_impl_StepOk_12 : PC := (.seq (.ops 8 r_impl_StepOk_3) b_impl_StepOk_11)
@[go_sem] theorem b_impl_StepOk_12_eq : GoEq CC DD b_impl_StepOk_12 (.seq (.ops 8 r_impl_StepOk_3) b_impl_StepOk_11) := goEq rfl
noncomputable def b_impl_StepOk_13 : PC := (.seq (.seq (.ops 8 r_impl_StepOk_1) b_impl_StepOk_1) b_impl_StepOk_12)
@[go_sem] theorem b_impl_StepOk_13_eq : GoEq CC DD b_impl_StepOk_13 (.seq (.seq (.ops 8 r_impl_StepOk_1) b_impl_StepOk_1) b_impl_StepOk_12) := goEq rfl
noncomputable def c_impl_StepOk : PC :=
  (.seq (.ops 2 r_impl_StepOk_0) b_impl_StepOk_13)
theorem res_impl_StepOk : Try.f16.results.toList = [(ResultVar.tmp 4)] := rfl
theorem c_impl_StepOk_ok : prep ((Try.f16.body).getD .skip) = some c_impl_StepOk := by kernel_rfl
noncomputable def r_laws_szStepS_0 : List POp := regAt Try.f24 0
@[go_sem] theorem r_laws_szStepS_0_eq : OpEq CC DD r_laws_szStepS_0 [
  ⟨(some 4), none, (.assign (.const (.int .i64 0)))⟩] := opEq (by kernel_rfl)
noncomputable def r_laws_szStepS_1 : List POp := regAt Try.f24 1
@[go_sem] theorem r_laws_szStepS_1_eq : OpEq CC DD r_laws_szStepS_1 [
  ⟨(some 5), none, (.move (.tmp 1))⟩,
  ⟨(some 6), none, (.move (.tmp 0))⟩,
  ⟨(some 7), none, (.call { callee := (.builtin .len), args := #[(.tmp 6)], argTypes := #[36] })⟩,
  ⟨(some 8), none, (.binOp .sub 3 (.tmp 5) (.tmp 7) 3)⟩,
  ⟨(some 1), none, (.assign (.tmp 8))⟩] := opEq (by kernel_rfl)
noncomputable def r_laws_szStepS_2 : List POp := regAt Try.f24 2
@[go_sem] theorem r_laws_szStepS_2_eq : OpEq CC DD r_laws_szStepS_2 [
  ⟨(some 9), none, (.move (.tmp 1))⟩,
  ⟨(some 10), none, (.binOp .lss 3 (.tmp 9) (.const (.int .i64 0)) 3)⟩] := opEq (by kernel_rfl)
noncomputable def r_laws_szStepS_3 : List POp := regAt Try.f24 3
@[go_sem] theorem r_laws_szStepS_3_eq : OpEq CC DD r_laws_szStepS_3 [
  ⟨(some 4), none, (.assign (.const (.int .i64 (-1))))⟩] := opEq (by kernel_rfl)
noncomputable def r_laws_szStepS_4 : List POp := regAt Try.f24 4
@[go_sem] theorem r_laws_szStepS_4_eq : OpEq CC DD r_laws_szStepS_4 [
  ⟨(some 11), none, (.move (.tmp 1))⟩,
  ⟨(some 4), none, (.assign (.tmp 11))⟩] := opEq (by kernel_rfl)
noncomputable def b_laws_szStepS_0 : PC := (.seq (.ops 1 r_laws_szStepS_3) .ret)
@[go_sem] theorem b_laws_szStepS_0_eq : GoEq CC DD b_laws_szStepS_0 (.seq (.ops 1 r_laws_szStepS_3) .ret) := goEq rfl
noncomputable def b_laws_szStepS_1 : PC := (.cond (.tmp 10) b_laws_szStepS_0 .skip)
@[go_sem] theorem b_laws_szStepS_1_eq : GoEq CC DD b_laws_szStepS_1 (.cond (.tmp 10) b_laws_szStepS_0 .skip) := goEq rfl
noncomputable def b_laws_szStepS_2 : PC := (.seq (.ops 2 r_laws_szStepS_4) .ret)
@[go_sem] theorem b_laws_szStepS_2_eq : GoEq CC DD b_laws_szStepS_2 (.seq (.ops 2 r_laws_szStepS_4) .ret) := goEq rfl
noncomputable def b_laws_szStepS_3 : PC := (.seq (.seq (.ops 2 r_laws_szStepS_2) b_laws_szStepS_1) b_laws_szStepS_2)
@[go_sem] theorem b_laws_szStepS_3_eq : GoEq CC DD b_laws_szStepS_3 (.seq (.seq (.ops 2 r_laws_szStepS_2) b_laws_szStepS_1) b_laws_szStepS_2) := goEq rfl
noncomputable def b_laws_szStepS_4 : PC := (.seq (.ops 5 r_laws_szStepS_1) b_laws_szStepS_3)
@[go_sem] theorem b_laws_szStepS_4_eq : GoEq CC DD b_laws_szStepS_4 (.seq (.ops 5 r_laws_szStepS_1) b_laws_szStepS_3) := goEq rfl
noncomputable def c_laws_szStepS : PC :=
  (.seq (.ops 1 r_laws_szStepS_0) b_laws_szStepS_4)
theorem res_laws_szStepS : Try.f24.results.toList = [(ResultVar.tmp 4)] := rfl
theorem c_laws_szStepS_ok : prep ((Try.f24.body).getD .skip) = some c_laws_szStepS := by kernel_rfl
noncomputable def r_spec_MachineOk_0 : List POp := regAt Try.f25 0
@[go_sem] theorem r_spec_MachineOk_0_eq : OpEq CC DD r_spec_MachineOk_0 [
  ⟨(some 2), none, (.assign (.const (.bool false)))⟩] := opEq (by kernel_rfl)
noncomputable def r_spec_MachineOk_1 : List POp := regAt Try.f25 1
@[go_sem] theorem r_spec_MachineOk_1_eq : OpEq CC DD r_spec_MachineOk_1 [
  ⟨(some 5), none, (.move (.tmp 0))⟩,
  ⟨(some 6), none, (.call { callee := (.builtin .len), args := #[(.tmp 5)], argTypes := #[39] })⟩,
  ⟨(some 3), none, (.assign (.tmp 6))⟩] := opEq (by kernel_rfl)
noncomputable def r_spec_MachineOk_2 : List POp := regAt Try.f25 2
@[go_sem] theorem r_spec_MachineOk_2_eq : OpEq CC DD r_spec_MachineOk_2 [
  ⟨(some 7), none, (.move (.tmp 3))⟩,
  ⟨(some 8), none, (.call { callee := (.value (.func 62)), args := #[(.tmp 7), (.const (.int .i64 1)), (.const (.int .i64 900))], argTypes := #[3, 3, 3] })⟩,
  ⟨(some 9), none, (.unOp .not 4 (.tmp 8))⟩] := opEq (by kernel_rfl)
noncomputable def r_spec_MachineOk_3 : List POp := regAt Try.f25 3
@[go_sem] theorem r_spec_MachineOk_3_eq : OpEq CC DD r_spec_MachineOk_3 [
  ⟨(some 2), none, (.assign (.const (.bool false)))⟩] := opEq (by kernel_rfl)
noncomputable def r_spec_MachineOk_4 : List POp := regAt Try.f25 4
@[go_sem] theorem r_spec_MachineOk_4_eq : OpEq CC DD r_spec_MachineOk_4 [
  ⟨(some 4), none, (.assign (.const (.int .i64 0)))⟩] := opEq (by kernel_rfl)
noncomputable def r_spec_MachineOk_5 : List POp := regAt Try.f25 5
@[go_sem] theorem r_spec_MachineOk_5_eq : OpEq CC DD r_spec_MachineOk_5 [
  ⟨(some 10), none, (.move (.tmp 4))⟩,
  ⟨(some 11), none, (.move (.tmp 3))⟩,
  ⟨(some 12), none, (.binOp .lss 3 (.tmp 10) (.tmp 11) 3)⟩] := opEq (by kernel_rfl)
noncomputable def r_spec_MachineOk_6 : List POp := regAt Try.f25 6
@[go_sem] theorem r_spec_MachineOk_6_eq : OpEq CC DD r_spec_MachineOk_6 [
  ⟨(some 15), none, (.move (.tmp 0))⟩,
  ⟨(some 16), none, (.move (.tmp 4))⟩,
  ⟨(some 17), none, (.indexAddr 39 (.tmp 15) (.tmp 16))⟩,
  ⟨(some 18), none, (.load 25 (.tmp 17))⟩,
  ⟨(some 19), none, (.move (.tmp 3))⟩,
  ⟨(some 20), none, (.call { callee := (.value (.func 14)), args := #[(.tmp 18), (.tmp 19)], argTypes := #[25, 3] })⟩,
  ⟨(some 21), none, (.unOp .not 4 (.tmp 20))⟩] := opEq (by kernel_rfl)
noncomputable def r_spec_MachineOk_7 : List POp := regAt Try.f25 7
@[go_sem] theorem r_spec_MachineOk_7_eq : OpEq CC DD r_spec_MachineOk_7 [
  ⟨(some 2), none, (.assign (.const (.bool false)))⟩] := opEq (by kernel_rfl)
noncomputable def r_spec_MachineOk_8 : List POp := regAt Try.f25 8
@[go_sem] theorem r_spec_MachineOk_8_eq : OpEq CC DD r_spec_MachineOk_8 [
  ⟨(some 13), none, (.move (.tmp 4))⟩,
  ⟨(some 14), none, (.binOp .add 3 (.tmp 13) (.const (.int .i64 1)) 3)⟩,
  ⟨(some 4), none, (.assign (.tmp 14))⟩] := opEq (by kernel_rfl)
noncomputable def r_spec_MachineOk_9 : List POp := regAt Try.f25 9
@[go_sem] theorem r_spec_MachineOk_9_eq : OpEq CC DD r_spec_MachineOk_9 [
  ⟨(some 22), none, (.move (.tmp 0))⟩,
  ⟨(some 23), none, (.move (.tmp 3))⟩,
  ⟨(some 24), none, (.binOp .sub 3 (.tmp 23) (.const (.int .i64 1)) 3)⟩,
  ⟨(some 25), none, (.indexAddr 39 (.tmp 22) (.tmp 24))⟩,
  ⟨(some 26), none, (.fieldAddr 25 (.tmp 25) 0)⟩,
  ⟨(some 27), none, (.load 3 (.tmp 26))⟩,
  ⟨(some 28), none, (.binOp .eql 3 (.tmp 27) (.const (.int .i64 9)) 3)⟩,
  ⟨(some 29), none, (.move (.tmp 28))⟩,
  ⟨(some 30), (some (29, false)), (.move (.tmp 0))⟩,
  ⟨(some 31), (some (29, false)), (.move (.tmp 3))⟩,
  ⟨(some 32), (some (29, false)), (.binOp .sub 3 (.tmp 31) (.const (.int .i64 1)) 3)⟩,
  ⟨(some 33), (some (29, false)), (.indexAddr 39 (.tmp 30) (.tmp 32))⟩,
  ⟨(some 34), (some (29, false)), (.fieldAddr 25 (.tmp 33) 0)⟩,
  ⟨(some 35), (some (29, false)), (.load 3 (.tmp 34))⟩,
  ⟨(some 36), (some (29, false)), (.binOp .eql 3 (.tmp 35) (.const (.int .i64 11)) 3)⟩,
  ⟨(some 37), none, (.pick (.tmp 29) (.const (.bool true)) (.tmp 36))⟩,
  ⟨(some 2), none, (.assign (.tmp 37))⟩] := opEq (by kernel_rfl)
noncomputable def b_spec_MachineOk_0 : PC := (.seq (.ops 1 r_spec_MachineOk_3) .ret)
@[go_sem] theorem b_spec_MachineOk_0_eq : GoEq CC DD b_spec_MachineOk_0 (.seq (.ops 1 r_spec_MachineOk_3) .ret) := goEq rfl
noncomputable def b_spec_MachineOk_1 : PC := (.cond (.tmp 9) b_spec_MachineOk_0 .skip)
@[go_sem] theorem b_spec_MachineOk_1_eq : GoEq CC DD b_spec_MachineOk_1 (.cond (.tmp 9) b_spec_MachineOk_0 .skip) := goEq rfl
noncomputable def b_spec_MachineOk_2 : PC := (.cond (.tmp 12) .skip (.exit 0))
@[go_sem] theorem b_spec_MachineOk_2_eq : GoEq CC DD b_spec_MachineOk_2 (.cond (.tmp 12) .skip (.exit 0)) := goEq rfl
noncomputable def b_spec_MachineOk_3 : PC := (.seq (.ops 1 r_spec_MachineOk_7) .ret)
@[go_sem] theorem b_spec_MachineOk_3_eq : GoEq CC DD b_spec_MachineOk_3 (.seq (.ops 1 r_spec_MachineOk_7) .ret) := goEq rfl
noncomputable def b_spec_MachineOk_4 : PC := (.cond (.tmp 21) b_spec_MachineOk_3 .skip)
@[go_sem] theorem b_spec_MachineOk_4_eq : GoEq CC DD b_spec_MachineOk_4 (.cond (.tmp 21) b_spec_MachineOk_3 .skip) := goEq rfl
noncomputable def b_spec_MachineOk_5 : PC := (.seq (.ops 7 r_spec_MachineOk_6) b_spec_MachineOk_4)
@[go_sem] theorem b_spec_MachineOk_5_eq : GoEq CC DD b_spec_MachineOk_5 (.seq (.ops 7 r_spec_MachineOk_6) b_spec_MachineOk_4) := goEq rfl
noncomputable def b_spec_MachineOk_6 : PC := (.seq (.block 1 b_spec_MachineOk_5) (.ops 3 r_spec_MachineOk_8))
@[go_sem] theorem b_spec_MachineOk_6_eq : GoEq CC DD b_spec_MachineOk_6 (.seq (.block 1 b_spec_MachineOk_5) (.ops 3 r_spec_MachineOk_8)) := goEq rfl
noncomputable def b_spec_MachineOk_7 : PC := (.seq (.seq (.ops 3 r_spec_MachineOk_5) b_spec_MachineOk_2) b_spec_MachineOk_6)
@[go_sem] theorem b_spec_MachineOk_7_eq : GoEq CC DD b_spec_MachineOk_7 (.seq (.seq (.ops 3 r_spec_MachineOk_5) b_spec_MachineOk_2) b_spec_MachineOk_6) := goEq rfl
noncomputable def b_spec_MachineOk_8 : PC := (.loop b_spec_MachineOk_7)
@[go_sem] theorem b_spec_MachineOk_8_eq : GoEq CC DD b_spec_MachineOk_8 (.loop b_spec_MachineOk_7) := goEq rfl
noncomputable def b_spec_MachineOk_9 : PC := (.block 0 b_spec_MachineOk_8)
@[go_sem] theorem b_spec_MachineOk_9_eq : GoEq CC DD b_spec_MachineOk_9 (.block 0 b_spec_MachineOk_8) := goEq rfl
noncomputable def b_spec_MachineOk_10 : PC := (.seq (.ops 17 r_spec_MachineOk_9) .ret)
@[go_sem] theorem b_spec_MachineOk_10_eq : GoEq CC DD b_spec_MachineOk_10 (.seq (.ops 17 r_spec_MachineOk_9) .ret) := goEq rfl
noncomputable def b_spec_MachineOk_11 : PC := (.seq (.seq (.ops 1 r_spec_MachineOk_4) b_spec_MachineOk_9) b_spec_MachineOk_10)
@[go_sem] theorem b_spec_MachineOk_11_eq : GoEq CC DD b_spec_MachineOk_11 (.seq (.seq (.ops 1 r_spec_MachineOk_4) b_spec_MachineOk_9) b_spec_MachineOk_10) := goEq rfl
noncomputable def b_spec_MachineOk_12 : PC := (.seq (.seq (.ops 3 r_spec_MachineOk_2) b_spec_MachineOk_1) b_spec_MachineOk_11)
@[go_sem] theorem b_spec_MachineOk_12_eq : GoEq CC DD b_spec_MachineOk_12 (.seq (.seq (.ops 3 r_spec_MachineOk_2) b_spec_MachineOk_1) b_spec_MachineOk_11) := goEq rfl
noncomputable def b_spec_MachineOk_13 : PC := (.seq (.ops 3 r_spec_MachineOk_1) b_spec_MachineOk_12)
@[go_sem] theorem b_spec_MachineOk_13_eq : GoEq CC DD b_spec_MachineOk_13 (.seq (.ops 3 r_spec_MachineOk_1) b_spec_MachineOk_12) := goEq rfl
noncomputable def c_spec_MachineOk : PC :=
  (.seq (.ops 1 r_spec_MachineOk_0) b_spec_MachineOk_13)
theorem res_spec_MachineOk : Try.f25.results.toList = [(ResultVar.tmp 2)] := rfl
theorem c_spec_MachineOk_ok : prep ((Try.f25.body).getD .skip) = some c_spec_MachineOk := by kernel_rfl
noncomputable def r_laws_toStepS_0 : List POp := regAt Try.f26 0
@[go_sem] theorem r_laws_toStepS_0_eq : OpEq CC DD r_laws_toStepS_0 [
  ⟨(some 2), none, (.assign (.const (.slice none 0 0)))⟩] := opEq (by kernel_rfl)
noncomputable def r_laws_toStepS_1 : List POp := regAt Try.f26 1
@[go_sem] theorem r_laws_toStepS_1_eq : OpEq CC DD r_laws_toStepS_1 [
  ⟨(some 5), none, (.move (.tmp 0))⟩,
  ⟨(some 6), none, (.call { callee := (.builtin .len), args := #[(.tmp 5)], argTypes := #[36] })⟩,
  ⟨(some 7), none, (.makeSlice 39 (.tmp 6) (.tmp 6))⟩,
  ⟨(some 3), none, (.assign (.tmp 7))⟩] := opEq (by kernel_rfl)
noncomputable def r_laws_toStepS_2 : List POp := regAt Try.f26 2
@[go_sem] theorem r_laws_toStepS_2_eq : OpEq CC DD r_laws_toStepS_2 [
  ⟨(some 4), none, (.assign (.const (.int .i64 0)))⟩] := opEq (by kernel_rfl)
noncomputable def r_laws_toStepS_3 : List POp := regAt Try.f26 3
@[go_sem] theorem r_laws_toStepS_3_eq : OpEq CC DD r_laws_toStepS_3 [
  ⟨(some 8), none, (.move (.tmp 4))⟩,
  ⟨(some 9), none, (.move (.tmp 0))⟩,
  ⟨(some 10), none, (.call { callee := (.builtin .len), args := #[(.tmp 9)], argTypes := #[36] })⟩,
  ⟨(some 11), none, (.binOp .lss 3 (.tmp 8) (.tmp 10) 3)⟩] := opEq (by kernel_rfl)
noncomputable def r_laws_toStepS_4 : List POp := regAt Try.f26 4
@[go_sem] theorem r_laws_toStepS_4_eq : OpEq CC DD r_laws_toStepS_4 [
  ⟨(some 14), none, (.move (.tmp 3))⟩,
  ⟨(some 15), none, (.move (.tmp 4))⟩,
  ⟨(some 16), none, (.move (.tmp 0))⟩,
  ⟨(some 17), none, (.move (.tmp 4))⟩,
  ⟨(some 18), none, (.indexAddr 36 (.tmp 16) (.tmp 17))⟩,
  ⟨(some 19), none, (.load 23 (.tmp 18))⟩,
  ⟨(some 20), none, (.call { callee := (.value (.func 15)), args := #[(.tmp 19)], argTypes := #[23] })⟩,
  ⟨(some 21), none, (.indexAddr 39 (.tmp 14) (.tmp 15))⟩,
  ⟨none, none, (.store 25 (.tmp 21) (.tmp 20))⟩] := opEq (by kernel_rfl)
noncomputable def r_laws_toStepS_5 : List POp := regAt Try.f26 5
@[go_sem] theorem r_laws_toStepS_5_eq : OpEq CC DD r_laws_toStepS_5 [
  ⟨(some 12), none, (.move (.tmp 4))⟩,
  ⟨(some 13), none, (.binOp .add 3 (.tmp 12) (.const (.int .i64 1)) 3)⟩,
  ⟨(some 4), none, (.assign (.tmp 13))⟩] := opEq (by kernel_rfl)
noncomputable def r_laws_toStepS_6 : List POp := regAt Try.f26 6
@[go_sem] theorem r_laws_toStepS_6_eq : OpEq CC DD r_laws_toStepS_6 [
  ⟨(some 22), none, (.move (.tmp 3))⟩,
  ⟨(some 2), none, (.assign (.tmp 22))⟩] := opEq (by kernel_rfl)
noncomputable def b_laws_toStepS_0 : PC := (.cond (.tmp 11) .skip (.exit 0))
@[go_sem] theorem b_laws_toStepS_0_eq : GoEq CC DD b_laws_toStepS_0 (.cond (.tmp 11) .skip (.exit 0)) := goEq rfl
noncomputable def b_laws_toStepS_1 : PC := (.seq (.block 1 (.ops 9 r_laws_toStepS_4)) (.ops 3 r_laws_toStepS_5))
@[go_sem] theorem b_laws_toStepS_1_eq : GoEq CC DD b_laws_toStepS_1 (.seq (.block 1 (.ops 9 r_laws_toStepS_4)) (.ops 3 r_laws_toStepS_5)) := goEq rfl
noncomputable def b_laws_toStepS_2 : PC := (.seq (.seq (.ops 4 r_laws_toStepS_3) b_laws_toStepS_0) b_laws_toStepS_1)
@[go_sem] theorem b_laws_toStepS_2_eq : GoEq CC DD b_laws_toStepS_2 (.seq (.seq (.ops 4 r_laws_toStepS_3) b_laws_toStepS_0) b_laws_toStepS_1) := goEq rfl
noncomputable def b_laws_toStepS_3 : PC := (.loop b_laws_toStepS_2)
@[go_sem] theorem b_laws_toStepS_3_eq : GoEq CC DD b_laws_toStepS_3 (.loop b_laws_toStepS_2) := goEq rfl
noncomputable def b_laws_toStepS_4 : PC := (.block 0 b_laws_toStepS_3)
@[go_sem] theorem b_laws_toStepS_4_eq : GoEq CC DD b_laws_toStepS_4 (.block 0 b_laws_toStepS_3) := goEq rfl
noncomputable def b_laws_toStepS_5 : PC := (.seq (.ops 2 r_laws_toStepS_6) .ret)
@[go_sem] theorem b_laws_toStepS_5_eq : GoEq CC DD b_laws_toStepS_5 (.seq (.ops 2 r_laws_toStepS_6) .ret) := goEq rfl
noncomputable def b_laws_toStepS_6 : PC := (.seq (.seq (.ops 1 r_laws_toStepS_2) b_laws_toStepS_4) b_laws_toStepS_5)
@[go_sem] theorem b_laws_toStepS_6_eq : GoEq CC DD b_laws_toStepS_6 (.seq (.seq (.ops 1 r_laws_toStepS_2) b_laws_toStepS_4) b_laws_toStepS_5) := goEq rfl
noncomputable def b_laws_toStepS_7 : PC := (.seq (.ops 4 r_laws_toStepS_1) b_laws_toStepS_6)
@[go_sem] theorem b_laws_toStepS_7_eq : GoEq CC DD b_laws_toStepS_7 (.seq (.ops 4 r_laws_toStepS_1) b_laws_toStepS_6) := goEq rfl
noncomputable def c_laws_toStepS : PC :=
  (.seq (.ops 1 r_laws_toStepS_0) b_laws_toStepS_7)
theorem res_laws_toStepS : Try.f26.results.toList = [(ResultVar.tmp 2)] := rfl
theorem c_laws_toStepS_ok : prep ((Try.f26.body).getD .skip) = some c_laws_toStepS := by kernel_rfl
noncomputable def r_impl_MachineOk_0 : List POp := regAt Try.f27 0
@[go_sem] theorem r_impl_MachineOk_0_eq : OpEq CC DD r_impl_MachineOk_0 [
  ⟨(some 1), none, (.box 39 (.tmp 0))⟩,
  ⟨(some 2), none, (.assign (.const (.bool false)))⟩] := opEq (by kernel_rfl)
noncomputable def r_impl_MachineOk_1 : List POp := regAt Try.f27 1
@[go_sem] theorem r_impl_MachineOk_1_eq : OpEq CC DD r_impl_MachineOk_1 [
  ⟨(some 4), none, (.load 39 (.tmp 1))⟩,
  ⟨(some 5), none, (.call { callee := (.builtin .len), args := #[(.tmp 4)], argTypes := #[39] })⟩,
  ⟨(some 6), none, (.call { callee := (.value (.func 67)), args := #[(.tmp 5), (.const (.int .i64 1)), (.const (.int .i64 900))], argTypes := #[3, 3, 3] })⟩,
  ⟨(some 7), none, (.unOp .not 4 (.tmp 6))⟩,
  ⟨(some 8), none, (.move (.tmp 7))⟩,
  ⟨(some 9), (some (8, false)), (.load 39 (.tmp 1))⟩,
  ⟨(some 10), (some (8, false)), (.makeFunc (.func 75) #[] #[(.tmp 1)])⟩,
  ⟨(some 11), (some (8, false)), (.call { callee := (.value (.func 74)), args := #[(.tmp 9), (.tmp 10)], argTypes := #[39, 96] })⟩,
  ⟨(some 12), none, (.pick (.tmp 8) (.const (.bool true)) (.tmp 11))⟩] := opEq (by kernel_rfl)
noncomputable def r_impl_MachineOk_2 : List POp := regAt Try.f27 2
@[go_sem] theorem r_impl_MachineOk_2_eq : OpEq CC DD r_impl_MachineOk_2 [
  ⟨(some 2), none, (.assign (.const (.bool false)))⟩] := opEq (by kernel_rfl)
noncomputable def r_impl_MachineOk_3 : List POp := regAt Try.f27 3
@[go_sem] theorem r_impl_MachineOk_3_eq : OpEq CC DD r_impl_MachineOk_3 [
  ⟨(some 13), none, (.load 39 (.tmp 1))⟩,
  ⟨(some 14), none, (.load 39 (.tmp 1))⟩,
  ⟨(some 15), none, (.call { callee := (.builtin .len), args := #[(.tmp 14)], argTypes := #[39] })⟩,
  ⟨(some 16), none, (.binOp .sub 3 (.tmp 15) (.const (.int .i64 1)) 3)⟩,
  ⟨(some 17), none, (.indexAddr 39 (.tmp 13) (.tmp 16))⟩,
  ⟨(some 18), none, (.fieldAddr 25 (.tmp 17) 0)⟩,
  ⟨(some 19), none, (.load 3 (.tmp 18))⟩,
  ⟨(some 3), none, (.assign (.tmp 19))⟩] := opEq (by kernel_rfl)
noncomputable def r_impl_MachineOk_4 : List POp := regAt Try.f27 4
@[go_sem] theorem r_impl_MachineOk_4_eq : OpEq CC DD r_impl_MachineOk_4 [
  ⟨(some 20), none, (.move (.tmp 3))⟩,
  ⟨(some 21), none, (.binOp .eql 3 (.tmp 20) (.const (.int .i64 9)) 3)⟩,
  ⟨(some 22), none, (.move (.tmp 21))⟩,
  ⟨(some 23), (some (22, false)), (.move (.tmp 3))⟩,
  ⟨(some 24), (some (22, false)), (.binOp .eql 3 (.tmp 23) (.const (.int .i64 11)) 3)⟩,
  ⟨(some 25), none, (.pick (.tmp 22) (.const (.bool true)) (.tmp 24))⟩,
  ⟨(some 2), none, (.assign (.tmp 25))⟩] := opEq (by kernel_rfl)
noncomputable def b_impl_MachineOk_0 : PC := (.seq (.ops 1 r_impl_MachineOk_2) .ret)
@[go_sem] theorem b_impl_MachineOk_0_eq : GoEq CC DD b_impl_MachineOk_0 (.seq (.ops 1 r_impl_MachineOk_2) .ret) := goEq rfl
noncomputable def b_impl_MachineOk_1 : PC := (.cond (.tmp 12) b_impl_MachineOk_0 .skip)
@[go_sem] theorem b_impl_MachineOk_1_eq : GoEq CC DD b_impl_MachineOk_1 (.cond (.tmp 12) b_impl_MachineOk_0 .skip) := goEq rfl
noncomputable def b_impl_MachineOk_2 : PC := (.seq (.ops 7 r_impl_MachineOk_4) .ret)
@[go_sem] theorem b_impl_MachineOk_2_eq : GoEq CC DD b_impl_MachineOk_2 (.seq (.ops 7 r_impl_MachineOk_4) .ret) := goEq rfl
noncomputable def b_impl_MachineOk_3 : PC := (.seq (.ops 8 r_impl_MachineOk_3) b_impl_MachineOk_2)
@[go_sem] theorem b_impl_MachineOk_3_eq : GoEq CC DD b_impl_MachineOk_3 (.seq (.ops 8 r_impl_MachineOk_3) b_impl_MachineOk_2) := goEq rfl
noncomputable def b_impl_MachineOk_4 : PC := (.seq (.seq (.ops 9 r_impl_MachineOk_1) b_impl_MachineOk_1) b_impl_MachineOk_3)
@[go_sem] theorem b_impl_MachineOk_4_eq : GoEq CC DD b_impl_MachineOk_4 (.seq (.seq (.ops 9 r_impl_MachineOk_1) b_impl_MachineOk_1) b_impl_MachineOk_3) := goEq rfl
noncomputable def c_impl_MachineOk : PC :=
  (.seq (.ops 2 r_impl_MachineOk_0) b_impl_MachineOk_4)
theorem res_impl_MachineOk : Try.f27.results.toList = [(ResultVar.tmp 2)] := rfl
theorem c_impl_MachineOk_ok : prep ((Try.f27.body).getD .skip) = some c_impl_MachineOk := by kernel_rfl
noncomputable def r_laws_eqStepS_0 : List POp := regAt Try.f28 0
@[go_sem] theorem r_laws_eqStepS_0_eq : OpEq CC DD r_laws_eqStepS_0 [
  ⟨(some 4), none, (.assign (.const (.bool false)))⟩] := opEq (by kernel_rfl)
noncomputable def r_laws_eqStepS_1 : List POp := regAt Try.f28 1
@[go_sem] theorem r_laws_eqStepS_1_eq : OpEq CC DD r_laws_eqStepS_1 [
  ⟨(some 6), none, (.move (.tmp 0))⟩,
  ⟨(some 7), none, (.call { callee := (.builtin .len), args := #[(.tmp 6)], argTypes := #[39] })⟩,
  ⟨(some 8), none, (.move (.tmp 1))⟩,
  ⟨(some 9), none, (.call { callee := (.builtin .len), args := #[(.tmp 8)], argTypes := #[39] })⟩,
  ⟨(some 10), none, (.binOp .neq 3 (.tmp 7) (.tmp 9) 3)⟩] := opEq (by kernel_rfl)
noncomputable def r_laws_eqStepS_2 : List POp := regAt Try.f28 2
@[go_sem] theorem r_laws_eqStepS_2_eq : OpEq CC DD r_laws_eqStepS_2 [
  ⟨(some 4), none, (.assign (.const (.bool false)))⟩] := opEq (by kernel_rfl)
noncomputable def r_laws_eqStepS_3 : List POp := regAt Try.f28 3
@[go_sem] theorem r_laws_eqStepS_3_eq : OpEq CC DD r_laws_eqStepS_3 [
  ⟨(some 5), none, (.assign (.const (.int .i64 0)))⟩] := opEq (by kernel_rfl)
noncomputable def r_laws_eqStepS_4 : List POp := regAt Try.f28 4
@[go_sem] theorem r_laws_eqStepS_4_eq : OpEq CC DD r_laws_eqStepS_4 [
  ⟨(some 11), none, (.move (.tmp 5))⟩,
  ⟨(some 12), none, (.move (.tmp 0))⟩,
  ⟨(some 13), none, (.call { callee := (.builtin .len), args := #[(.tmp 12)], argTypes := #[39] })⟩,
  ⟨(some 14), none, (.binOp .lss 3 (.tmp 11) (.tmp 13) 3)⟩] := opEq (by kernel_rfl)
noncomputable def d_laws_eqStepS_5 : Array Oper := drawAt Try.f28 0
theorem d_laws_eqStepS_5_go {Q : Ex → S → Prop} {k : List Fr} {s : S} (h : OpG Γ E (TC Γ CC false (s.h.next + 10)) DD (Done Γ E CC DD Q k) s.h.next 0 [
  ⟨(some 17), none, (.move (.tmp 0))⟩,
  ⟨(some 18), none, (.move (.tmp 5))⟩,
  ⟨(some 19), none, (.indexAddr 39 (.tmp 17) (.tmp 18))⟩,
  ⟨(some 20), none, (.load 25 (.tmp 19))⟩,
  ⟨(some 21), none, (.move (.tmp 1))⟩,
  ⟨(some 22), none, (.move (.tmp 5))⟩,
  ⟨(some 23), none, (.indexAddr 39 (.tmp 21) (.tmp 22))⟩,
  ⟨(some 24), none, (.load 25 (.tmp 23))⟩,
  ⟨(some 25), none, (.call { callee := (.value (.func 76)), args := #[(.tmp 20), (.tmp 24)], argTypes := #[25, 25] })⟩,
  ⟨(some 26), none, (.unOp .not 4 (.tmp 25))⟩] [] (s.hp (s.h.cl 10))) : Go Γ E CC DD Q (.draw d_laws_eqStepS_5) k s :=
  go_text (l0 := (prepO d_laws_eqStepS_5 d_laws_eqStepS_5.toList).getD []) [0, 0, 3, 7, 0, 0, 48, 112, 255, 511] [0, 0, 0, 1, 0, 0, 0, 1, 5, 0] false _ (by kernel_rfl) (by kernel_rfl) (by kernel_rfl) (by kernel_rfl) (by kernel_rfl) h
noncomputable def r_laws_eqStepS_6 : List POp := regAt Try.f28 5
@[go_sem] theorem r_laws_eqStepS_6_eq : OpEq CC DD r_laws_eqStepS_6 [
  ⟨(some 4), none, (.assign (.const (.bool false)))⟩] := opEq (by kernel_rfl)
noncomputable def r_laws_eqStepS_7 : List POp := regAt Try.f28 6
@[go_sem] theorem r_laws_eqStepS_7_eq : OpEq CC DD r_laws_eqStepS_7 [
  ⟨(some 15), none, (.move (.tmp 5))⟩,
  ⟨(some 16), none, (.binOp .add 3 (.tmp 15) (.const (.int .i64 1)) 3)⟩,
  ⟨(some 5), none, (.assign (.tmp 16))⟩] := opEq (by kernel_rfl)
noncomputable def r_laws_eqStepS_8 : List POp := regAt Try.f28 7
@[go_sem] theorem r_laws_eqStepS_8_eq : OpEq CC DD r_laws_eqStepS_8 [
  ⟨(some 4), none, (.assign (.const (.bool true)))⟩] := opEq (by kernel_rfl)
noncomputable def b_laws_eqStepS_0 : PC := (.seq (.ops 1 r_laws_eqStepS_2) .ret)
@[go_sem] theorem b_laws_eqStepS_0_eq : GoEq CC DD b_laws_eqStepS_0 (.seq (.ops 1 r_laws_eqStepS_2) .ret) := goEq rfl
noncomputable def b_laws_eqStepS_1 : PC := (.cond (.tmp 10) b_laws_eqStepS_0 .skip)
@[go_sem] theorem b_laws_eqStepS_1_eq : GoEq CC DD b_laws_eqStepS_1 (.cond (.tmp 10) b_laws_eqStepS_0 .skip) := goEq rfl
noncomputable def b_laws_eqStepS_2 : PC := (.cond (.tmp 14) .skip (.exit 0))
@[go_sem] theorem b_laws_eqStepS_2_eq : GoEq CC DD b_laws_eqStepS_2 (.cond (.tmp 14) .skip (.exit 0)) := goEq rfl
noncomputable def b_laws_eqStepS_3 : PC := (.seq (.ops 1 r_laws_eqStepS_6) .ret)
@[go_sem] theorem b_laws_eqStepS_3_eq : GoEq CC DD b_laws_eqStepS_3 (.seq (.ops 1 r_laws_eqStepS_6) .ret) := goEq rfl
noncomputable def b_laws_eqStepS_4 : PC := (.cond (.tmp 26) b_laws_eqStepS_3 .skip)
@[go_sem] theorem b_laws_eqStepS_4_eq : GoEq CC DD b_laws_eqStepS_4 (.cond (.tmp 26) b_laws_eqStepS_3 .skip) := goEq rfl
noncomputable def b_laws_eqStepS_5 : PC := (.seq (.draw d_laws_eqStepS_5) b_laws_eqStepS_4)
@[go_sem] theorem b_laws_eqStepS_5_eq : GoEq CC DD b_laws_eqStepS_5 (.seq (.draw d_laws_eqStepS_5) b_laws_eqStepS_4) := goEq rfl
noncomputable def b_laws_eqStepS_6 : PC := (.seq (.block 1 b_laws_eqStepS_5) (.ops 3 r_laws_eqStepS_7))
@[go_sem] theorem b_laws_eqStepS_6_eq : GoEq CC DD b_laws_eqStepS_6 (.seq (.block 1 b_laws_eqStepS_5) (.ops 3 r_laws_eqStepS_7)) := goEq rfl
noncomputable def b_laws_eqStepS_7 : PC := (.seq (.seq (.ops 4 r_laws_eqStepS_4) b_laws_eqStepS_2) b_laws_eqStepS_6)
@[go_sem] theorem b_laws_eqStepS_7_eq : GoEq CC DD b_laws_eqStepS_7 (.seq (.seq (.ops 4 r_laws_eqStepS_4) b_laws_eqStepS_2) b_laws_eqStepS_6) := goEq rfl
noncomputable def b_laws_eqStepS_8 : PC := (.loop b_laws_eqStepS_7)
@[go_sem] theorem b_laws_eqStepS_8_eq : GoEq CC DD b_laws_eqStepS_8 (.loop b_laws_eqStepS_7) := goEq rfl
noncomputable def b_laws_eqStepS_9 : PC := (.block 0 b_laws_eqStepS_8)
@[go_sem] theorem b_laws_eqStepS_9_eq : GoEq CC DD b_laws_eqStepS_9 (.block 0 b_laws_eqStepS_8) := goEq rfl
noncomputable def b_laws_eqStepS_10 : PC := (.seq (.ops 1 r_laws_eqStepS_8) .ret)
@[go_sem] theorem b_laws_eqStepS_10_eq : GoEq CC DD b_laws_eqStepS_10 (.seq (.ops 1 r_laws_eqStepS_8) .ret) := goEq rfl
noncomputable def b_laws_eqStepS_11 : PC := (.seq (.seq (.ops 1 r_laws_eqStepS_3) b_laws_eqStepS_9) b_laws_eqStepS_10)
@[go_sem] theorem b_laws_eqStepS_11_eq : GoEq CC DD b_laws_eqStepS_11 (.seq (.seq (.ops 1 r_laws_eqStepS_3) b_laws_eqStepS_9) b_laws_eqStepS_10) := goEq rfl
noncomputable def b_laws_eqStepS_12 : PC := (.seq (.seq (.ops 5 r_laws_eqStepS_1) b_laws_eqStepS_1) b_laws_eqStepS_11)
@[go_sem] theorem b_laws_eqStepS_12_eq : GoEq CC DD b_laws_eqStepS_12 (.seq (.seq (.ops 5 r_laws_eqStepS_1) b_laws_eqStepS_1) b_laws_eqStepS_11) := goEq rfl
noncomputable def c_laws_eqStepS : PC :=
  (.seq (.ops 1 r_laws_eqStepS_0) b_laws_eqStepS_12)
theorem res_laws_eqStepS : Try.f28.results.toList = [(ResultVar.tmp 4)] := rfl
theorem c_laws_eqStepS_ok : prep ((Try.f28.body).getD .skip) = some c_laws_eqStepS := by kernel_rfl
noncomputable def r_laws_markStepS_0 : List POp := regAt Try.f35 0
@[go_sem] theorem r_laws_markStepS_0_eq : OpEq CC DD r_laws_markStepS_0 [
  ⟨(some 4), none, (.assign (.const (.int .i64 0)))⟩] := opEq (by kernel_rfl)
noncomputable def r_laws_markStepS_1 : List POp := regAt Try.f35 1
@[go_sem] theorem r_laws_markStepS_1_eq : OpEq CC DD r_laws_markStepS_1 [
  ⟨(some 5), none, (.assign (.const (.int .i64 0)))⟩] := opEq (by kernel_rfl)
noncomputable def r_laws_markStepS_2 : List POp := regAt Try.f35 2
@[go_sem] theorem r_laws_markStepS_2_eq : OpEq CC DD r_laws_markStepS_2 [
  ⟨(some 6), none, (.move (.tmp 5))⟩,
  ⟨(some 7), none, (.move (.tmp 0))⟩,
  ⟨(some 8), none, (.call { callee := (.builtin .len), args := #[(.tmp 7)], argTypes := #[39] })⟩,
  ⟨(some 9), none, (.binOp .lss 3 (.tmp 6) (.tmp 8) 3)⟩] := opEq (by kernel_rfl)
noncomputable def r_laws_markStepS_3 : List POp := regAt Try.f35 3
@[go_sem] theorem r_laws_markStepS_3_eq : OpEq CC DD r_laws_markStepS_3 [
  ⟨(some 12), none, (.move (.tmp 0))⟩,
  ⟨(some 13), none, (.move (.tmp 5))⟩,
  ⟨(some 14), none, (.move (.tmp 1))⟩,
  ⟨(some 15), none, (.indexAddr 39 (.tmp 12) (.tmp 13))⟩,
  ⟨(some 16), none, (.fieldAddr 25 (.tmp 15) 0)⟩,
  ⟨none, none, (.store 3 (.tmp 16) (.tmp 14))⟩] := opEq (by kernel_rfl)
noncomputable def r_laws_markStepS_4 : List POp := regAt Try.f35 4
@[go_sem] theorem r_laws_markStepS_4_eq : OpEq CC DD r_laws_markStepS_4 [
  ⟨(some 17), none, (.move (.tmp 1))⟩,
  ⟨(some 18), none, (.binOp .add 3 (.tmp 17) (.const (.int .i64 1)) 3)⟩,
  ⟨(some 1), none, (.assign (.tmp 18))⟩] := opEq (by kernel_rfl)
noncomputable def r_laws_markStepS_5 : List POp := regAt Try.f35 5
@[go_sem] theorem r_laws_markStepS_5_eq : OpEq CC DD r_laws_markStepS_5 [
  ⟨(some 19), none, (.move (.tmp 0))⟩,
  ⟨(some 20), none, (.move (.tmp 5))⟩,
  ⟨(some 21), none, (.move (.tmp 1))⟩,
  ⟨(some 22), none, (.indexAddr 39 (.tmp 19) (.tmp 20))⟩,
  ⟨(some 23), none, (.fieldAddr 25 (.tmp 22) 1)⟩,
  ⟨none, none, (.store 3 (.tmp 23) (.tmp 21))⟩] := opEq (by kernel_rfl)
noncomputable def r_laws_markStepS_6 : List POp := regAt Try.f35 6
@[go_sem] theorem r_laws_markStepS_6_eq : OpEq CC DD r_laws_markStepS_6 [
  ⟨(some 24), none, (.move (.tmp 1))⟩,
  ⟨(some 25), none, (.binOp .add 3 (.tmp 24) (.const (.int .i64 1)) 3)⟩,
  ⟨(some 1), none, (.assign (.tmp 25))⟩] := opEq (by kernel_rfl)
noncomputable def r_laws_markStepS_7 : List POp := regAt Try.f35 7
@[go_sem] theorem r_laws_markStepS_7_eq : OpEq CC DD r_laws_markStepS_7 [
  ⟨(some 26), none, (.move (.tmp 0))⟩,
  ⟨(some 27), none, (.move (.tmp 5))⟩,
  ⟨(some 28), none, (.move (.tmp 1))⟩,
  ⟨(some 29), none, (.indexAddr 39 (.tmp 26) (.tmp 27))⟩,
  ⟨(some 30), none, (.fieldAddr 25 (.tmp 29) 2)⟩,
  ⟨none, none, (.store 3 (.tmp 30) (.tmp 28))⟩] := opEq (by kernel_rfl)
noncomputable def r_laws_markStepS_8 : List POp := regAt Try.f35 8
@[go_sem] theorem r_laws_markStepS_8_eq : OpEq CC DD r_laws_markStepS_8 [
  ⟨(some 31), none, (.move (.tmp 1))⟩,
  ⟨(some 32), none, (.binOp .add 3 (.tmp 31) (.const (.int .i64 1)) 3)⟩,
  ⟨(some 1), none, (.assign (.tmp 32))⟩] := opEq (by kernel_rfl)
noncomputable def r_laws_markStepS_9 : List POp := regAt Try.f35 9
@[go_sem] theorem r_laws_markStepS_9_eq : OpEq CC DD r_laws_markStepS_9 [
  ⟨(some 33), none, (.move (.tmp 0))⟩,
  ⟨(some 34), none, (.move (.tmp 5))⟩,
  ⟨(some 35), none, (.move (.tmp 1))⟩,
  ⟨(some 36), none, (.indexAddr 39 (.tmp 33) (.tmp 34))⟩,
  ⟨(some 37), none, (.fieldAddr 25 (.tmp 36) 3)⟩,
  ⟨none, none, (.store 3 (.tmp 37) (.tmp 35))⟩] := opEq (by kernel_rfl)
noncomputable def r_laws_markStepS_10 : List POp := regAt Try.f35 10
@[go_sem] theorem r_laws_markStepS_10_eq : OpEq CC DD r_laws_markStepS_10 [
  ⟨(some 38), none, (.move (.tmp 1))⟩,
  ⟨(some 39), none, (.binOp .add 3 (.tmp 38) (.const (.int .i64 1)) 3)⟩,
  ⟨(some 1), none, (.assign (.tmp 39))⟩] := opEq (by kernel_rfl)
noncomputable def r_laws_markStepS_11 : List POp := regAt Try.f35 11
@[go_sem] theorem r_laws_markStepS_11_eq : OpEq CC DD r_laws_markStepS_11 [
  ⟨(some 40), none, (.move (.tmp 0))⟩,
  ⟨(some 41), none, (.move (.tmp 5))⟩,
  ⟨(some 42), none, (.move (.tmp 1))⟩,
  ⟨(some 43), none, (.indexAddr 39 (.tmp 40) (.tmp 41))⟩,
  ⟨(some 44), none, (.fieldAddr 25 (.tmp 43) 4)⟩,
  ⟨none, none, (.store 3 (.tmp 44) (.tmp 42))⟩] := opEq (by kernel_rfl)
noncomputable def r_laws_markStepS_12 : List POp := regAt Try.f35 12
@[go_sem] theorem r_laws_markStepS_12_eq : OpEq CC DD r_laws_markStepS_12 [
  ⟨(some 45), none, (.move (.tmp 1))⟩,
  ⟨(some 46), none, (.binOp .add 3 (.tmp 45) (.const (.int .i64 1)) 3)⟩,
  ⟨(some 1), none, (.assign (.tmp 46))⟩] := opEq (by kernel_rfl)
noncomputable def r_laws_markStepS_13 : List POp := regAt Try.f35 13
@[go_sem] theorem r_laws_markStepS_13_eq : OpEq CC DD r_laws_markStepS_13 [
  ⟨(some 10), none, (.move (.tmp 5))⟩,
  ⟨(some 11), none, (.binOp .add 3 (.tmp 10) (.const (.int .i64 1)) 3)⟩,
  ⟨(some 5), none, (.assign (.tmp 11))⟩] := opEq (by kernel_rfl)
noncomputable def r_laws_markStepS_14 : List POp := regAt Try.f35 14
@[go_sem] theorem r_laws_markStepS_14_eq : OpEq CC DD r_laws_markStepS_14 [
  ⟨(some 47), none, (.move (.tmp 1))⟩,
  ⟨(some 4), none, (.assign (.tmp 47))⟩] := opEq (by kernel_rfl)
noncomputable def b_laws_markStepS_0 : PC := (.cond (.tmp 9) .skip (.exit 0))
@[go_sem] theorem b_laws_markStepS_0_eq : GoEq CC DD b_laws_markStepS_0 (.cond (.tmp 9) .skip (.exit 0)) := goEq rfl
noncomputable def b_laws_markStepS_1 : PC := (.seq (.ops 6 r_laws_markStepS_11) (.ops 3 r_laws_markStepS_12))
@[go_sem] theorem b_laws_markStepS_1_eq : GoEq CC DD b_laws_markStepS_1 (.seq (.ops 6 r_laws_markStepS_11) (.ops 3 r_laws_markStepS_12)) := goEq rfl
noncomputable def b_laws_markStepS_2 : PC := (.seq (.ops 3 r_laws_markStepS_10) b_laws_markStepS_1)
@[go_sem] theorem b_laws_markStepS_2_eq : GoEq CC DD b_laws_markStepS_2 (.seq (.ops 3 r_laws_markStepS_10) b_laws_markStepS_1) := goEq rfl
noncomputable def b_laws_markStepS_3 : PC := (.seq (.ops 6 r_laws_markStepS_9) b_laws_markStepS_2)
@[go_sem] theorem b_laws_markStepS_3_eq : GoEq CC DD b_laws_markStepS_3 (.seq (.ops 6 r_laws_markStepS_9) b_laws_markStepS_2) := goEq rfl
noncomputable def b_laws_markStepS_4 : PC := (.seq (.ops 3 r_laws_markStepS_8) b_laws_markStepS_3)
@[go_sem] theorem b_laws_markStepS_4_eq : GoEq CC DD b_laws_markStepS_4 (.seq (.ops 3 r_laws_markStepS_8) b_laws_markStepS_3) := goEq rfl
noncomputable def b_laws_markStepS_5 : PC := (.seq (.ops 6 r_laws_markStepS_7) b_laws_markStepS_4)
@[go_sem] theorem b_laws_markStepS_5_eq : GoEq CC DD b_laws_markStepS_5 (.seq (.ops 6 r_laws_markStepS_7) b_laws_markStepS_4) := goEq rfl
noncomputable def b_laws_markStepS_6 : PC := (.seq (.ops 3 r_laws_markStepS_6) b_laws_markStepS_5)
@[go_sem] theorem b_laws_markStepS_6_eq : GoEq CC DD b_laws_markStepS_6 (.seq (.ops 3 r_laws_markStepS_6) b_laws_markStepS_5) := goEq rfl
noncomputable def b_laws_markStepS_7 : PC := (.seq (.ops 6 r_laws_markStepS_5) b_laws_markStepS_6)
@[go_sem] theorem b_laws_markStepS_7_eq : GoEq CC DD b_laws_markStepS_7 (.seq (.ops 6 r_laws_markStepS_5) b_laws_markStepS_6) := goEq rfl
noncomputable def b_laws_markStepS_8 : PC := (.seq (.ops 3 r_laws_markStepS_4) b_laws_markStepS_7)
@[go_sem] theorem b_laws_markStepS_8_eq : GoEq CC DD b_laws_markStepS_8 (.seq (.ops 3 r_laws_markStepS_4) b_laws_markStepS_7) := goEq rfl
noncomputable def b_laws_markStepS_9 : PC := (.seq (.ops 6 r_laws_markStepS_3) b_laws_markStepS_8)
@[go_sem] theorem b_laws_markStepS_9_eq : GoEq CC DD b_laws_markStepS_9 (.seq (.ops 6 r_laws_markStepS_3) b_laws_markStepS_8) := goEq rfl
noncomputable def b_laws_markStepS_10 : PC := (.seq (.block 1 b_laws_markStepS_9) (.ops 3 r_laws_markStepS_13))
@[go_sem] theorem b_laws_markStepS_10_eq : GoEq CC DD b_laws_markStepS_10 (.seq (.block 1 b_laws_markStepS_9) (.ops 3 r_laws_markStepS_13)) := goEq rfl
noncomputable def b_laws_markStepS_11 : PC := (.seq (.seq (.ops 4 r_laws_markStepS_2) b_laws_markStepS_0) b_laws_markStepS_10)
@[go_sem] theorem b_laws_markStepS_11_eq : GoEq CC DD b_laws_markStepS_11 (.seq (.seq (.ops 4 r_laws_markStepS_2) b_laws_markStepS_0) b_laws_markStepS_10) := goEq rfl
noncomputable def b_laws_markStepS_12 : PC := (.loop b_laws_markStepS_11)
@[go_sem] theorem b_laws_markStepS_12_eq : GoEq CC DD b_laws_markStepS_12 (.loop b_laws_markStepS_11) := goEq rfl
noncomputable def b_laws_markStepS_13 : PC := (.block 0 b_laws_markStepS_12)
@[go_sem] theorem b_laws_markStepS_13_eq : GoEq CC DD b_laws_markStepS_13 (.block 0 b_laws_markStepS_12) := goEq rfl
noncomputable def b_laws_markStepS_14 : PC := (.seq (.ops 2 r_laws_markStepS_14) .ret)
@[go_sem] theorem b_laws_markStepS_14_eq : GoEq CC DD b_laws_markStepS_14 (.seq (.ops 2 r_laws_markStepS_14) .ret) := goEq rfl
noncomputable def b_laws_markStepS_15 : PC := (.seq (.seq (.ops 1 r_laws_markStepS_1) b_laws_markStepS_13) b_laws_markStepS_14)
@[go_sem] theorem b_laws_markStepS_15_eq : GoEq CC DD b_laws_markStepS_15 (.seq (.seq (.ops 1 r_laws_markStepS_1) b_laws_markStepS_13) b_laws_markStepS_14) := goEq rfl
noncomputable def c_laws_markStepS : PC :=
  (.seq (.ops 1 r_laws_markStepS_0) b_laws_markStepS_15)
theorem res_laws_markStepS : Try.f35.results.toList = [(ResultVar.tmp 4)] := rfl
theorem c_laws_markStepS_ok : prep ((Try.f35.body).getD .skip) = some c_laws_markStepS := by kernel_rfl
noncomputable def r_laws_heldStepS_0 : List POp := regAt Try.f36 0
@[go_sem] theorem r_laws_heldStepS_0_eq : OpEq CC DD r_laws_heldStepS_0 [
  ⟨(some 4), none, (.assign (.const (.int .i64 0)))⟩] := opEq (by kernel_rfl)
noncomputable def r_laws_heldStepS_1 : List POp := regAt Try.f36 1
@[go_sem] theorem r_laws_heldStepS_1_eq : OpEq CC DD r_laws_heldStepS_1 [
  ⟨(some 5), none, (.assign (.const (.int .i64 0)))⟩] := opEq (by kernel_rfl)
noncomputable def r_laws_heldStepS_2 : List POp := regAt Try.f36 2
@[go_sem] theorem r_laws_heldStepS_2_eq : OpEq CC DD r_laws_heldStepS_2 [
  ⟨(some 6), none, (.move (.tmp 5))⟩,
  ⟨(some 7), none, (.move (.tmp 0))⟩,
  ⟨(some 8), none, (.call { callee := (.builtin .len), args := #[(.tmp 7)], argTypes := #[39] })⟩,
  ⟨(some 9), none, (.binOp .lss 3 (.tmp 6) (.tmp 8) 3)⟩] := opEq (by kernel_rfl)
noncomputable def r_laws_heldStepS_3 : List POp := regAt Try.f36 3
@[go_sem] theorem r_laws_heldStepS_3_eq : OpEq CC DD r_laws_heldStepS_3 [
  ⟨(some 12), none, (.move (.tmp 0))⟩,
  ⟨(some 13), none, (.move (.tmp 5))⟩,
  ⟨(some 14), none, (.indexAddr 39 (.tmp 12) (.tmp 13))⟩,
  ⟨(some 15), none, (.fieldAddr 25 (.tmp 14) 0)⟩,
  ⟨(some 16), none, (.load 3 (.tmp 15))⟩,
  ⟨(some 17), none, (.move (.tmp 1))⟩,
  ⟨(some 18), none, (.binOp .neq 3 (.tmp 16) (.tmp 17) 3)⟩] := opEq (by kernel_rfl)
noncomputable def r_laws_heldStepS_4 : List POp := regAt Try.f36 4
@[go_sem] theorem r_laws_heldStepS_4_eq : OpEq CC DD r_laws_heldStepS_4 [
  ⟨(some 4), none, (.assign (.const (.int .i64 (-1))))⟩] := opEq (by kernel_rfl)
noncomputable def r_laws_heldStepS_5 : List POp := regAt Try.f36 5
@[go_sem] theorem r_laws_heldStepS_5_eq : OpEq CC DD r_laws_heldStepS_5 [
  ⟨(some 19), none, (.move (.tmp 1))⟩,
  ⟨(some 20), none, (.binOp .add 3 (.tmp 19) (.const (.int .i64 1)) 3)⟩,
  ⟨(some 1), none, (.assign (.tmp 20))⟩] := opEq (by kernel_rfl)
noncomputable def r_laws_heldStepS_6 : List POp := regAt Try.f36 6
@[go_sem] theorem r_laws_heldStepS_6_eq : OpEq CC DD r_laws_heldStepS_6 [
  ⟨(some 21), none, (.move (.tmp 0))⟩,
  ⟨(some 22), none, (.move (.tmp 5))⟩,
  ⟨(some 23), none, (.indexAddr 39 (.tmp 21) (.tmp 22))⟩,
  ⟨(some 24), none, (.fieldAddr 25 (.tmp 23) 1)⟩,
  ⟨(some 25), none, (.load 3 (.tmp 24))⟩,
  ⟨(some 26), none, (.move (.tmp 1))⟩,
  ⟨(some 27), none, (.binOp .neq 3 (.tmp 25) (.tmp 26) 3)⟩] := opEq (by kernel_rfl)
noncomputable def r_laws_heldStepS_7 : List POp := regAt Try.f36 7
@[go_sem] theorem r_laws_heldStepS_7_eq : OpEq CC DD r_laws_heldStepS_7 [
  ⟨(some 4), none, (.assign (.const (.int .i64 (-1))))⟩] := opEq (by kernel_rfl)
noncomputable def r_laws_heldStepS_8 : List POp := regAt Try.f36 8
@[go_sem] theorem r_laws_heldStepS_8_eq : OpEq CC DD r_laws_heldStepS_8 [
  ⟨(some 28), none, (.move (.tmp 1))⟩,
  ⟨(some 29), none, (.binOp .add 3 (.tmp 28) (.const (.int .i64 1)) 3)⟩,
  ⟨(some 1), none, (.assign (.tmp 29))⟩] := opEq (by kernel_rfl)
noncomputable def r_laws_heldStepS_9 : List POp := regAt Try.f36 9
@[go_sem] theorem r_laws_heldStepS_9_eq : OpEq CC DD r_laws_heldStepS_9 [
  ⟨(some 30), none, (.move (.tmp 0))⟩,
  ⟨(some 31), none, (.move (.tmp 5))⟩,
  ⟨(some 32), none, (.indexAddr 39 (.tmp 30) (.tmp 31))⟩,
  ⟨(some 33), none, (.fieldAddr 25 (.tmp 32) 2)⟩,
  ⟨(some 34), none, (.load 3 (.tmp 33))⟩,
  ⟨(some 35), none, (.move (.tmp 1))⟩,
  ⟨(some 36), none, (.binOp .neq 3 (.tmp 34) (.tmp 35) 3)⟩] := opEq (by kernel_rfl)
noncomputable def r_laws_heldStepS_10 : List POp := regAt Try.f36 10
@[go_sem] theorem r_laws_heldStepS_10_eq : OpEq CC DD r_laws_heldStepS_10 [
  ⟨(some 4), none, (.assign (.const (.int .i64 (-1))))⟩] := opEq (by kernel_rfl)
noncomputable def r_laws_heldStepS_11 : List POp := regAt Try.f36 11
@[go_sem] theorem r_laws_heldStepS_11_eq : OpEq CC DD r_laws_heldStepS_11 [
  ⟨(some 37), none, (.move (.tmp 1))⟩,
  ⟨(some 38), none, (.binOp .add 3 (.tmp 37) (.const (.int .i64 1)) 3)⟩,
  ⟨(some 1), none, (.assign (.tmp 38))⟩] := opEq (by kernel_rfl)
noncomputable def r_laws_heldStepS_12 : List POp := regAt Try.f36 12
@[go_sem] theorem r_laws_heldStepS_12_eq : OpEq CC DD r_laws_heldStepS_12 [
  ⟨(some 39), none, (.move (.tmp 0))⟩,
  ⟨(some 40), none, (.move (.tmp 5))⟩,
  ⟨(some 41), none, (.indexAddr 39 (.tmp 39) (.tmp 40))⟩,
  ⟨(some 42), none, (.fieldAddr 25 (.tmp 41) 3)⟩,
  ⟨(some 43), none, (.load 3 (.tmp 42))⟩,
  ⟨(some 44), none, (.move (.tmp 1))⟩,
  ⟨(some 45), none, (.binOp .neq 3 (.tmp 43) (.tmp 44) 3)⟩] := opEq (by kernel_rfl)
noncomputable def r_laws_heldStepS_13 : List POp := regAt Try.f36 13
@[go_sem] theorem r_laws_heldStepS_13_eq : OpEq CC DD r_laws_heldStepS_13 [
  ⟨(some 4), none, (.assign (.const (.int .i64 (-1))))⟩] := opEq (by kernel_rfl)
noncomputable def r_laws_heldStepS_14 : List POp := regAt Try.f36 14
@[go_sem] theorem r_laws_heldStepS_14_eq : OpEq CC DD r_laws_heldStepS_14 [
  ⟨(some 46), none, (.move (.tmp 1))⟩,
  ⟨(some 47), none, (.binOp .add 3 (.tmp 46) (.const (.int .i64 1)) 3)⟩,
  ⟨(some 1), none, (.assign (.tmp 47))⟩] := opEq (by kernel_rfl)
noncomputable def r_laws_heldStepS_15 : List POp := regAt Try.f36 15
@[go_sem] theorem r_laws_heldStepS_15_eq : OpEq CC DD r_laws_heldStepS_15 [
  ⟨(some 48), none, (.move (.tmp 0))⟩,
  ⟨(some 49), none, (.move (.tmp 5))⟩,
  ⟨(some 50), none, (.indexAddr 39 (.tmp 48) (.tmp 49))⟩,
  ⟨(some 51), none, (.fieldAddr 25 (.tmp 50) 4)⟩,
  ⟨(some 52), none, (.load 3 (.tmp 51))⟩,
  ⟨(some 53), none, (.move (.tmp 1))⟩,
  ⟨(some 54), none, (.binOp .neq 3 (.tmp 52) (.tmp 53) 3)⟩] := opEq (by kernel_rfl)
noncomputable def r_laws_heldStepS_16 : List POp := regAt Try.f36 16
@[go_sem] theorem r_laws_heldStepS_16_eq : OpEq CC DD r_laws_heldStepS_16 [
  ⟨(some 4), none, (.assign (.const (.int .i64 (-1))))⟩] := opEq (by kernel_rfl)
noncomputable def r_laws_heldStepS_17 : List POp := regAt Try.f36 17
@[go_sem] theorem r_laws_heldStepS_17_eq : OpEq CC DD r_laws_heldStepS_17 [
  ⟨(some 55), none, (.move (.tmp 1))⟩,
  ⟨(some 56), none, (.binOp .add 3 (.tmp 55) (.const (.int .i64 1)) 3)⟩,
  ⟨(some 1), none, (.assign (.tmp 56))⟩] := opEq (by kernel_rfl)
noncomputable def r_laws_heldStepS_18 : List POp := regAt Try.f36 18
@[go_sem] theorem r_laws_heldStepS_18_eq : OpEq CC DD r_laws_heldStepS_18 [
  ⟨(some 10), none, (.move (.tmp 5))⟩,
  ⟨(some 11), none, (.binOp .add 3 (.tmp 10) (.const (.int .i64 1)) 3)⟩,
  ⟨(some 5), none, (.assign (.tmp 11))⟩] := opEq (by kernel_rfl)
noncomputable def r_laws_heldStepS_19 : List POp := regAt Try.f36 19
@[go_sem] theorem r_laws_heldStepS_19_eq : OpEq CC DD r_laws_heldStepS_19 [
  ⟨(some 57), none, (.move (.tmp 1))⟩,
  ⟨(some 4), none, (.assign (.tmp 57))⟩] := opEq (by kernel_rfl)
noncomputable def b_laws_heldStepS_0 : PC := (.cond (.tmp 9) .skip (.exit 0))
@[go_sem] theorem b_laws_heldStepS_0_eq : GoEq CC DD b_laws_heldStepS_0 (.cond (.tmp 9) .skip (.exit 0)) := goEq rfl
noncomputable def b_laws_heldStepS_1 : PC := (.seq (.ops 1 r_laws_heldStepS_4) .ret)
@[go_sem] theorem b_laws_heldStepS_1_eq : GoEq CC DD b_laws_heldStepS_1 (.seq (.ops 1 r_laws_heldStepS_4) .ret) := goEq rfl
noncomputable def b_laws_heldStepS_2 : PC := (.cond (.tmp 18) b_laws_heldStepS_1 .skip)
@[go_sem] theorem b_laws_heldStepS_2_eq : GoEq CC DD b_laws_heldStepS_2 (.cond (.tmp 18) b_laws_heldStepS_1 .skip) := goEq rfl
noncomputable def b_laws_heldStepS_3 : PC := (.seq (.ops 1 r_laws_heldStepS_7) .ret)
@[go_sem] theorem b_laws_heldStepS_3_eq : GoEq CC DD b_laws_heldStepS_3 (.seq (.ops 1 r_laws_heldStepS_7) .ret) := goEq rfl
noncomputable def b_laws_heldStepS_4 : PC := (.cond (.tmp 27) b_laws_heldStepS_3 .skip)
@[go_sem] theorem b_laws_heldStepS_4_eq : GoEq CC DD b_laws_heldStepS_4 (.cond (.tmp 27) b_laws_heldStepS_3 .skip) := goEq rfl
noncomputable def b_laws_heldStepS_5 : PC := (.seq (.ops 1 r_laws_heldStepS_10) .ret)
@[go_sem] theorem b_laws_heldStepS_5_eq : GoEq CC DD b_laws_heldStepS_5 (.seq (.ops 1 r_laws_heldStepS_10) .ret) := goEq rfl
noncomputable def b_laws_heldStepS_6 : PC := (.cond (.tmp 36) b_laws_heldStepS_5 .skip)
@[go_sem] theorem b_laws_heldStepS_6_eq : GoEq CC DD b_laws_heldStepS_6 (.cond (.tmp 36) b_laws_heldStepS_5 .skip) := goEq rfl
noncomputable def b_laws_heldStepS_7 : PC := (.seq (.ops 1 r_laws_heldStepS_13) .ret)
@[go_sem] theorem b_laws_heldStepS_7_eq : GoEq CC DD b_laws_heldStepS_7 (.seq (.ops 1 r_laws_heldStepS_13) .ret) := goEq rfl
noncomputable def b_laws_heldStepS_8 : PC := (.cond (.tmp 45) b_laws_heldStepS_7 .skip)
@[go_sem] theorem b_laws_heldStepS_8_eq : GoEq CC DD b_laws_heldStepS_8 (.cond (.tmp 45) b_laws_heldStepS_7 .skip) := goEq rfl
noncomputable def b_laws_heldStepS_9 : PC := (.seq (.ops 1 r_laws_heldStepS_16) .ret)
@[go_sem] theorem b_laws_heldStepS_9_eq : GoEq CC DD b_laws_heldStepS_9 (.seq (.ops 1 r_laws_heldStepS_16) .ret) := goEq rfl
noncomputable def b_laws_heldStepS_10 : PC := (.cond (.tmp 54) b_laws_heldStepS_9 .skip)
@[go_sem] theorem b_laws_heldStepS_10_eq : GoEq CC DD b_laws_heldStepS_10 (.cond (.tmp 54) b_laws_heldStepS_9 .skip) := goEq rfl
noncomputable def b_laws_heldStepS_11 : PC := (.seq (.seq (.ops 7 r_laws_heldStepS_15) b_laws_heldStepS_10) (.ops 3 r_laws_heldStepS_17))
@[go_sem] theorem b_laws_heldStepS_11_eq : GoEq CC DD b_laws_heldStepS_11 (.seq (.seq (.ops 7 r_laws_heldStepS_15) b_laws_heldStepS_10) (.ops 3 r_laws_heldStepS_17)) := goEq rfl
noncomputable def b_laws_heldStepS_12 : PC := (.seq (.ops 3 r_laws_heldStepS_14) b_laws_heldStepS_11)
@[go_sem] theorem b_laws_heldStepS_12_eq : GoEq CC DD b_laws_heldStepS_12 (.seq (.ops 3 r_laws_heldStepS_14) b_laws_heldStepS_11) := goEq rfl
noncomputable def b_laws_heldStepS_13 : PC := (.seq (.seq (.ops 7 r_laws_heldStepS_12) b_laws_heldStepS_8) b_laws_heldStepS_12)
@[go_sem] theorem b_laws_heldStepS_13_eq : GoEq CC DD b_laws_heldStepS_13 (.seq (.seq (.ops 7 r_laws_heldStepS_12) b_laws_heldStepS_8) b_laws_heldStepS_12) := goEq rfl
noncomputable def b_laws_heldStepS_14 : PC := (.seq (.ops 3 r_laws_heldStepS_11) b_laws_heldStepS_13)
@[go_sem] theorem b_laws_heldStepS_14_eq : GoEq CC DD b_laws_heldStepS_14 (.seq (.ops 3 r_laws_heldStepS_11) b_laws_heldStepS_13) := goEq rfl
noncomputable def b_laws_heldStepS_15 : PC := (.seq (.seq (.ops 7 r_laws_heldStepS_9) b_laws_heldStepS_6) b_laws_heldStepS_14)
@[go_sem] theorem b_laws_heldStepS_15_eq : GoEq CC DD b_laws_heldStepS_15 (.seq (.seq (.ops 7 r_laws_heldStepS_9) b_laws_heldStepS_6) b_laws_heldStepS_14) := goEq rfl
noncomputable def b_laws_heldStepS_16 : PC := (.seq (.ops 3 r_laws_heldStepS_8) b_laws_heldStepS_15)
@[go_sem] theorem b_laws_heldStepS_16_eq : GoEq CC DD b_laws_heldStepS_16 (.seq (.ops 3 r_laws_heldStepS_8) b_laws_heldStepS_15) := goEq rfl
noncomputable def b_laws_heldStepS_17 : PC := (.seq (.seq (.ops 7 r_laws_heldStepS_6) b_laws_heldStepS_4) b_laws_heldStepS_16)
@[go_sem] theorem b_laws_heldStepS_17_eq : GoEq CC DD b_laws_heldStepS_17 (.seq (.seq (.ops 7 r_laws_heldStepS_6) b_laws_heldStepS_4) b_laws_heldStepS_16) := goEq rfl
noncomputable def b_laws_heldStepS_18 : PC := (.seq (.ops 3 r_laws_heldStepS_5) b_laws_heldStepS_17)
@[go_sem] theorem b_laws_heldStepS_18_eq : GoEq CC DD b_laws_heldStepS_18 (.seq (.ops 3 r_laws_heldStepS_5) b_laws_heldStepS_17) := goEq rfl
noncomputable def b_laws_heldStepS_19 : PC := (.seq (.seq (.ops 7 r_laws_heldStepS_3) b_laws_heldStepS_2) b_laws_heldStepS_18)
@[go_sem] theorem b_laws_heldStepS_19_eq : GoEq CC DD b_laws_heldStepS_19 (.seq (.seq (.ops 7 r_laws_heldStepS_3) b_laws_heldStepS_2) b_laws_heldStepS_18) := goEq rfl
noncomputable def b_laws_heldStepS_20 : PC := (.seq (.block 1 b_laws_heldStepS_19) (.ops 3 r_laws_heldStepS_18))
@[go_sem] theorem b_laws_heldStepS_20_eq : GoEq CC DD b_laws_heldStepS_20 (.seq (.block 1 b_laws_heldStepS_19) (.ops 3 r_laws_heldStepS_18)) := goEq rfl
noncomputable def b_laws_heldStepS_21 : PC := (.seq (.seq (.ops 4 r_laws_heldStepS_2) b_laws_heldStepS_0) b_laws_heldStepS_20)
@[go_sem] theorem b_laws_heldStepS_21_eq : GoEq CC DD b_laws_heldStepS_21 (.seq (.seq (.ops 4 r_laws_heldStepS_2) b_laws_heldStepS_0) b_laws_heldStepS_20) := goEq rfl
noncomputable def b_laws_heldStepS_22 : PC := (.loop b_laws_heldStepS_21)
@[go_sem] theorem b_laws_heldStepS_22_eq : GoEq CC DD b_laws_heldStepS_22 (.loop b_laws_heldStepS_21) := goEq rfl
noncomputable def b_laws_heldStepS_23 : PC := (.block 0 b_laws_heldStepS_22)
@[go_sem] theorem b_laws_heldStepS_23_eq : GoEq CC DD b_laws_heldStepS_23 (.block 0 b_laws_heldStepS_22) := goEq rfl
noncomputable def b_laws_heldStepS_24 : PC := (.seq (.ops 2 r_laws_heldStepS_19) .ret)
@[go_sem] theorem b_laws_heldStepS_24_eq : GoEq CC DD b_laws_heldStepS_24 (.seq (.ops 2 r_laws_heldStepS_19) .ret) := goEq rfl
noncomputable def b_laws_heldStepS_25 : PC := (.seq (.seq (.ops 1 r_laws_heldStepS_1) b_laws_heldStepS_23) b_laws_heldStepS_24)
@[go_sem] theorem b_laws_heldStepS_25_eq : GoEq CC DD b_laws_heldStepS_25 (.seq (.seq (.ops 1 r_laws_heldStepS_1) b_laws_heldStepS_23) b_laws_heldStepS_24) := goEq rfl
noncomputable def c_laws_heldStepS : PC :=
  (.seq (.ops 1 r_laws_heldStepS_0) b_laws_heldStepS_25)
theorem res_laws_heldStepS : Try.f36.results.toList = [(ResultVar.tmp 4)] := rfl
theorem c_laws_heldStepS_ok : prep ((Try.f36.body).getD .skip) = some c_laws_heldStepS := by kernel_rfl
noncomputable def r_spec_Trim_0 : List POp := regAt Try.f37 0
@[go_sem] theorem r_spec_Trim_0_eq : OpEq CC DD r_spec_Trim_0 [
  ⟨(some 2), none, (.assign (.const (.slice none 0 0)))⟩] := opEq (by kernel_rfl)
noncomputable def r_spec_Trim_1 : List POp := regAt Try.f37 1
@[go_sem] theorem r_spec_Trim_1_eq : OpEq CC DD r_spec_Trim_1 [
  ⟨(some 8), none, (.move (.tmp 0))⟩,
  ⟨(some 9), none, (.call { callee := (.builtin .len), args := #[(.tmp 8)], argTypes := #[39] })⟩,
  ⟨(some 3), none, (.assign (.tmp 9))⟩] := opEq (by kernel_rfl)
noncomputable def r_spec_Trim_2 : List POp := regAt Try.f37 2
@[go_sem] theorem r_spec_Trim_2_eq : OpEq CC DD r_spec_Trim_2 [
  ⟨(some 10), none, (.move (.tmp 0))⟩,
  ⟨(some 11), none, (.call { callee := (.value (.func 25)), args := #[(.tmp 10)], argTypes := #[39] })⟩,
  ⟨(some 12), none, (.unOp .not 4 (.tmp 11))⟩] := opEq (by kernel_rfl)
noncomputable def r_spec_Trim_3 : List POp := regAt Try.f37 3
@[go_sem] theorem r_spec_Trim_3_eq : OpEq CC DD r_spec_Trim_3 [
  ⟨(some 13), none, (.buildSlice 39 0 #[])⟩,
  ⟨(some 14), none, (.move (.tmp 0))⟩,
  ⟨(some 15), none, (.call { callee := (.builtin .append), args := #[(.tmp 13), (.tmp 14)], argTypes := #[39, 39] })⟩,
  ⟨(some 2), none, (.assign (.tmp 15))⟩] := opEq (by kernel_rfl)
noncomputable def r_spec_Trim_4 : List POp := regAt Try.f37 4
@[go_sem] theorem r_spec_Trim_4_eq : OpEq CC DD r_spec_Trim_4 [
  ⟨(some 16), none, (.buildSlice 56 0 #[])⟩,
  ⟨(some 4), none, (.assign (.tmp 16))⟩] := opEq (by kernel_rfl)
noncomputable def r_spec_Trim_5 : List POp := regAt Try.f37 5
@[go_sem] theorem r_spec_Trim_5_eq : OpEq CC DD r_spec_Trim_5 [
  ⟨(some 17), none, (.buildSlice 39 0 #[])⟩,
  ⟨(some 5), none, (.assign (.tmp 17))⟩] := opEq (by kernel_rfl)
noncomputable def r_spec_Trim_6 : List POp := regAt Try.f37 6
@[go_sem] theorem r_spec_Trim_6_eq : OpEq CC DD r_spec_Trim_6 [
  ⟨(some 6), none, (.assign (.const (.int .i64 0)))⟩] := opEq (by kernel_rfl)
noncomputable def r_spec_Trim_7 : List POp := regAt Try.f37 7
@[go_sem] theorem r_spec_Trim_7_eq : OpEq CC DD r_spec_Trim_7 [
  ⟨(some 18), none, (.move (.tmp 6))⟩,
  ⟨(some 19), none, (.move (.tmp 3))⟩,
  ⟨(some 20), none, (.binOp .lss 3 (.tmp 18) (.tmp 19) 3)⟩] := opEq (by kernel_rfl)
noncomputable def r_spec_Trim_8 : List POp := regAt Try.f37 8
@[go_sem] theorem r_spec_Trim_8_eq : OpEq CC DD r_spec_Trim_8 [
  ⟨(some 23), none, (.move (.tmp 4))⟩,
  ⟨(some 24), none, (.move (.tmp 5))⟩,
  ⟨(some 25), none, (.call { callee := (.builtin .len), args := #[(.tmp 24)], argTypes := #[39] })⟩,
  ⟨(some 26), none, (.buildSlice 56 1 #[(0, (.tmp 25))])⟩,
  ⟨(some 27), none, (.call { callee := (.builtin .append), args := #[(.tmp 23), (.tmp 26)], argTypes := #[56, 56] })⟩,
  ⟨(some 4), none, (.assign (.tmp 27))⟩] := opEq (by kernel_rfl)
noncomputable def r_spec_Trim_9 : List POp := regAt Try.f37 9
@[go_sem] theorem r_spec_Trim_9_eq : OpEq CC DD r_spec_Trim_9 [
  ⟨(some 28), none, (.move (.tmp 6))⟩,
  ⟨(some 29), none, (.move (.tmp 3))⟩,
  ⟨(some 30), none, (.binOp .sub 3 (.tmp 29) (.const (.int .i64 1)) 3)⟩,
  ⟨(some 31), none, (.binOp .eql 3 (.tmp 28) (.tmp 30) 3)⟩,
  ⟨(some 32), none, (.move (.tmp 31))⟩,
  ⟨(some 33), (some (32, false)), (.move (.tmp 0))⟩,
  ⟨(some 34), (some (32, false)), (.move (.tmp 6))⟩,
  ⟨(some 35), (some (32, false)), (.indexAddr 39 (.tmp 33) (.tmp 34))⟩,
  ⟨(some 36), (some (32, false)), (.load 25 (.tmp 35))⟩,
  ⟨(some 37), (some (32, false)), (.move (.tmp 6))⟩,
  ⟨(some 38), (some (32, false)), (.call { callee := (.value (.func 89)), args := #[(.tmp 36), (.tmp 37)], argTypes := #[25, 3] })⟩,
  ⟨(some 39), (some (32, false)), (.unOp .not 4 (.tmp 38))⟩,
  ⟨(some 40), none, (.pick (.tmp 32) (.const (.bool true)) (.tmp 39))⟩] := opEq (by kernel_rfl)
noncomputable def r_spec_Trim_10 : List POp := regAt Try.f37 10
@[go_sem] theorem r_spec_Trim_10_eq : OpEq CC DD r_spec_Trim_10 [
  ⟨(some 41), none, (.move (.tmp 5))⟩,
  ⟨(some 42), none, (.move (.tmp 0))⟩,
  ⟨(some 43), none, (.move (.tmp 6))⟩,
  ⟨(some 44), none, (.indexAddr 39 (.tmp 42) (.tmp 43))⟩,
  ⟨(some 45), none, (.load 25 (.tmp 44))⟩,
  ⟨(some 46), none, (.buildSlice 39 1 #[(0, (.tmp 45))])⟩,
  ⟨(some 47), none, (.call { callee := (.builtin .append), args := #[(.tmp 41), (.tmp 46)], argTypes := #[39, 39] })⟩,
  ⟨(some 5), none, (.assign (.tmp 47))⟩] := opEq (by kernel_rfl)
noncomputable def r_spec_Trim_11 : List POp := regAt Try.f37 11
@[go_sem] theorem r_spec_Trim_11_eq : OpEq CC DD r_spec_Trim_11 [
  ⟨(some 21), none, (.move (.tmp 6))⟩,
  ⟨(some 22), none, (.binOp .add 3 (.tmp 21) (.const (.int .i64 1)) 3)⟩,
  ⟨(some 6), none, (.assign (.tmp 22))⟩] := opEq (by kernel_rfl)
noncomputable def r_spec_Trim_12 : List POp := regAt Try.f37 12
@[go_sem] theorem r_spec_Trim_12_eq : OpEq CC DD r_spec_Trim_12 [
  ⟨(some 7), none, (.assign (.const (.int .i64 0)))⟩] := opEq (by kernel_rfl)
noncomputable def r_spec_Trim_13 : List POp := regAt Try.f37 13
@[go_sem] theorem r_spec_Trim_13_eq : OpEq CC DD r_spec_Trim_13 [
  ⟨(some 48), none, (.move (.tmp 7))⟩,
  ⟨(some 49), none, (.move (.tmp 5))⟩,
  ⟨(some 50), none, (.call { callee := (.builtin .len), args := #[(.tmp 49)], argTypes := #[39] })⟩,
  ⟨(some 51), none, (.binOp .lss 3 (.tmp 48) (.tmp 50) 3)⟩] := opEq (by kernel_rfl)
noncomputable def r_spec_Trim_14 : List POp := regAt Try.f37 14
@[go_sem] theorem r_spec_Trim_14_eq : OpEq CC DD r_spec_Trim_14 [
  ⟨(some 54), none, (.move (.tmp 5))⟩,
  ⟨(some 55), none, (.move (.tmp 7))⟩,
  ⟨(some 56), none, (.indexAddr 39 (.tmp 54) (.tmp 55))⟩,
  ⟨(some 57), none, (.fieldAddr 25 (.tmp 56) 0)⟩,
  ⟨(some 58), none, (.load 3 (.tmp 57))⟩,
  ⟨(some 59), none, (.binOp .eql 3 (.tmp 58) (.const (.int .i64 9)) 3)⟩,
  ⟨(some 60), none, (.move (.tmp 59))⟩,
  ⟨(some 61), (some (60, false)), (.move (.tmp 5))⟩,
  ⟨(some 62), (some (60, false)), (.move (.tmp 7))⟩,
  ⟨(some 63), (some (60, false)), (.indexAddr 39 (.tmp 61) (.tmp 62))⟩,
  ⟨(some 64), (some (60, false)), (.fieldAddr 25 (.tmp 63) 0)⟩,
  ⟨(some 65), (some (60, false)), (.load 3 (.tmp 64))⟩,
  ⟨(some 66), (some (60, false)), (.binOp .eql 3 (.tmp 65) (.const (.int .i64 10)) 3)⟩,
  ⟨(some 67), none, (.pick (.tmp 60) (.const (.bool true)) (.tmp 66))⟩] := opEq (by kernel_rfl)
noncomputable def r_spec_Trim_15 : List POp := regAt Try.f37 15
@[go_sem] theorem r_spec_Trim_15_eq : OpEq CC DD r_spec_Trim_15 [
  ⟨(some 68), none, (.move (.tmp 5))⟩,
  ⟨(some 69), none, (.move (.tmp 7))⟩,
  ⟨(some 70), none, (.move (.tmp 4))⟩,
  ⟨(some 71), none, (.move (.tmp 5))⟩,
  ⟨(some 72), none, (.move (.tmp 7))⟩,
  ⟨(some 73), none, (.indexAddr 39 (.tmp 71) (.tmp 72))⟩,
  ⟨(some 74), none, (.fieldAddr 25 (.tmp 73) 4)⟩,
  ⟨(some 75), none, (.load 3 (.tmp 74))⟩,
  ⟨(some 76), none, (.indexAddr 56 (.tmp 70) (.tmp 75))⟩,
  ⟨(some 77), none, (.load 3 (.tmp 76))⟩,
  ⟨(some 78), none, (.indexAddr 39 (.tmp 68) (.tmp 69))⟩,
  ⟨(some 79), none, (.fieldAddr 25 (.tmp 78) 4)⟩,
  ⟨none, none, (.store 3 (.tmp 79) (.tmp 77))⟩] := opEq (by kernel_rfl)
noncomputable def r_spec_Trim_16 : List POp := regAt Try.f37 16
@[go_sem] theorem r_spec_Trim_16_eq : OpEq CC DD r_spec_Trim_16 [
  ⟨(some 52), none, (.move (.tmp 7))⟩,
  ⟨(some 53), none, (.binOp .add 3 (.tmp 52) (.const (.int .i64 1)) 3)⟩,
  ⟨(some 7), none, (.assign (.tmp 53))⟩] := opEq (by kernel_rfl)
noncomputable def r_spec_Trim_17 : List POp := regAt Try.f37 17
@[go_sem] theorem r_spec_Trim_17_eq : OpEq CC DD r_spec_Trim_17 [
  ⟨(some 80), none, (.move (.tmp 5))⟩,
  ⟨(some 2), none, (.assign (.tmp 80))⟩] := opEq (by kernel_rfl)
noncomputable def b_spec_Trim_0 : PC := (.seq (.ops 4 r_spec_Trim_3) .ret)
@[go_sem] theorem b_spec_Trim_0_eq : GoEq CC DD b_spec_Trim_0 (.seq (.ops 4 r_spec_Trim_3) .ret) := goEq rfl
noncomputable def b_spec_Trim_1 : PC := (.cond (.tmp 12) b_spec_Trim_0 .skip)
@[go_sem] theorem b_spec_Trim_1_eq : GoEq CC DD b_spec_Trim_1 (.cond (.tmp 12) b_spec_Trim_0 .skip) := goEq rfl
noncomputable def b_spec_Trim_2 : PC := (.cond (.tmp 20) .skip (.exit 0))
@[go_sem] theorem b_spec_Trim_2_eq : GoEq CC DD b_spec_Trim_2 (.cond (.tmp 20) .skip (.exit 0)) := goEq rfl
noncomputable def b_spec_Trim_3 : PC := (.cond (.tmp 40) (.ops 8 r_spec_Trim_10) .skip)
@[go_sem] theorem b_spec_Trim_3_eq : GoEq CC DD b_spec_Trim_3 (.cond (.tmp 40) (.ops 8 r_spec_Trim_10) .skip) := goEq rfl
noncomputable def b_spec_Trim_4 : PC := (.seq (.ops 13 r_spec_Trim_9) b_spec_Trim_3)
@[go_sem] theorem b_spec_Trim_4_eq : GoEq CC DD b_spec_Trim_4 (.seq (.ops 13 r_spec_Trim_9) b_spec_Trim_3) := goEq rfl
noncomputable def b_spec_Trim_5 : PC := (.seq (.ops 6 r_spec_Trim_8) b_spec_Trim_4)
@[go_sem] theorem b_spec_Trim_5_eq : GoEq CC DD b_spec_Trim_5 (.seq (.ops 6 r_spec_Trim_8) b_spec_Trim_4) := goEq rfl
noncomputable def b_spec_Trim_6 : PC := (.seq (.block 1 b_spec_Trim_5) (.ops 3 r_spec_Trim_11))
@[go_sem] theorem b_spec_Trim_6_eq : GoEq CC DD b_spec_Trim_6 (.seq (.block 1 b_spec_Trim_5) (.ops 3 r_spec_Trim_11)) := goEq rfl
noncomputable def b_spec_Trim_7 : PC := (.seq (.seq (.ops 3 r_spec_Trim_7) b_spec_Trim_2) b_spec_Trim_6)
@[go_sem] theorem b_spec_Trim_7_eq : GoEq CC DD b_spec_Trim_7 (.seq (.seq (.ops 3 r_spec_Trim_7) b_spec_Trim_2) b_spec_Trim_6) := goEq rfl
noncomputable def b_spec_Trim_8 : PC := (.loop b_spec_Trim_7)
@[go_sem] theorem b_spec_Trim_8_eq : GoEq CC DD b_spec_Trim_8 (.loop b_spec_Trim_7) := goEq rfl
noncomputable def b_spec_Trim_9 : PC := (.block 0 b_spec_Trim_8)
@[go_sem] theorem b_spec_Trim_9_eq : GoEq CC DD b_spec_Trim_9 (.block 0 b_spec_Trim_8) := goEq rfl
noncomputable def b_spec_Trim_10 : PC := (.cond (.tmp 51) .skip (.exit 2))
@[go_sem] theorem b_spec_Trim_10_eq : GoEq CC DD b_spec_Trim_10 (.cond (.tmp 51) .skip (.exit 2)) := goEq rfl
noncomputable def b_spec_Trim_11 : PC := (.cond (.tmp 67) (.ops 13 r_spec_Trim_15) .skip)
@[go_sem] theorem b_spec_Trim_11_eq : GoEq CC DD b_spec_Trim_11 (.cond (.tmp 67) (.ops 13 r_spec_Trim_15) .skip) := goEq rfl
noncomputable def b_spec_Trim_12 : PC := (.seq (.ops 14 r_spec_Trim_14) b_spec_Trim_11)
@[go_sem] theorem b_spec_Trim_12_eq : GoEq CC DD b_spec_Trim_12 (.seq (.ops 14 r_spec_Trim_14) b_spec_Trim_11) := goEq rfl
noncomputable def b_spec_Trim_13 : PC := (.seq (.block 3 b_spec_Trim_12) (.ops 3 r_spec_Trim_16))
@[go_sem] theorem b_spec_Trim_13_eq : GoEq CC DD b_spec_Trim_13 (.seq (.block 3 b_spec_Trim_12) (.ops 3 r_spec_Trim_16)) := goEq rfl
noncomputable def b_spec_Trim_14 : PC := (.seq (.seq (.ops 4 r_spec_Trim_13) b_spec_Trim_10) b_spec_Trim_13)
@[go_sem] theorem b_spec_Trim_14_eq : GoEq CC DD b_spec_Trim_14 (.seq (.seq (.ops 4 r_spec_Trim_13) b_spec_Trim_10) b_spec_Trim_13) := goEq rfl
noncomputable def b_spec_Trim_15 : PC := (.loop b_spec_Trim_14)
@[go_sem] theorem b_spec_Trim_15_eq : GoEq CC DD b_spec_Trim_15 (.loop b_spec_Trim_14) := goEq rfl
noncomputable def b_spec_Trim_16 : PC := (.block 2 b_spec_Trim_15)
@[go_sem] theorem b_spec_Trim_16_eq : GoEq CC DD b_spec_Trim_16 (.block 2 b_spec_Trim_15) := goEq rfl
noncomputable def b_spec_Trim_17 : PC := (.seq (.ops 2 r_spec_Trim_17) .ret)
@[go_sem] theorem b_spec_Trim_17_eq : GoEq CC DD b_spec_Trim_17 (.seq (.ops 2 r_spec_Trim_17) .ret) := goEq rfl
noncomputable def b_spec_Trim_18 : PC := (.seq (.seq (.ops 1 r_spec_Trim_12) b_spec_Trim_16) b_spec_Trim_17)
@[go_sem] theorem b_spec_Trim_18_eq : GoEq CC DD b_spec_Trim_18 (.seq (.seq (.ops 1 r_spec_Trim_12) b_spec_Trim_16) b_spec_Trim_17) := goEq rfl
noncomputable def b_spec_Trim_19 : PC := (.seq (.seq (.ops 1 r_spec_Trim_6) b_spec_Trim_9) b_spec_Trim_18)
@[go_sem] theorem b_spec_Trim_19_eq : GoEq CC DD b_spec_Trim_19 (.seq (.seq (.ops 1 r_spec_Trim_6) b_spec_Trim_9) b_spec_Trim_18) := goEq rfl
noncomputable def b_spec_Trim_20 : PC := (.seq (.ops 2 r_spec_Trim_5) b_spec_Trim_19)
@[go_sem] theorem b_spec_Trim_20_eq : GoEq CC DD b_spec_Trim_20 (.seq (.ops 2 r_spec_Trim_5) b_spec_Trim_19) := goEq rfl
noncomputable def b_spec_Trim_21 : PC := (.seq (.ops 2 r_spec_Trim_4) b_spec_Trim_20)
@[go_sem] theorem b_spec_Trim_21_eq : GoEq CC DD b_spec_Trim_21 (.seq (.ops 2 r_spec_Trim_4) b_spec_Trim_20) := goEq rfl
noncomputable def b_spec_Trim_22 : PC := (.seq (.seq (.ops 3 r_spec_Trim_2) b_spec_Trim_1) b_spec_Trim_21)
@[go_sem] theorem b_spec_Trim_22_eq : GoEq CC DD b_spec_Trim_22 (.seq (.seq (.ops 3 r_spec_Trim_2) b_spec_Trim_1) b_spec_Trim_21) := goEq rfl
noncomputable def b_spec_Trim_23 : PC := (.seq (.ops 3 r_spec_Trim_1) b_spec_Trim_22)
@[go_sem] theorem b_spec_Trim_23_eq : GoEq CC DD b_spec_Trim_23 (.seq (.ops 3 r_spec_Trim_1) b_spec_Trim_22) := goEq rfl
noncomputable def c_spec_Trim : PC :=
  (.seq (.ops 1 r_spec_Trim_0) b_spec_Trim_23)
theorem res_spec_Trim : Try.f37.results.toList = [(ResultVar.tmp 2)] := rfl
theorem c_spec_Trim_ok : prep ((Try.f37.body).getD .skip) = some c_spec_Trim := by kernel_rfl
noncomputable def r_impl_Trim_0 : List POp := regAt Try.f38 0
@[go_sem] theorem r_impl_Trim_0_eq : OpEq CC DD r_impl_Trim_0 [
  ⟨(some 2), none, (.assign (.const (.slice none 0 0)))⟩] := opEq (by kernel_rfl)
noncomputable def r_impl_Trim_1 : List POp := regAt Try.f38 1
@[go_sem] theorem r_impl_Trim_1_eq : OpEq CC DD r_impl_Trim_1 [
  ⟨(some 9), none, (.move (.tmp 0))⟩,
  ⟨(some 10), none, (.call { callee := (.value (.func 27)), args := #[(.tmp 9)], argTypes := #[39] })⟩,
  ⟨(some 11), none, (.unOp .not 4 (.tmp 10))⟩] := opEq (by kernel_rfl)
noncomputable def r_impl_Trim_2 : List POp := regAt Try.f38 2
@[go_sem] theorem r_impl_Trim_2_eq : OpEq CC DD r_impl_Trim_2 [
  ⟨(some 12), none, (.move (.tmp 0))⟩,
  ⟨(some 13), none, (.call { callee := (.value (.func 90)), args := #[(.tmp 12)], argTypes := #[39] })⟩,
  ⟨(some 2), none, (.assign (.tmp 13))⟩] := opEq (by kernel_rfl)
noncomputable def r_impl_Trim_3 : List POp := regAt Try.f38 3
@[go_sem] theorem r_impl_Trim_3_eq : OpEq CC DD r_impl_Trim_3 [
  ⟨(some 14), none, (.buildSlice 39 0 #[])⟩,
  ⟨(some 3), none, (.assign (.tmp 14))⟩] := opEq (by kernel_rfl)
noncomputable def r_impl_Trim_4 : List POp := regAt Try.f38 4
@[go_sem] theorem r_impl_Trim_4_eq : OpEq CC DD r_impl_Trim_4 [
  ⟨(some 15), none, (.buildSlice 56 0 #[])⟩,
  ⟨(some 4), none, (.assign (.tmp 15))⟩] := opEq (by kernel_rfl)
noncomputable def r_impl_Trim_5 : List POp := regAt Try.f38 5
@[go_sem] theorem r_impl_Trim_5_eq : OpEq CC DD r_impl_Trim_5 [
  ⟨(some 16), none, (.move (.tmp 0))⟩,
  ⟨(some 17), none, (.call { callee := (.builtin .len), args := #[(.tmp 16)], argTypes := #[39] })⟩,
  ⟨(some 18), none, (.move (.const (.int .i64 0)))⟩] := opEq (by kernel_rfl)
noncomputable def r_impl_Trim_6 : List POp := regAt Try.f38 6
@[go_sem] theorem r_impl_Trim_6_eq : OpEq CC DD r_impl_Trim_6 [
  ⟨(some 19), none, (.binOp .lss 3 (.tmp 18) (.tmp 17) 3)⟩] := opEq (by kernel_rfl)
noncomputable def r_impl_Trim_7 : List POp := regAt Try.f38 7
@[go_sem] theorem r_impl_Trim_7_eq : OpEq CC DD r_impl_Trim_7 [
  ⟨(some 20), none, (.move (.tmp 18))⟩,
  ⟨(some 21), none, (.indexAddr 39 (.tmp 16) (.tmp 18))⟩,
  ⟨(some 22), none, (.load 25 (.tmp 21))⟩,
  ⟨(some 6), none, (.alloc 25)⟩,
  ⟨(some 5), none, (.assign (.tmp 20))⟩,
  ⟨none, none, (.store 25 (.tmp 6) (.tmp 22))⟩] := opEq (by kernel_rfl)
noncomputable def r_impl_Trim_8 : List POp := regAt Try.f38 8
@[go_sem] theorem r_impl_Trim_8_eq : OpEq CC DD r_impl_Trim_8 [
  ⟨(some 23), none, (.move (.tmp 4))⟩,
  ⟨(some 24), none, (.move (.tmp 3))⟩,
  ⟨(some 25), none, (.call { callee := (.builtin .len), args := #[(.tmp 24)], argTypes := #[39] })⟩,
  ⟨(some 26), none, (.buildSlice 56 1 #[(0, (.tmp 25))])⟩,
  ⟨(some 27), none, (.call { callee := (.builtin .append), args := #[(.tmp 23), (.tmp 26)], argTypes := #[56, 56] })⟩,
  ⟨(some 4), none, (.assign (.tmp 27))⟩] := opEq (by kernel_rfl)
noncomputable def r_impl_Trim_9 : List POp := regAt Try.f38 9
@[go_sem] theorem r_impl_Trim_9_eq : OpEq CC DD r_impl_Trim_9 [
  ⟨(some 28), none, (.move (.tmp 5))⟩,
  ⟨(some 29), none, (.move (.tmp 0))⟩,
  ⟨(some 30), none, (.call { callee := (.builtin .len), args := #[(.tmp 29)], argTypes := #[39] })⟩,
  ⟨(some 31), none, (.binOp .sub 3 (.tmp 30) (.const (.int .i64 1)) 3)⟩,
  ⟨(some 32), none, (.binOp .eql 3 (.tmp 28) (.tmp 31) 3)⟩,
  ⟨(some 33), none, (.move (.tmp 32))⟩,
  ⟨(some 34), (some (33, false)), (.load 25 (.tmp 6))⟩,
  ⟨(some 35), (some (33, false)), (.move (.tmp 5))⟩,
  ⟨(some 36), (some (33, false)), (.call { callee := (.value (.func 91)), args := #[(.tmp 34), (.tmp 35)], argTypes := #[25, 3] })⟩,
  ⟨(some 37), (some (33, false)), (.unOp .not 4 (.tmp 36))⟩,
  ⟨(some 38), none, (.pick (.tmp 33) (.const (.bool true)) (.tmp 37))⟩] := opEq (by kernel_rfl)
noncomputable def r_impl_Trim_10 : List POp := regAt Try.f38 10
@[go_sem] theorem r_impl_Trim_10_eq : OpEq CC DD r_impl_Trim_10 [
  ⟨(some 39), none, (.move (.tmp 3))⟩,
  ⟨(some 40), none, (.load 25 (.tmp 6))⟩,
  ⟨(some 41), none, (.buildSlice 39 1 #[(0, (.tmp 40))])⟩,
  ⟨(some 42), none, (.call { callee := (.builtin .append), args := #[(.tmp 39), (.tmp 41)], argTypes := #[39, 39] })⟩,
  ⟨(some 3), none, (.assign (.tmp 42))⟩] := opEq (by kernel_rfl)
noncomputable def r_impl_Trim_11 : List POp := regAt Try.f38 11
@[go_sem] theorem r_impl_Trim_11_eq : OpEq CC DD r_impl_Trim_11 [
  ⟨(some 43), none, (.binOp .add 3 (.tmp 18) (.const (.int .i64 1)) 3)⟩,
  ⟨(some 18), none, (.move (.tmp 43))⟩] := opEq (by kernel_rfl)
noncomputable def r_impl_Trim_12 : List POp := regAt Try.f38 12
@[go_sem] theorem r_impl_Trim_12_eq : OpEq CC DD r_impl_Trim_12 [
  ⟨(some 44), none, (.move (.tmp 3))⟩,
  ⟨(some 45), none, (.call { callee := (.builtin .len), args := #[(.tmp 44)], argTypes := #[39] })⟩,
  ⟨(some 46), none, (.move (.const (.int .i64 0)))⟩] := opEq (by kernel_rfl)
noncomputable def r_impl_Trim_13 : List POp := regAt Try.f38 13
@[go_sem] theorem r_impl_Trim_13_eq : OpEq CC DD r_impl_Trim_13 [
  ⟨(some 47), none, (.binOp .lss 3 (.tmp 46) (.tmp 45) 3)⟩] := opEq (by kernel_rfl)
noncomputable def r_impl_Trim_14 : List POp := regAt Try.f38 14
@[go_sem] theorem r_impl_Trim_14_eq : OpEq CC DD r_impl_Trim_14 [
  ⟨(some 48), none, (.move (.tmp 46))⟩,
  ⟨(some 49), none, (.indexAddr 39 (.tmp 44) (.tmp 46))⟩,
  ⟨(some 50), none, (.load 25 (.tmp 49))⟩,
  ⟨(some 8), none, (.alloc 25)⟩,
  ⟨(some 7), none, (.assign (.tmp 48))⟩,
  ⟨none, none, (.store 25 (.tmp 8) (.tmp 50))⟩] := opEq (by kernel_rfl)
noncomputable def r_impl_Trim_15 : List POp := regAt Try.f38 15
@[go_sem] theorem r_impl_Trim_15_eq : OpEq CC DD r_impl_Trim_15 [
  ⟨(some 51), none, (.load 25 (.tmp 8))⟩,
  ⟨(some 52), none, (.call { callee := (.value (.func 92)), args := #[(.tmp 51)], argTypes := #[25] })⟩] := opEq (by kernel_rfl)
noncomputable def r_impl_Trim_16 : List POp := regAt Try.f38 16
@[go_sem] theorem r_impl_Trim_16_eq : OpEq CC DD r_impl_Trim_16 [
  ⟨(some 53), none, (.move (.tmp 3))⟩,
  ⟨(some 54), none, (.move (.tmp 7))⟩,
  ⟨(some 55), none, (.move (.tmp 4))⟩,
  ⟨(some 56), none, (.fieldAddr 25 (.tmp 8) 4)⟩,
  ⟨(some 57), none, (.load 3 (.tmp 56))⟩,
  ⟨(some 58), none, (.indexAddr 56 (.tmp 55) (.tmp 57))⟩,
  ⟨(some 59), none, (.load 3 (.tmp 58))⟩,
  ⟨(some 60), none, (.indexAddr 39 (.tmp 53) (.tmp 54))⟩,
  ⟨(some 61), none, (.fieldAddr 25 (.tmp 60) 4)⟩,
  ⟨none, none, (.store 3 (.tmp 61) (.tmp 59))⟩] := opEq (by kernel_rfl)
noncomputable def r_impl_Trim_17 : List POp := regAt Try.f38 17
@[go_sem] theorem r_impl_Trim_17_eq : OpEq CC DD r_impl_Trim_17 [
  ⟨(some 62), none, (.binOp .add 3 (.tmp 46) (.const (.int .i64 1)) 3)⟩,
  ⟨(some 46), none, (.move (.tmp 62))⟩] := opEq (by kernel_rfl)
noncomputable def r_impl_Trim_18 : List POp := regAt Try.f38 18
@[go_sem] theorem r_impl_Trim_18_eq : OpEq CC DD r_impl_Trim_18 [
  ⟨(some 63), none, (.move (.tmp 3))⟩,
  ⟨(some 2), none, (.assign (.tmp 63))⟩] := opEq (by kernel_rfl)
noncomputable def b_impl_Trim_0 : PC := (.seq (.ops 3 r_impl_Trim_2) .ret)
@[go_sem] theorem b_impl_Trim_0_eq : GoEq CC DD b_impl_Trim_0 (.seq (.ops 3 r_impl_Trim_2) .ret) := goEq rfl
noncomputable def b_impl_Trim_1 : PC := (.cond (.tmp 11) b_impl_Trim_0 .skip)
@[go_sem] theorem b_impl_Trim_1_eq : GoEq CC DD b_impl_Trim_1 (.cond (.tmp 11) b_impl_Trim_0 .skip) := goEq rfl
noncomputable def b_impl_Trim_2 : PC := (.cond (.tmp 38) (.ops 5 r_impl_Trim_10) .skip)
@[go_sem] theorem b_impl_Trim_2_eq : GoEq CC DD b_impl_Trim_2 (.cond (.tmp 38) (.ops 5 r_impl_Trim_10) .skip) := goEq rfl
noncomputable def b_impl_Trim_3 : PC := (.seq (.ops 11 r_impl_Trim_9) b_impl_Trim_2)
@[go_sem] theorem b_impl_Trim_3_eq : GoEq CC DD b_impl_Trim_3 (.seq (.ops 11 r_impl_Trim_9) b_impl_Trim_2) := goEq rfl
noncomputable def b_impl_Trim_4 : PC := (.seq (.ops 6 r_impl_Trim_8) b_impl_Trim_3)
@[go_sem] theorem b_impl_Trim_4_eq : GoEq CC DD b_impl_Trim_4 (.seq (.ops 6 r_impl_Trim_8) b_impl_Trim_3) := goEq rfl
noncomputable def b_impl_Trim_5 : PC := (.seq (.ops 6 r_impl_Trim_7) b_impl_Trim_4)
@[go_sem] theorem b_impl_Trim_5_eq : GoEq CC DD b_impl_Trim_5 (.seq (.ops 6 r_impl_Trim_7) b_impl_Trim_4) := goEq rfl
noncomputable def b_impl_Trim_6 : PC := (.seq (.block 1 b_impl_Trim_5) (.ops 2 r_impl_Trim_11))
@[go_sem] theorem b_impl_Trim_6_eq : GoEq CC DD b_impl_Trim_6 (.seq (.block 1 b_impl_Trim_5) (.ops 2 r_impl_Trim_11)) := goEq rfl
noncomputable def b_impl_Trim_7 : PC := (.seq (.cond (.tmp 19) .skip (.exit 0)) b_impl_Trim_6)
@[go_sem] theorem b_impl_Trim_7_eq : GoEq CC DD b_impl_Trim_7 (.seq (.cond (.tmp 19) .skip (.exit 0)) b_impl_Trim_6) := goEq rfl
noncomputable def b_impl_Trim_8 : PC := (.seq (.ops 1 r_impl_Trim_6) b_impl_Trim_7)
@[go_sem] theorem b_impl_Trim_8_eq : GoEq CC DD b_impl_Trim_8 (.seq (.ops 1 r_impl_Trim_6) b_impl_Trim_7) := goEq rfl
noncomputable def b_impl_Trim_9 : PC := (.loop b_impl_Trim_8)
@[go_sem] theorem b_impl_Trim_9_eq : GoEq CC DD b_impl_Trim_9 (.loop b_impl_Trim_8) := goEq rfl
noncomputable def b_impl_Trim_10 : PC := (.block 0 b_impl_Trim_9)
@[go_sem] theorem b_impl_Trim_10_eq : GoEq CC DD b_impl_Trim_10 (.block 0 b_impl_Trim_9) := goEq rfl
noncomputable def b_impl_Trim_11 : PC := (.cond (.tmp 52) (.ops 10 r_impl_Trim_16) .skip)
@[go_sem] theorem b_impl_Trim_11_eq : GoEq CC DD b_impl_Trim_11 (.cond (.tmp 52) (.ops 10 r_impl_Trim_16) .skip) := goEq rfl
noncomputable def b_impl_Trim_12 : PC := (.seq (.ops 2 r_impl_Trim_15) b_impl_Trim_11)
@[go_sem] theorem b_impl_Trim_12_eq : GoEq CC DD b_impl_Trim_12 (.seq (.ops 2 r_impl_Trim_15) b_impl_Trim_11) := goEq rfl
noncomputable def b_impl_Trim_13 : PC := (.seq (.ops 6 r_impl_Trim_14) b_impl_Trim_12)
@[go_sem] theorem b_impl_Trim_13_eq : GoEq CC DD b_impl_Trim_13 (.seq (.ops 6 r_impl_Trim_14) b_impl_Trim_12) := goEq rfl
noncomputable def b_impl_Trim_14 : PC := (.seq (.block 3 b_impl_Trim_13) (.ops 2 r_impl_Trim_17))
@[go_sem] theorem b_impl_Trim_14_eq : GoEq CC DD b_impl_Trim_14 (.seq (.block 3 b_impl_Trim_13) (.ops 2 r_impl_Trim_17)) := goEq rfl
noncomputable def b_impl_Trim_15 : PC := (.seq (.cond (.tmp 47) .skip (.exit 2)) b_impl_Trim_14)
@[go_sem] theorem b_impl_Trim_15_eq : GoEq CC DD b_impl_Trim_15 (.seq (.cond (.tmp 47) .skip (.exit 2)) b_impl_Trim_14) := goEq rfl
noncomputable def b_impl_Trim_16 : PC := (.seq (.ops 1 r_impl_Trim_13) b_impl_Trim_15)
@[go_sem] theorem b_impl_Trim_16_eq : GoEq CC DD b_impl_Trim_16 (.seq (.ops 1 r_impl_Trim_13) b_impl_Trim_15) := goEq rfl
noncomputable def b_impl_Trim_17 : PC := (.loop b_impl_Trim_16)
@[go_sem] theorem b_impl_Trim_17_eq : GoEq CC DD b_impl_Trim_17 (.loop b_impl_Trim_16) := goEq rfl
noncomputable def b_impl_Trim_18 : PC := (.block 2 b_impl_Trim_17)
@[go_sem] theorem b_impl_Trim_18_eq : GoEq CC DD b_impl_Trim_18 (.block 2 b_impl_Trim_17) := goEq rfl
noncomputable def b_impl_Trim_19 : PC := (.seq (.ops 2 r_impl_Trim_18) .ret)
@[go_sem] theorem b_impl_Trim_19_eq : GoEq CC DD b_impl_Trim_19 (.seq (.ops 2 r_impl_Trim_18) .ret) := goEq rfl
noncomputable def b_impl_Trim_20 : PC := (.seq (.seq (.ops 3 r_impl_Trim_12) b_impl_Trim_18) b_impl_Trim_19)
@[go_sem] theorem b_impl_Trim_20_eq : GoEq CC DD b_impl_Trim_20 (.seq (.seq (.ops 3 r_impl_Trim_12) b_impl_Trim_18) b_impl_Trim_19) := goEq rfl
noncomputable def b_impl_Trim_21 : PC := (.seq (.seq (.ops 3 r_impl_Trim_5) b_impl_Trim_10) b_impl_Trim_20)
@[go_sem] theorem b_impl_Trim_21_eq : GoEq CC DD b_impl_Trim_21 (.seq (.seq (.ops 3 r_impl_Trim_5) b_impl_Trim_10) b_impl_Trim_20) := goEq rfl
noncomputable def b_impl_Trim_22 : PC := (.seq (.ops 2 r_impl_Trim_4) b_impl_Trim_21)
@[go_sem] theorem b_impl_Trim_22_eq : GoEq CC DD b_impl_Trim_22 (.seq (.ops 2 r_impl_Trim_4) b_impl_Trim_21) := goEq rfl
noncomputable def b_impl_Trim_23 : PC := (.seq (.ops 2 r_impl_Trim_3) b_impl_Trim_22)
@[go_sem] theorem b_impl_Trim_23_eq : GoEq CC DD b_impl_Trim_23 (.seq (.ops 2 r_impl_Trim_3) b_impl_Trim_22) := goEq rfl
noncomputable def b_impl_Trim_24 : PC := (.seq (.seq (.ops 3 r_impl_Trim_1) b_impl_Trim_1) b_impl_Trim_23)
@[go_sem] theorem b_impl_Trim_24_eq : GoEq CC DD b_impl_Trim_24 (.seq (.seq (.ops 3 r_impl_Trim_1) b_impl_Trim_1) b_impl_Trim_23) := goEq rfl
noncomputable def c_impl_Trim : PC :=
  (.seq (.ops 1 r_impl_Trim_0) b_impl_Trim_24)
theorem res_impl_Trim : Try.f38.results.toList = [(ResultVar.tmp 2)] := rfl
theorem c_impl_Trim_ok : prep ((Try.f38.body).getD .skip) = some c_impl_Trim := by kernel_rfl
noncomputable def r_spec_l14Reg_0 : List POp := regAt Try.f61 0
@[go_sem] theorem r_spec_l14Reg_0_eq : OpEq CC DD r_spec_l14Reg_0 [
  ⟨(some 2), none, (.assign (.const (.bool false)))⟩] := opEq (by kernel_rfl)
noncomputable def r_spec_l14Reg_1 : List POp := regAt Try.f61 1
@[go_sem] theorem r_spec_l14Reg_1_eq : OpEq CC DD r_spec_l14Reg_1 [
  ⟨(some 3), none, (.move (.tmp 0))⟩,
  ⟨(some 4), none, (.call { callee := (.value (.func 62)), args := #[(.tmp 3), (.const (.int .i64 0)), (.const (.int .i64 7))], argTypes := #[3, 3, 3] })⟩,
  ⟨(some 2), none, (.assign (.tmp 4))⟩] := opEq (by kernel_rfl)
noncomputable def b_spec_l14Reg_0 : PC := (.seq (.ops 3 r_spec_l14Reg_1) .ret)
@[go_sem] theorem b_spec_l14Reg_0_eq : GoEq CC DD b_spec_l14Reg_0 (.seq (.ops 3 r_spec_l14Reg_1) .ret) := goEq rfl
noncomputable def c_spec_l14Reg : PC :=
  (.seq (.ops 1 r_spec_l14Reg_0) b_spec_l14Reg_0)
theorem res_spec_l14Reg : Try.f61.results.toList = [(ResultVar.tmp 2)] := rfl
theorem c_spec_l14Reg_ok : prep ((Try.f61.body).getD .skip) = some c_spec_l14Reg := by kernel_rfl
noncomputable def r_spec_l1In_0 : List POp := regAt Try.f62 0
@[go_sem] theorem r_spec_l1In_0_eq : OpEq CC DD r_spec_l1In_0 [
  ⟨(some 6), none, (.assign (.const (.bool false)))⟩] := opEq (by kernel_rfl)
noncomputable def r_spec_l1In_1 : List POp := regAt Try.f62 1
@[go_sem] theorem r_spec_l1In_1_eq : OpEq CC DD r_spec_l1In_1 [
  ⟨(some 7), none, (.move (.tmp 0))⟩,
  ⟨(some 8), none, (.move (.tmp 1))⟩,
  ⟨(some 9), none, (.binOp .geq 3 (.tmp 7) (.tmp 8) 3)⟩,
  ⟨(some 10), none, (.move (.tmp 9))⟩,
  ⟨(some 11), (some (10, true)), (.move (.tmp 0))⟩,
  ⟨(some 12), (some (10, true)), (.move (.tmp 2))⟩,
  ⟨(some 13), (some (10, true)), (.binOp .leq 3 (.tmp 11) (.tmp 12) 3)⟩,
  ⟨(some 14), none, (.pick (.tmp 10) (.tmp 13) (.const (.bool false)))⟩,
  ⟨(some 6), none, (.assign (.tmp 14))⟩] := opEq (by kernel_rfl)
noncomputable def b_spec_l1In_0 : PC := (.seq (.ops 9 r_spec_l1In_1) .ret)
@[go_sem] theorem b_spec_l1In_0_eq : GoEq CC DD b_spec_l1In_0 (.seq (.ops 9 r_spec_l1In_1) .ret) := goEq rfl
noncomputable def c_spec_l1In : PC :=
  (.seq (.ops 1 r_spec_l1In_0) b_spec_l1In_0)
theorem res_spec_l1In : Try.f62.results.toList = [(ResultVar.tmp 6)] := rfl
theorem c_spec_l1In_ok : prep ((Try.f62.body).getD .skip) = some c_spec_l1In := by kernel_rfl
noncomputable def r_spec_WordOk_0 : List POp := regAt Try.f63 0
@[go_sem] theorem r_spec_WordOk_0_eq : OpEq CC DD r_spec_WordOk_0 [
  ⟨(some 2), none, (.assign (.const (.bool false)))⟩] := opEq (by kernel_rfl)
noncomputable def r_spec_WordOk_1 : List POp := regAt Try.f63 1
@[go_sem] theorem r_spec_WordOk_1_eq : OpEq CC DD r_spec_WordOk_1 [
  ⟨(some 3), none, (.move (.tmp 0))⟩,
  ⟨(some 4), none, (.call { callee := (.value (.func 62)), args := #[(.tmp 3), (.const (.int .i64 1)), (.const (.int .i64 10))], argTypes := #[3, 3, 3] })⟩,
  ⟨(some 2), none, (.assign (.tmp 4))⟩] := opEq (by kernel_rfl)
noncomputable def b_spec_WordOk_0 : PC := (.seq (.ops 3 r_spec_WordOk_1) .ret)
@[go_sem] theorem b_spec_WordOk_0_eq : GoEq CC DD b_spec_WordOk_0 (.seq (.ops 3 r_spec_WordOk_1) .ret) := goEq rfl
noncomputable def c_spec_WordOk : PC :=
  (.seq (.ops 1 r_spec_WordOk_0) b_spec_WordOk_0)
theorem res_spec_WordOk : Try.f63.results.toList = [(ResultVar.tmp 2)] := rfl
theorem c_spec_WordOk_ok : prep ((Try.f63.body).getD .skip) = some c_spec_WordOk := by kernel_rfl
noncomputable def r_impl_stepForm_0 : List POp := regAt Try.f64 0
@[go_sem] theorem r_impl_stepForm_0_eq : OpEq CC DD r_impl_stepForm_0 [
  ⟨(some 2), none, (.assign (.const (.string { data := #[] })))⟩,
  ⟨(some 3), none, (.assign (.const (.bool false)))⟩] := opEq (by kernel_rfl)
noncomputable def r_impl_stepForm_1 : List POp := regAt Try.f64 1
@[go_sem] theorem r_impl_stepForm_1_eq : OpEq CC DD r_impl_stepForm_1 [
  ⟨(some 4), none, (.move (.tmp 0))⟩] := opEq (by kernel_rfl)
noncomputable def r_impl_stepForm_2 : List POp := regAt Try.f64 2
@[go_sem] theorem r_impl_stepForm_2_eq : OpEq CC DD r_impl_stepForm_2 [
  ⟨(some 6), none, (.binOp .eql 3 (.tmp 4) (.const (.int .i64 1)) 3)⟩,
  ⟨(some 5), none, (.assign (.tmp 6))⟩] := opEq (by kernel_rfl)
noncomputable def r_impl_stepForm_3 : List POp := regAt Try.f64 3
@[go_sem] theorem r_impl_stepForm_3_eq : OpEq CC DD r_impl_stepForm_3 [
  ⟨(some 2), none, (.assign (.const (.string { data := #[82, 78] })))⟩,
  ⟨(some 3), none, (.assign (.const (.bool true)))⟩] := opEq (by kernel_rfl)
noncomputable def r_impl_stepForm_4 : List POp := regAt Try.f64 4
@[go_sem] theorem r_impl_stepForm_4_eq : OpEq CC DD r_impl_stepForm_4 [
  ⟨(some 8), none, (.binOp .eql 3 (.tmp 4) (.const (.int .i64 2)) 3)⟩,
  ⟨(some 7), none, (.assign (.tmp 8))⟩] := opEq (by kernel_rfl)
noncomputable def r_impl_stepForm_5 : List POp := regAt Try.f64 5
@[go_sem] theorem r_impl_stepForm_5_eq : OpEq CC DD r_impl_stepForm_5 [
  ⟨(some 9), none, (.binOp .eql 3 (.tmp 4) (.const (.int .i64 5)) 3)⟩,
  ⟨(some 7), none, (.assign (.tmp 9))⟩] := opEq (by kernel_rfl)
noncomputable def r_impl_stepForm_6 : List POp := regAt Try.f64 6
@[go_sem] theorem r_impl_stepForm_6_eq : OpEq CC DD r_impl_stepForm_6 [
  ⟨(some 2), none, (.assign (.const (.string { data := #[82, 65] })))⟩,
  ⟨(some 3), none, (.assign (.const (.bool true)))⟩] := opEq (by kernel_rfl)
noncomputable def r_impl_stepForm_7 : List POp := regAt Try.f64 7
@[go_sem] theorem r_impl_stepForm_7_eq : OpEq CC DD r_impl_stepForm_7 [
  ⟨(some 11), none, (.binOp .eql 3 (.tmp 4) (.const (.int .i64 3)) 3)⟩,
  ⟨(some 10), none, (.assign (.tmp 11))⟩] := opEq (by kernel_rfl)
noncomputable def r_impl_stepForm_8 : List POp := regAt Try.f64 8
@[go_sem] theorem r_impl_stepForm_8_eq : OpEq CC DD r_impl_stepForm_8 [
  ⟨(some 2), none, (.assign (.const (.string { data := #[82, 83] })))⟩,
  ⟨(some 3), none, (.assign (.const (.bool true)))⟩] := opEq (by kernel_rfl)
noncomputable def r_impl_stepForm_9 : List POp := regAt Try.f64 9
@[go_sem] theorem r_impl_stepForm_9_eq : OpEq CC DD r_impl_stepForm_9 [
  ⟨(some 13), none, (.binOp .eql 3 (.tmp 4) (.const (.int .i64 4)) 3)⟩,
  ⟨(some 12), none, (.assign (.tmp 13))⟩] := opEq (by kernel_rfl)
noncomputable def r_impl_stepForm_10 : List POp := regAt Try.f64 10
@[go_sem] theorem r_impl_stepForm_10_eq : OpEq CC DD r_impl_stepForm_10 [
  ⟨(some 2), none, (.assign (.const (.string { data := #[83, 65] })))⟩,
  ⟨(some 3), none, (.assign (.const (.bool true)))⟩] := opEq (by kernel_rfl)
noncomputable def r_impl_stepForm_11 : List POp := regAt Try.f64 11
@[go_sem] theorem r_impl_stepForm_11_eq : OpEq CC DD r_impl_stepForm_11 [
  ⟨(some 15), none, (.binOp .eql 3 (.tmp 4) (.const (.int .i64 6)) 3)⟩,
  ⟨(some 14), none, (.assign (.tmp 15))⟩] := opEq (by kernel_rfl)
noncomputable def r_impl_stepForm_12 : List POp := regAt Try.f64 12
@[go_sem] theorem r_impl_stepForm_12_eq : OpEq CC DD r_impl_stepForm_12 [
  ⟨(some 2), none, (.assign (.const (.string { data := #[65, 66] })))⟩,
  ⟨(some 3), none, (.assign (.const (.bool true)))⟩] := opEq (by kernel_rfl)
noncomputable def r_impl_stepForm_13 : List POp := regAt Try.f64 13
@[go_sem] theorem r_impl_stepForm_13_eq : OpEq CC DD r_impl_stepForm_13 [
  ⟨(some 17), none, (.binOp .eql 3 (.tmp 4) (.const (.int .i64 7)) 3)⟩,
  ⟨(some 16), none, (.assign (.tmp 17))⟩] := opEq (by kernel_rfl)
noncomputable def r_impl_stepForm_14 : List POp := regAt Try.f64 14
@[go_sem] theorem r_impl_stepForm_14_eq : OpEq CC DD r_impl_stepForm_14 [
  ⟨(some 18), none, (.binOp .eql 3 (.tmp 4) (.const (.int .i64 11)) 3)⟩,
  ⟨(some 16), none, (.assign (.tmp 18))⟩] := opEq (by kernel_rfl)
noncomputable def r_impl_stepForm_15 : List POp := regAt Try.f64 15
@[go_sem] theorem r_impl_stepForm_15_eq : OpEq CC DD r_impl_stepForm_15 [
  ⟨(some 2), none, (.assign (.const (.string { data := #[65] })))⟩,
  ⟨(some 3), none, (.assign (.const (.bool true)))⟩] := opEq (by kernel_rfl)
noncomputable def r_impl_stepForm_16 : List POp := regAt Try.f64 16
@[go_sem] theorem r_impl_stepForm_16_eq : OpEq CC DD r_impl_stepForm_16 [
  ⟨(some 20), none, (.binOp .eql 3 (.tmp 4) (.const (.int .i64 8)) 3)⟩,
  ⟨(some 19), none, (.assign (.tmp 20))⟩] := opEq (by kernel_rfl)
noncomputable def r_impl_stepForm_17 : List POp := regAt Try.f64 17
@[go_sem] theorem r_impl_stepForm_17_eq : OpEq CC DD r_impl_stepForm_17 [
  ⟨(some 2), none, (.assign (.const (.string { data := #[82] })))⟩,
  ⟨(some 3), none, (.assign (.const (.bool true)))⟩] := opEq (by kernel_rfl)
noncomputable def r_impl_stepForm_18 : List POp := regAt Try.f64 18
@[go_sem] theorem r_impl_stepForm_18_eq : OpEq CC DD r_impl_stepForm_18 [
  ⟨(some 22), none, (.binOp .eql 3 (.tmp 4) (.const (.int .i64 9)) 3)⟩,
  ⟨(some 21), none, (.assign (.tmp 22))⟩] := opEq (by kernel_rfl)
noncomputable def r_impl_stepForm_19 : List POp := regAt Try.f64 19
@[go_sem] theorem r_impl_stepForm_19_eq : OpEq CC DD r_impl_stepForm_19 [
  ⟨(some 2), none, (.assign (.const (.string { data := #[84] })))⟩,
  ⟨(some 3), none, (.assign (.const (.bool true)))⟩] := opEq (by kernel_rfl)
noncomputable def r_impl_stepForm_20 : List POp := regAt Try.f64 20
@[go_sem] theorem r_impl_stepForm_20_eq : OpEq CC DD r_impl_stepForm_20 [
  ⟨(some 24), none, (.binOp .eql 3 (.tmp 4) (.const (.int .i64 10)) 3)⟩,
  ⟨(some 23), none, (.assign (.tmp 24))⟩] := opEq (by kernel_rfl)
noncomputable def r_impl_stepForm_21 : List POp := regAt Try.f64 21
@[go_sem] theorem r_impl_stepForm_21_eq : OpEq CC DD r_impl_stepForm_21 [
  ⟨(some 2), none, (.assign (.const (.string { data := #[65, 84] })))⟩,
  ⟨(some 3), none, (.assign (.const (.bool true)))⟩] := opEq (by kernel_rfl)
noncomputable def r_impl_stepForm_22 : List POp := regAt Try.f64 22
@[go_sem] theorem r_impl_stepForm_22_eq : OpEq CC DD r_impl_stepForm_22 [
  ⟨(some 25), none, (.move (.tmp 0))⟩,
  ⟨(some 26), none, (.binOp .sub 3 (.tmp 25) (.const (.int .i64 11)) 3)⟩,
  ⟨(some 27), none, (.call { callee := (.value (.func 113)), args := #[(.tmp 26)], argTypes := #[3] })⟩,
  ⟨(some 2), none, (.assign (.const (.string { data := #[82, 65, 66] })))⟩,
  ⟨(some 3), none, (.assign (.tmp 27))⟩] := opEq (by kernel_rfl)
noncomputable def b_impl_stepForm_0 : PC := (.seq (.ops 2 r_impl_stepForm_3) .ret)
@[go_sem] theorem b_impl_stepForm_0_eq : GoEq CC DD b_impl_stepForm_0 (.seq (.ops 2 r_impl_stepForm_3) .ret) := goEq rfl
noncomputable def b_impl_stepForm_1 : PC := (.cond (.tmp 7) .skip (.ops 2 r_impl_stepForm_5))
@[go_sem] theorem b_impl_stepForm_1_eq : GoEq CC DD b_impl_stepForm_1 (.cond (.tmp 7) .skip (.ops 2 r_impl_stepForm_5)) := goEq rfl
noncomputable def b_impl_stepForm_2 : PC := (.seq (.ops 2 r_impl_stepForm_6) .ret)
@[go_sem] theorem b_impl_stepForm_2_eq : GoEq CC DD b_impl_stepForm_2 (.seq (.ops 2 r_impl_stepForm_6) .ret) := goEq rfl
noncomputable def b_impl_stepForm_3 : PC := (.seq (.ops 2 r_impl_stepForm_8) .ret)
@[go_sem] theorem b_impl_stepForm_3_eq : GoEq CC DD b_impl_stepForm_3 (.seq (.ops 2 r_impl_stepForm_8) .ret) := goEq rfl
noncomputable def b_impl_stepForm_4 : PC := (.seq (.ops 2 r_impl_stepForm_10) .ret)
@[go_sem] theorem b_impl_stepForm_4_eq : GoEq CC DD b_impl_stepForm_4 (.seq (.ops 2 r_impl_stepForm_10) .ret) := goEq rfl
noncomputable def b_impl_stepForm_5 : PC := (.seq (.ops 2 r_impl_stepForm_12) .ret)
@[go_sem] theorem b_impl_stepForm_5_eq : GoEq CC DD b_impl_stepForm_5 (.seq (.ops 2 r_impl_stepForm_12) .ret) := goEq rfl
noncomputable def b_impl_stepForm_6 : PC := (.cond (.tmp 16) .skip (.ops 2 r_impl_stepForm_14))
@[go_sem] theorem b_impl_stepForm_6_eq : GoEq CC DD b_impl_stepForm_6 (.cond (.tmp 16) .skip (.ops 2 r_impl_stepForm_14)) := goEq rfl
noncomputable def b_impl_stepForm_7 : PC := (.seq (.ops 2 r_impl_stepForm_15) .ret)
@[go_sem] theorem b_impl_stepForm_7_eq : GoEq CC DD b_impl_stepForm_7 (.seq (.ops 2 r_impl_stepForm_15) .ret) := goEq rfl
noncomputable def b_impl_stepForm_8 : PC := (.seq (.ops 2 r_impl_stepForm_17) .ret)
@[go_sem] theorem b_impl_stepForm_8_eq : GoEq CC DD b_impl_stepForm_8 (.seq (.ops 2 r_impl_stepForm_17) .ret) := goEq rfl
noncomputable def b_impl_stepForm_9 : PC := (.seq (.ops 2 r_impl_stepForm_19) .ret)
@[go_sem] theorem b_impl_stepForm_9_eq : GoEq CC DD b_impl_stepForm_9 (.seq (.ops 2 r_impl_stepForm_19) .ret) := goEq rfl
noncomputable def b_impl_stepForm_10 : PC := (.seq (.ops 2 r_impl_stepForm_21) .ret)
@[go_sem] theorem b_impl_stepForm_10_eq : GoEq CC DD b_impl_stepForm_10 (.seq (.ops 2 r_impl_stepForm_21) .ret) := goEq rfl
noncomputable def b_impl_stepForm_11 : PC := (.cond (.tmp 23) b_impl_stepForm_10 .skip)
@[go_sem] theorem b_impl_stepForm_11_eq : GoEq CC DD b_impl_stepForm_11 (.cond (.tmp 23) b_impl_stepForm_10 .skip) := goEq rfl
noncomputable def b_impl_stepForm_12 : PC := (.seq (.ops 2 r_impl_stepForm_20) b_impl_stepForm_11)
@[go_sem] theorem b_impl_stepForm_12_eq : GoEq CC DD b_impl_stepForm_12 (.seq (.ops 2 r_impl_stepForm_20) b_impl_stepForm_11) := goEq rfl
noncomputable def b_impl_stepForm_13 : PC := (.cond (.tmp 21) b_impl_stepForm_9 b_impl_stepForm_12)
@[go_sem] theorem b_impl_stepForm_13_eq : GoEq CC DD b_impl_stepForm_13 (.cond (.tmp 21) b_impl_stepForm_9 b_impl_stepForm_12) := goEq rfl
noncomputable def b_impl_stepForm_14 : PC := (.seq (.ops 2 r_impl_stepForm_18) b_impl_stepForm_13)
@[go_sem] theorem b_impl_stepForm_14_eq : GoEq CC DD b_impl_stepForm_14 (.seq (.ops 2 r_impl_stepForm_18) b_impl_stepForm_13) := goEq rfl
noncomputable def b_impl_stepForm_15 : PC := (.cond (.tmp 19) b_impl_stepForm_8 b_impl_stepForm_14)
@[go_sem] theorem b_impl_stepForm_15_eq : GoEq CC DD b_impl_stepForm_15 (.cond (.tmp 19) b_impl_stepForm_8 b_impl_stepForm_14) := goEq rfl
noncomputable def b_impl_stepForm_16 : PC := (.seq (.ops 2 r_impl_stepForm_16) b_impl_stepForm_15)
@[go_sem] theorem b_impl_stepForm_16_eq : GoEq CC DD b_impl_stepForm_16 (.seq (.ops 2 r_impl_stepForm_16) b_impl_stepForm_15) := goEq rfl
noncomputable def b_impl_stepForm_17 : PC := (.cond (.tmp 16) b_impl_stepForm_7 b_impl_stepForm_16)
@[go_sem] theorem b_impl_stepForm_17_eq : GoEq CC DD b_impl_stepForm_17 (.cond (.tmp 16) b_impl_stepForm_7 b_impl_stepForm_16) := goEq rfl
noncomputable def b_impl_stepForm_18 : PC := (.seq (.seq (.ops 2 r_impl_stepForm_13) b_impl_stepForm_6) b_impl_stepForm_17)
@[go_sem] theorem b_impl_stepForm_18_eq : GoEq CC DD b_impl_stepForm_18 (.seq (.seq (.ops 2 r_impl_stepForm_13) b_impl_stepForm_6) b_impl_stepForm_17) := goEq rfl
noncomputable def b_impl_stepForm_19 : PC := (.cond (.tmp 14) b_impl_stepForm_5 b_impl_stepForm_18)
@[go_sem] theorem b_impl_stepForm_19_eq : GoEq CC DD b_impl_stepForm_19 (.cond (.tmp 14) b_impl_stepForm_5 b_impl_stepForm_18) := goEq rfl
noncomputable def b_impl_stepForm_20 : PC := (.seq (.ops 2 r_impl_stepForm_11) b_impl_stepForm_19)
@[go_sem] theorem b_impl_stepForm_20_eq : GoEq CC DD b_impl_stepForm_20 (.seq (.ops 2 r_impl_stepForm_11) b_impl_stepForm_19) := goEq rfl
noncomputable def b_impl_stepForm_21 : PC := (.cond (.tmp 12) b_impl_stepForm_4 b_impl_stepForm_20)
@[go_sem] theorem b_impl_stepForm_21_eq : GoEq CC DD b_impl_stepForm_21 (.cond (.tmp 12) b_impl_stepForm_4 b_impl_stepForm_20) := goEq rfl
noncomputable def b_impl_stepForm_22 : PC := (.seq (.ops 2 r_impl_stepForm_9) b_impl_stepForm_21)
@[go_sem] theorem b_impl_stepForm_22_eq : GoEq CC DD b_impl_stepForm_22 (.seq (.ops 2 r_impl_stepForm_9) b_impl_stepForm_21) := goEq rfl
noncomputable def b_impl_stepForm_23 : PC := (.cond (.tmp 10) b_impl_stepForm_3 b_impl_stepForm_22)
@[go_sem] theorem b_impl_stepForm_23_eq : GoEq CC DD b_impl_stepForm_23 (.cond (.tmp 10) b_impl_stepForm_3 b_impl_stepForm_22) := goEq rfl
noncomputable def b_impl_stepForm_24 : PC := (.seq (.ops 2 r_impl_stepForm_7) b_impl_stepForm_23)
@[go_sem] theorem b_impl_stepForm_24_eq : GoEq CC DD b_impl_stepForm_24 (.seq (.ops 2 r_impl_stepForm_7) b_impl_stepForm_23) := goEq rfl
noncomputable def b_impl_stepForm_25 : PC := (.cond (.tmp 7) b_impl_stepForm_2 b_impl_stepForm_24)
@[go_sem] theorem b_impl_stepForm_25_eq : GoEq CC DD b_impl_stepForm_25 (.cond (.tmp 7) b_impl_stepForm_2 b_impl_stepForm_24) := goEq rfl
noncomputable def b_impl_stepForm_26 : PC := (.seq (.seq (.ops 2 r_impl_stepForm_4) b_impl_stepForm_1) b_impl_stepForm_25)
@[go_sem] theorem b_impl_stepForm_26_eq : GoEq CC DD b_impl_stepForm_26 (.seq (.seq (.ops 2 r_impl_stepForm_4) b_impl_stepForm_1) b_impl_stepForm_25) := goEq rfl
noncomputable def b_impl_stepForm_27 : PC := (.cond (.tmp 5) b_impl_stepForm_0 b_impl_stepForm_26)
@[go_sem] theorem b_impl_stepForm_27_eq : GoEq CC DD b_impl_stepForm_27 (.cond (.tmp 5) b_impl_stepForm_0 b_impl_stepForm_26) := goEq rfl
noncomputable def b_impl_stepForm_28 : PC := (.seq (.ops 2 r_impl_stepForm_2) b_impl_stepForm_27)
@[go_sem] theorem b_impl_stepForm_28_eq : GoEq CC DD b_impl_stepForm_28 (.seq (.ops 2 r_impl_stepForm_2) b_impl_stepForm_27) := goEq rfl
noncomputable def b_impl_stepForm_29 : PC := (.block 0 b_impl_stepForm_28)
@[go_sem] theorem b_impl_stepForm_29_eq : GoEq CC DD b_impl_stepForm_29 (.block 0 b_impl_stepForm_28) := goEq rfl
noncomputable def b_impl_stepForm_30 : PC := (.seq (.ops 5 r_impl_stepForm_22) .ret)
@[go_sem] theorem b_impl_stepForm_30_eq : GoEq CC DD b_impl_stepForm_30 (.seq (.ops 5 r_impl_stepForm_22) .ret) := goEq rfl
noncomputable def b_impl_stepForm_31 : PC := (.seq (.seq (.ops 1 r_impl_stepForm_1) b_impl_stepForm_29) b_impl_stepForm_30)
@[go_sem] theorem b_impl_stepForm_31_eq : GoEq CC DD b_impl_stepForm_31 (.seq (.seq (.ops 1 r_impl_stepForm_1) b_impl_stepForm_29) b_impl_stepForm_30) := goEq rfl
noncomputable def c_impl_stepForm : PC :=
  (.seq (.ops 2 r_impl_stepForm_0) b_impl_stepForm_31)
theorem res_impl_stepForm : Try.f64.results.toList = [(ResultVar.tmp 2), (ResultVar.tmp 3)] := rfl
theorem c_impl_stepForm_ok : prep ((Try.f64.body).getD .skip) = some c_impl_stepForm := by kernel_rfl
noncomputable def r_impl_stepPart_0 : List POp := regAt Try.f65 0
@[go_sem] theorem r_impl_stepPart_0_eq : OpEq CC DD r_impl_stepPart_0 [
  ⟨(some 6), none, (.assign (.const (.bool false)))⟩] := opEq (by kernel_rfl)
noncomputable def r_impl_stepPart_1 : List POp := regAt Try.f65 1
@[go_sem] theorem r_impl_stepPart_1_eq : OpEq CC DD r_impl_stepPart_1 [
  ⟨(some 7), none, (.move (.tmp 1))⟩] := opEq (by kernel_rfl)
noncomputable def r_impl_stepPart_2 : List POp := regAt Try.f65 2
@[go_sem] theorem r_impl_stepPart_2_eq : OpEq CC DD r_impl_stepPart_2 [
  ⟨(some 8), none, (.move (.tmp 0))⟩,
  ⟨(some 9), none, (.move (.tmp 2))⟩,
  ⟨(some 10), none, (.call { callee := (.value (.func 67)), args := #[(.tmp 8), (.const (.int .i64 0)), (.tmp 9)], argTypes := #[3, 3, 3] })⟩,
  ⟨(some 6), none, (.assign (.tmp 10))⟩] := opEq (by kernel_rfl)
noncomputable def r_impl_stepPart_3 : List POp := regAt Try.f65 3
@[go_sem] theorem r_impl_stepPart_3_eq : OpEq CC DD r_impl_stepPart_3 [
  ⟨(some 11), none, (.move (.tmp 0))⟩,
  ⟨(some 12), none, (.binOp .eql 3 (.tmp 11) (.const (.int .i64 0)) 3)⟩,
  ⟨(some 6), none, (.assign (.tmp 12))⟩] := opEq (by kernel_rfl)
noncomputable def b_impl_stepPart_0 : PC := (.seq (.ops 4 r_impl_stepPart_2) .ret)
@[go_sem] theorem b_impl_stepPart_0_eq : GoEq CC DD b_impl_stepPart_0 (.seq (.ops 4 r_impl_stepPart_2) .ret) := goEq rfl
noncomputable def b_impl_stepPart_1 : PC := (.cond (.tmp 7) b_impl_stepPart_0 .skip)
@[go_sem] theorem b_impl_stepPart_1_eq : GoEq CC DD b_impl_stepPart_1 (.cond (.tmp 7) b_impl_stepPart_0 .skip) := goEq rfl
noncomputable def b_impl_stepPart_2 : PC := (.seq (.ops 3 r_impl_stepPart_3) .ret)
@[go_sem] theorem b_impl_stepPart_2_eq : GoEq CC DD b_impl_stepPart_2 (.seq (.ops 3 r_impl_stepPart_3) .ret) := goEq rfl
noncomputable def b_impl_stepPart_3 : PC := (.seq (.seq (.ops 1 r_impl_stepPart_1) b_impl_stepPart_1) b_impl_stepPart_2)
@[go_sem] theorem b_impl_stepPart_3_eq : GoEq CC DD b_impl_stepPart_3 (.seq (.seq (.ops 1 r_impl_stepPart_1) b_impl_stepPart_1) b_impl_stepPart_2) := goEq rfl
noncomputable def c_impl_stepPart : PC :=
  (.seq (.ops 1 r_impl_stepPart_0) b_impl_stepPart_3)
theorem res_impl_stepPart : Try.f65.results.toList = [(ResultVar.tmp 6)] := rfl
theorem c_impl_stepPart_ok : prep ((Try.f65.body).getD .skip) = some c_impl_stepPart := by kernel_rfl
noncomputable def r_slices_Contains_byte_0 : List POp := regAt Try.f66 0
@[go_sem] theorem r_slices_Contains_byte_0_eq : OpEq CC DD r_slices_Contains_byte_0 [
  ⟨(some 4), none, (.assign (.const (.bool false)))⟩] := opEq (by kernel_rfl)
noncomputable def r_slices_Contains_byte_1 : List POp := regAt Try.f66 1
@[go_sem] theorem r_slices_Contains_byte_1_eq : OpEq CC DD r_slices_Contains_byte_1 [
  ⟨(some 5), none, (.move (.tmp 0))⟩,
  ⟨(some 6), none, (.move (.tmp 1))⟩,
  ⟨(some 7), none, (.call { callee := (.value (.func 114)), args := #[(.tmp 5), (.tmp 6)], argTypes := #[28, 5] })⟩,
  ⟨(some 8), none, (.binOp .geq 3 (.tmp 7) (.const (.int .i64 0)) 3)⟩,
  ⟨(some 4), none, (.assign (.tmp 8))⟩] := opEq (by kernel_rfl)
noncomputable def b_slices_Contains_byte_0 : PC := (.seq (.ops 5 r_slices_Contains_byte_1) .ret)
@[go_sem] theorem b_slices_Contains_byte_0_eq : GoEq CC DD b_slices_Contains_byte_0 (.seq (.ops 5 r_slices_Contains_byte_1) .ret) := goEq rfl
noncomputable def c_slices_Contains_byte : PC :=
  (.seq (.ops 1 r_slices_Contains_byte_0) b_slices_Contains_byte_0)
theorem res_slices_Contains_byte : Try.f66.results.toList = [(ResultVar.tmp 4)] := rfl
theorem c_slices_Contains_byte_ok : prep ((Try.f66.body).getD .skip) = some c_slices_Contains_byte := by kernel_rfl
noncomputable def r_impl_in_0 : List POp := regAt Try.f67 0
@[go_sem] theorem r_impl_in_0_eq : OpEq CC DD r_impl_in_0 [
  ⟨(some 6), none, (.assign (.const (.bool false)))⟩] := opEq (by kernel_rfl)
noncomputable def r_impl_in_1 : List POp := regAt Try.f67 1
@[go_sem] theorem r_impl_in_1_eq : OpEq CC DD r_impl_in_1 [
  ⟨(some 7), none, (.move (.tmp 0))⟩,
  ⟨(some 8), none, (.move (.tmp 1))⟩,
  ⟨(some 9), none, (.binOp .geq 3 (.tmp 7) (.tmp 8) 3)⟩,
  ⟨(some 10), none, (.move (.tmp 9))⟩,
  ⟨(some 11), (some (10, true)), (.move (.tmp 0))⟩,
  ⟨(some 12), (some (10, true)), (.move (.tmp 2))⟩,
  ⟨(some 13), (some (10, true)), (.binOp .leq 3 (.tmp 11) (.tmp 12) 3)⟩,
  ⟨(some 14), none, (.pick (.tmp 10) (.tmp 13) (.const (.bool false)))⟩,
  ⟨(some 6), none, (.assign (.tmp 14))⟩] := opEq (by kernel_rfl)
noncomputable def b_impl_in_0 : PC := (.seq (.ops 9 r_impl_in_1) .ret)
@[go_sem] theorem b_impl_in_0_eq : GoEq CC DD b_impl_in_0 (.seq (.ops 9 r_impl_in_1) .ret) := goEq rfl
noncomputable def c_impl_in : PC :=
  (.seq (.ops 1 r_impl_in_0) b_impl_in_0)
theorem res_impl_in : Try.f67.results.toList = [(ResultVar.tmp 6)] := rfl
theorem c_impl_in_ok : prep ((Try.f67.body).getD .skip) = some c_impl_in := by kernel_rfl
noncomputable def r_slices_ContainsFunc_impl_Step_0 : List POp := regAt Try.f74 0
@[go_sem] theorem r_slices_ContainsFunc_impl_Step_0_eq : OpEq CC DD r_slices_ContainsFunc_impl_Step_0 [
  ⟨(some 4), none, (.assign (.const (.bool false)))⟩] := opEq (by kernel_rfl)
noncomputable def r_slices_ContainsFunc_impl_Step_1 : List POp := regAt Try.f74 1
@[go_sem] theorem r_slices_ContainsFunc_impl_Step_1_eq : OpEq CC DD r_slices_ContainsFunc_impl_Step_1 [
  ⟨(some 5), none, (.move (.tmp 0))⟩,
  ⟨(some 6), none, (.move (.tmp 1))⟩,
  ⟨(some 7), none, (.call { callee := (.value (.func 115)), args := #[(.tmp 5), (.tmp 6)], argTypes := #[39, 96] })⟩,
  ⟨(some 8), none, (.binOp .geq 3 (.tmp 7) (.const (.int .i64 0)) 3)⟩,
  ⟨(some 4), none, (.assign (.tmp 8))⟩] := opEq (by kernel_rfl)
noncomputable def b_slices_ContainsFunc_impl_Step_0 : PC := (.seq (.ops 5 r_slices_ContainsFunc_impl_Step_1) .ret)
@[go_sem] theorem b_slices_ContainsFunc_impl_Step_0_eq : GoEq CC DD b_slices_ContainsFunc_impl_Step_0 (.seq (.ops 5 r_slices_ContainsFunc_impl_Step_1) .ret) := goEq rfl
noncomputable def c_slices_ContainsFunc_impl_Step : PC :=
  (.seq (.ops 1 r_slices_ContainsFunc_impl_Step_0) b_slices_ContainsFunc_impl_Step_0)
theorem res_slices_ContainsFunc_impl_Step : Try.f74.results.toList = [(ResultVar.tmp 4)] := rfl
theorem c_slices_ContainsFunc_impl_Step_ok : prep ((Try.f74.body).getD .skip) = some c_slices_ContainsFunc_impl_Step := by kernel_rfl
noncomputable def r_impl_MachineOk_1_0 : List POp := regAt Try.f75 0
@[go_sem] theorem r_impl_MachineOk_1_0_eq : OpEq CC DD r_impl_MachineOk_1_0 [
  ⟨(some 2), none, (.box 25 (.tmp 0))⟩,
  ⟨(some 3), none, (.assign (.const (.bool false)))⟩] := opEq (by kernel_rfl)
noncomputable def r_impl_MachineOk_1_1 : List POp := regAt Try.f75 1
@[go_sem] theorem r_impl_MachineOk_1_1_eq : OpEq CC DD r_impl_MachineOk_1_1 [
  ⟨(some 4), none, (.load 25 (.tmp 2))⟩,
  ⟨(some 5), none, (.load 39 (.tmp 1))⟩,
  ⟨(some 6), none, (.call { callee := (.builtin .len), args := #[(.tmp 5)], argTypes := #[39] })⟩,
  ⟨(some 7), none, (.call { callee := (.value (.func 16)), args := #[(.tmp 4), (.tmp 6)], argTypes := #[25, 3] })⟩,
  ⟨(some 8), none, (.unOp .not 4 (.tmp 7))⟩,
  ⟨(some 3), none, (.assign (.tmp 8))⟩] := opEq (by kernel_rfl)
noncomputable def b_impl_MachineOk_1_0 : PC := (.seq (.ops 6 r_impl_MachineOk_1_1) .ret)
@[go_sem] theorem b_impl_MachineOk_1_0_eq : GoEq CC DD b_impl_MachineOk_1_0 (.seq (.ops 6 r_impl_MachineOk_1_1) .ret) := goEq rfl
noncomputable def c_impl_MachineOk_1 : PC :=
  (.seq (.ops 2 r_impl_MachineOk_1_0) b_impl_MachineOk_1_0)
theorem res_impl_MachineOk_1 : Try.f75.results.toList = [(ResultVar.tmp 3)] := rfl
theorem c_impl_MachineOk_1_ok : prep ((Try.f75.body).getD .skip) = some c_impl_MachineOk_1 := by kernel_rfl
noncomputable def r_laws_eqStep_0 : List POp := regAt Try.f76 0
@[go_sem] theorem r_laws_eqStep_0_eq : OpEq CC DD r_laws_eqStep_0 [
  ⟨(some 2), none, (.box 25 (.tmp 0))⟩,
  ⟨(some 3), none, (.box 25 (.tmp 1))⟩,
  ⟨(some 4), none, (.assign (.const (.bool false)))⟩] := opEq (by kernel_rfl)
noncomputable def r_laws_eqStep_1 : List POp := regAt Try.f76 1
@[go_sem] theorem r_laws_eqStep_1_eq : OpEq CC DD r_laws_eqStep_1 [
  ⟨(some 5), none, (.fieldAddr 25 (.tmp 2) 0)⟩,
  ⟨(some 6), none, (.load 3 (.tmp 5))⟩,
  ⟨(some 7), none, (.fieldAddr 25 (.tmp 3) 0)⟩,
  ⟨(some 8), none, (.load 3 (.tmp 7))⟩,
  ⟨(some 9), none, (.binOp .neq 3 (.tmp 6) (.tmp 8) 3)⟩] := opEq (by kernel_rfl)
noncomputable def r_laws_eqStep_2 : List POp := regAt Try.f76 2
@[go_sem] theorem r_laws_eqStep_2_eq : OpEq CC DD r_laws_eqStep_2 [
  ⟨(some 4), none, (.assign (.const (.bool false)))⟩] := opEq (by kernel_rfl)
noncomputable def r_laws_eqStep_3 : List POp := regAt Try.f76 3
@[go_sem] theorem r_laws_eqStep_3_eq : OpEq CC DD r_laws_eqStep_3 [
  ⟨(some 10), none, (.fieldAddr 25 (.tmp 2) 1)⟩,
  ⟨(some 11), none, (.load 3 (.tmp 10))⟩,
  ⟨(some 12), none, (.fieldAddr 25 (.tmp 3) 1)⟩,
  ⟨(some 13), none, (.load 3 (.tmp 12))⟩,
  ⟨(some 14), none, (.binOp .neq 3 (.tmp 11) (.tmp 13) 3)⟩] := opEq (by kernel_rfl)
noncomputable def r_laws_eqStep_4 : List POp := regAt Try.f76 4
@[go_sem] theorem r_laws_eqStep_4_eq : OpEq CC DD r_laws_eqStep_4 [
  ⟨(some 4), none, (.assign (.const (.bool false)))⟩] := opEq (by kernel_rfl)
noncomputable def r_laws_eqStep_5 : List POp := regAt Try.f76 5
@[go_sem] theorem r_laws_eqStep_5_eq : OpEq CC DD r_laws_eqStep_5 [
  ⟨(some 15), none, (.fieldAddr 25 (.tmp 2) 2)⟩,
  ⟨(some 16), none, (.load 3 (.tmp 15))⟩,
  ⟨(some 17), none, (.fieldAddr 25 (.tmp 3) 2)⟩,
  ⟨(some 18), none, (.load 3 (.tmp 17))⟩,
  ⟨(some 19), none, (.binOp .neq 3 (.tmp 16) (.tmp 18) 3)⟩] := opEq (by kernel_rfl)
noncomputable def r_laws_eqStep_6 : List POp := regAt Try.f76 6
@[go_sem] theorem r_laws_eqStep_6_eq : OpEq CC DD r_laws_eqStep_6 [
  ⟨(some 4), none, (.assign (.const (.bool false)))⟩] := opEq (by kernel_rfl)
noncomputable def r_laws_eqStep_7 : List POp := regAt Try.f76 7
@[go_sem] theorem r_laws_eqStep_7_eq : OpEq CC DD r_laws_eqStep_7 [
  ⟨(some 20), none, (.fieldAddr 25 (.tmp 2) 3)⟩,
  ⟨(some 21), none, (.load 3 (.tmp 20))⟩,
  ⟨(some 22), none, (.fieldAddr 25 (.tmp 3) 3)⟩,
  ⟨(some 23), none, (.load 3 (.tmp 22))⟩,
  ⟨(some 24), none, (.binOp .neq 3 (.tmp 21) (.tmp 23) 3)⟩] := opEq (by kernel_rfl)
noncomputable def r_laws_eqStep_8 : List POp := regAt Try.f76 8
@[go_sem] theorem r_laws_eqStep_8_eq : OpEq CC DD r_laws_eqStep_8 [
  ⟨(some 4), none, (.assign (.const (.bool false)))⟩] := opEq (by kernel_rfl)
noncomputable def r_laws_eqStep_9 : List POp := regAt Try.f76 9
@[go_sem] theorem r_laws_eqStep_9_eq : OpEq CC DD r_laws_eqStep_9 [
  ⟨(some 25), none, (.fieldAddr 25 (.tmp 2) 4)⟩,
  ⟨(some 26), none, (.load 3 (.tmp 25))⟩,
  ⟨(some 27), none, (.fieldAddr 25 (.tmp 3) 4)⟩,
  ⟨(some 28), none, (.load 3 (.tmp 27))⟩,
  ⟨(some 29), none, (.binOp .neq 3 (.tmp 26) (.tmp 28) 3)⟩] := opEq (by kernel_rfl)
noncomputable def r_laws_eqStep_10 : List POp := regAt Try.f76 10
@[go_sem] theorem r_laws_eqStep_10_eq : OpEq CC DD r_laws_eqStep_10 [
  ⟨(some 4), none, (.assign (.const (.bool false)))⟩] := opEq (by kernel_rfl)
noncomputable def r_laws_eqStep_11 : List POp := regAt Try.f76 11
@[go_sem] theorem r_laws_eqStep_11_eq : OpEq CC DD r_laws_eqStep_11 [
  ⟨(some 4), none, (.assign (.const (.bool true)))⟩] := opEq (by kernel_rfl)
noncomputable def b_laws_eqStep_0 : PC := (.seq (.ops 1 r_laws_eqStep_2) .ret)
@[go_sem] theorem b_laws_eqStep_0_eq : GoEq CC DD b_laws_eqStep_0 (.seq (.ops 1 r_laws_eqStep_2) .ret) := goEq rfl
noncomputable def b_laws_eqStep_1 : PC := (.cond (.tmp 9) b_laws_eqStep_0 .skip)
@[go_sem] theorem b_laws_eqStep_1_eq : GoEq CC DD b_laws_eqStep_1 (.cond (.tmp 9) b_laws_eqStep_0 .skip) := goEq rfl
noncomputable def b_laws_eqStep_2 : PC := (.seq (.ops 1 r_laws_eqStep_4) .ret)
@[go_sem] theorem b_laws_eqStep_2_eq : GoEq CC DD b_laws_eqStep_2 (.seq (.ops 1 r_laws_eqStep_4) .ret) := goEq rfl
noncomputable def b_laws_eqStep_3 : PC := (.cond (.tmp 14) b_laws_eqStep_2 .skip)
@[go_sem] theorem b_laws_eqStep_3_eq : GoEq CC DD b_laws_eqStep_3 (.cond (.tmp 14) b_laws_eqStep_2 .skip) := goEq rfl
noncomputable def b_laws_eqStep_4 : PC := (.seq (.ops 1 r_laws_eqStep_6) .ret)
@[go_sem] theorem b_laws_eqStep_4_eq : GoEq CC DD b_laws_eqStep_4 (.seq (.ops 1 r_laws_eqStep_6) .ret) := goEq rfl
noncomputable def b_laws_eqStep_5 : PC := (.cond (.tmp 19) b_laws_eqStep_4 .skip)
@[go_sem] theorem b_laws_eqStep_5_eq : GoEq CC DD b_laws_eqStep_5 (.cond (.tmp 19) b_laws_eqStep_4 .skip) := goEq rfl
noncomputable def b_laws_eqStep_6 : PC := (.seq (.ops 1 r_laws_eqStep_8) .ret)
@[go_sem] theorem b_laws_eqStep_6_eq : GoEq CC DD b_laws_eqStep_6 (.seq (.ops 1 r_laws_eqStep_8) .ret) := goEq rfl
noncomputable def b_laws_eqStep_7 : PC := (.cond (.tmp 24) b_laws_eqStep_6 .skip)
@[go_sem] theorem b_laws_eqStep_7_eq : GoEq CC DD b_laws_eqStep_7 (.cond (.tmp 24) b_laws_eqStep_6 .skip) := goEq rfl
noncomputable def b_laws_eqStep_8 : PC := (.seq (.ops 1 r_laws_eqStep_10) .ret)
@[go_sem] theorem b_laws_eqStep_8_eq : GoEq CC DD b_laws_eqStep_8 (.seq (.ops 1 r_laws_eqStep_10) .ret) := goEq rfl
noncomputable def b_laws_eqStep_9 : PC := (.cond (.tmp 29) b_laws_eqStep_8 .skip)
@[go_sem] theorem b_laws_eqStep_9_eq : GoEq CC DD b_laws_eqStep_9 (.cond (.tmp 29) b_laws_eqStep_8 .skip) := goEq rfl
noncomputable def b_laws_eqStep_10 : PC := (.seq (.ops 1 r_laws_eqStep_11) .ret)
@[go_sem] theorem b_laws_eqStep_10_eq : GoEq CC DD b_laws_eqStep_10 (.seq (.ops 1 r_laws_eqStep_11) .ret) := goEq rfl
noncomputable def b_laws_eqStep_11 : PC := (.seq (.seq (.ops 5 r_laws_eqStep_9) b_laws_eqStep_9) b_laws_eqStep_10)
@[go_sem] theorem b_laws_eqStep_11_eq : GoEq CC DD b_laws_eqStep_11 (.seq (.seq (.ops 5 r_laws_eqStep_9) b_laws_eqStep_9) b_laws_eqStep_10) := goEq rfl
noncomputable def b_laws_eqStep_12 : PC := (.seq (.seq (.ops 5 r_laws_eqStep_7) b_laws_eqStep_7) b_laws_eqStep_11)
@[go_sem] theorem b_laws_eqStep_12_eq : GoEq CC DD b_laws_eqStep_12 (.seq (.seq (.ops 5 r_laws_eqStep_7) b_laws_eqStep_7) b_laws_eqStep_11) := goEq rfl
noncomputable def b_laws_eqStep_13 : PC := (.seq (.seq (.ops 5 r_laws_eqStep_5) b_laws_eqStep_5) b_laws_eqStep_12)
@[go_sem] theorem b_laws_eqStep_13_eq : GoEq CC DD b_laws_eqStep_13 (.seq (.seq (.ops 5 r_laws_eqStep_5) b_laws_eqStep_5) b_laws_eqStep_12) := goEq rfl
noncomputable def b_laws_eqStep_14 : PC := (.seq (.seq (.ops 5 r_laws_eqStep_3) b_laws_eqStep_3) b_laws_eqStep_13)
@[go_sem] theorem b_laws_eqStep_14_eq : GoEq CC DD b_laws_eqStep_14 (.seq (.seq (.ops 5 r_laws_eqStep_3) b_laws_eqStep_3) b_laws_eqStep_13) := goEq rfl
noncomputable def b_laws_eqStep_15 : PC := (.seq (.seq (.ops 5 r_laws_eqStep_1) b_laws_eqStep_1) b_laws_eqStep_14)
@[go_sem] theorem b_laws_eqStep_15_eq : GoEq CC DD b_laws_eqStep_15 (.seq (.seq (.ops 5 r_laws_eqStep_1) b_laws_eqStep_1) b_laws_eqStep_14) := goEq rfl
noncomputable def c_laws_eqStep : PC :=
  (.seq (.ops 3 r_laws_eqStep_0) b_laws_eqStep_15)
theorem res_laws_eqStep : Try.f76.results.toList = [(ResultVar.tmp 4)] := rfl
theorem c_laws_eqStep_ok : prep ((Try.f76.body).getD .skip) = some c_laws_eqStep := by kernel_rfl
noncomputable def r_spec_Idle_0 : List POp := regAt Try.f89 0
@[go_sem] theorem r_spec_Idle_0_eq : OpEq CC DD r_spec_Idle_0 [
  ⟨(some 2), none, (.box 25 (.tmp 0))⟩,
  ⟨(some 4), none, (.assign (.const (.bool false)))⟩] := opEq (by kernel_rfl)
noncomputable def r_spec_Idle_1 : List POp := regAt Try.f89 1
@[go_sem] theorem r_spec_Idle_1_eq : OpEq CC DD r_spec_Idle_1 [
  ⟨(some 5), none, (.fieldAddr 25 (.tmp 2) 0)⟩,
  ⟨(some 6), none, (.load 3 (.tmp 5))⟩] := opEq (by kernel_rfl)
noncomputable def r_spec_Idle_2 : List POp := regAt Try.f89 2
@[go_sem] theorem r_spec_Idle_2_eq : OpEq CC DD r_spec_Idle_2 [
  ⟨(some 8), none, (.binOp .eql 3 (.tmp 6) (.const (.int .i64 2)) 3)⟩,
  ⟨(some 7), none, (.assign (.tmp 8))⟩] := opEq (by kernel_rfl)
noncomputable def r_spec_Idle_3 : List POp := regAt Try.f89 3
@[go_sem] theorem r_spec_Idle_3_eq : OpEq CC DD r_spec_Idle_3 [
  ⟨(some 9), none, (.fieldAddr 25 (.tmp 2) 1)⟩,
  ⟨(some 10), none, (.load 3 (.tmp 9))⟩,
  ⟨(some 11), none, (.fieldAddr 25 (.tmp 2) 2)⟩,
  ⟨(some 12), none, (.load 3 (.tmp 11))⟩,
  ⟨(some 13), none, (.binOp .eql 3 (.tmp 10) (.tmp 12) 3)⟩,
  ⟨(some 4), none, (.assign (.tmp 13))⟩] := opEq (by kernel_rfl)
noncomputable def r_spec_Idle_4 : List POp := regAt Try.f89 4
@[go_sem] theorem r_spec_Idle_4_eq : OpEq CC DD r_spec_Idle_4 [
  ⟨(some 15), none, (.binOp .eql 3 (.tmp 6) (.const (.int .i64 9)) 3)⟩,
  ⟨(some 14), none, (.assign (.tmp 15))⟩] := opEq (by kernel_rfl)
noncomputable def r_spec_Idle_5 : List POp := regAt Try.f89 5
@[go_sem] theorem r_spec_Idle_5_eq : OpEq CC DD r_spec_Idle_5 [
  ⟨(some 16), none, (.binOp .eql 3 (.tmp 6) (.const (.int .i64 10)) 3)⟩,
  ⟨(some 14), none, (.assign (.tmp 16))⟩] := opEq (by kernel_rfl)
noncomputable def r_spec_Idle_6 : List POp := regAt Try.f89 6
@[go_sem] theorem r_spec_Idle_6_eq : OpEq CC DD r_spec_Idle_6 [
  ⟨(some 17), none, (.fieldAddr 25 (.tmp 2) 4)⟩,
  ⟨(some 18), none, (.load 3 (.tmp 17))⟩,
  ⟨(some 19), none, (.move (.tmp 1))⟩,
  ⟨(some 20), none, (.binOp .add 3 (.tmp 19) (.const (.int .i64 1)) 3)⟩,
  ⟨(some 21), none, (.binOp .eql 3 (.tmp 18) (.tmp 20) 3)⟩,
  ⟨(some 4), none, (.assign (.tmp 21))⟩] := opEq (by kernel_rfl)
noncomputable def r_spec_Idle_7 : List POp := regAt Try.f89 7
@[go_sem] theorem r_spec_Idle_7_eq : OpEq CC DD r_spec_Idle_7 [
  ⟨(some 4), none, (.assign (.const (.bool false)))⟩] := opEq (by kernel_rfl)
noncomputable def b_spec_Idle_0 : PC := (.seq (.ops 6 r_spec_Idle_3) .ret)
@[go_sem] theorem b_spec_Idle_0_eq : GoEq CC DD b_spec_Idle_0 (.seq (.ops 6 r_spec_Idle_3) .ret) := goEq rfl
noncomputable def b_spec_Idle_1 : PC := (.cond (.tmp 14) .skip (.ops 2 r_spec_Idle_5))
@[go_sem] theorem b_spec_Idle_1_eq : GoEq CC DD b_spec_Idle_1 (.cond (.tmp 14) .skip (.ops 2 r_spec_Idle_5)) := goEq rfl
noncomputable def b_spec_Idle_2 : PC := (.seq (.ops 6 r_spec_Idle_6) .ret)
@[go_sem] theorem b_spec_Idle_2_eq : GoEq CC DD b_spec_Idle_2 (.seq (.ops 6 r_spec_Idle_6) .ret) := goEq rfl
noncomputable def b_spec_Idle_3 : PC := (.cond (.tmp 14) b_spec_Idle_2 .skip)
@[go_sem] theorem b_spec_Idle_3_eq : GoEq CC DD b_spec_Idle_3 (.cond (.tmp 14) b_spec_Idle_2 .skip) := goEq rfl
noncomputable def b_spec_Idle_4 : PC := (.seq (.seq (.ops 2 r_spec_Idle_4) b_spec_Idle_1) b_spec_Idle_3)
@[go_sem] theorem b_spec_Idle_4_eq : GoEq CC DD b_spec_Idle_4 (.seq (.seq (.ops 2 r_spec_Idle_4) b_spec_Idle_1) b_spec_Idle_3) := goEq rfl
noncomputable def b_spec_Idle_5 : PC := (.cond (.tmp 7) b_spec_Idle_0 b_spec_Idle_4)
@[go_sem] theorem b_spec_Idle_5_eq : GoEq CC DD b_spec_Idle_5 (.cond (.tmp 7) b_spec_Idle_0 b_spec_Idle_4) := goEq rfl
noncomputable def b_spec_Idle_6 : PC := (.seq (.ops 2 r_spec_Idle_2) b_spec_Idle_5)
@[go_sem] theorem b_spec_Idle_6_eq : GoEq CC DD b_spec_Idle_6 (.seq (.ops 2 r_spec_Idle_2) b_spec_Idle_5) := goEq rfl
noncomputable def b_spec_Idle_7 : PC := (.block 0 b_spec_Idle_6)
@[go_sem] theorem b_spec_Idle_7_eq : GoEq CC DD b_spec_Idle_7 (.block 0 b_spec_Idle_6) := goEq rfl
noncomputable def b_spec_Idle_8 : PC := (.seq (.ops 1 r_spec_Idle_7) .ret)
@[go_sem] theorem b_spec_Idle_8_eq : GoEq CC DD b_spec_Idle_8 (.seq (.ops 1 r_spec_Idle_7) .ret) := goEq rfl
noncomputable def b_spec_Idle_9 : PC := (.seq (.seq (.ops 2 r_spec_Idle_1) b_spec_Idle_7) b_spec_Idle_8)
@[go_sem] theorem b_spec_Idle_9_eq : GoEq CC DD b_spec_Idle_9 (.seq (.seq (.ops 2 r_spec_Idle_1) b_spec_Idle_7) b_spec_Idle_8) := goEq rfl
noncomputable def c_spec_Idle : PC :=
  (.seq (.ops 2 r_spec_Idle_0) b_spec_Idle_9)
theorem res_spec_Idle : Try.f89.results.toList = [(ResultVar.tmp 4)] := rfl
theorem c_spec_Idle_ok : prep ((Try.f89.body).getD .skip) = some c_spec_Idle := by kernel_rfl
noncomputable def r_slices_Clone_impl_Step_0 : List POp := regAt Try.f90 0
@[go_sem] theorem r_slices_Clone_impl_Step_0_eq : OpEq CC DD r_slices_Clone_impl_Step_0 [
  ⟨(some 2), none, (.assign (.const (.slice none 0 0)))⟩] := opEq (by kernel_rfl)
noncomputable def r_slices_Clone_impl_Step_1 : List POp := regAt Try.f90 1
@[go_sem] theorem r_slices_Clone_impl_Step_1_eq : OpEq CC DD r_slices_Clone_impl_Step_1 [
  ⟨(some 3), none, (.move (.tmp 0))⟩,
  ⟨(some 4), none, (.binOp .eql 39 (.tmp 3) (.const (.slice none 0 0)) 39)⟩] := opEq (by kernel_rfl)
noncomputable def r_slices_Clone_impl_Step_2 : List POp := regAt Try.f90 2
@[go_sem] theorem r_slices_Clone_impl_Step_2_eq : OpEq CC DD r_slices_Clone_impl_Step_2 [
  ⟨(some 2), none, (.assign (.const (.slice none 0 0)))⟩] := opEq (by kernel_rfl)
noncomputable def r_slices_Clone_impl_Step_3 : List POp := regAt Try.f90 3
@[go_sem] theorem r_slices_Clone_impl_Step_3_eq : OpEq CC DD r_slices_Clone_impl_Step_3 [
  ⟨(some 5), none, (.buildSlice 39 0 #[])⟩,
  ⟨(some 6), none, (.move (.tmp 0))⟩,
  ⟨(some 7), none, (.call { callee := (.builtin .append), args := #[(.tmp 5), (.tmp 6)], argTypes := #[39, 39] })⟩,
  ⟨(some 2), none, (.assign (.tmp 7))⟩] := opEq (by kernel_rfl)
noncomputable def b_slices_Clone_impl_Step_0 : PC := (.seq (.ops 1 r_slices_Clone_impl_Step_2) .ret)
@[go_sem] theorem b_slices_Clone_impl_Step_0_eq : GoEq CC DD b_slices_Clone_impl_Step_0 (.seq (.ops 1 r_slices_Clone_impl_Step_2) .ret) := goEq rfl
noncomputable def b_slices_Clone_impl_Step_1 : PC := (.cond (.tmp 4) b_slices_Clone_impl_Step_0 .skip)
@[go_sem] theorem b_slices_Clone_impl_Step_1_eq : GoEq CC DD b_slices_Clone_impl_Step_1 (.cond (.tmp 4) b_slices_Clone_impl_Step_0 .skip) := goEq rfl
noncomputable def b_slices_Clone_impl_Step_2 : PC := (.seq (.ops 4 r_slices_Clone_impl_Step_3) .ret)
@[go_sem] theorem b_slices_Clone_impl_Step_2_eq : GoEq CC DD b_slices_Clone_impl_Step_2 (.seq (.ops 4 r_slices_Clone_impl_Step_3) .ret) := goEq rfl
noncomputable def b_slices_Clone_impl_Step_3 : PC := (.seq (.seq (.ops 2 r_slices_Clone_impl_Step_1) b_slices_Clone_impl_Step_1) b_slices_Clone_impl_Step_2)
@[go_sem] theorem b_slices_Clone_impl_Step_3_eq : GoEq CC DD b_slices_Clone_impl_Step_3 (.seq (.seq (.ops 2 r_slices_Clone_impl_Step_1) b_slices_Clone_impl_Step_1) b_slices_Clone_impl_Step_2) := goEq rfl
noncomputable def c_slices_Clone_impl_Step : PC :=
  (.seq (.ops 1 r_slices_Clone_impl_Step_0) b_slices_Clone_impl_Step_3)
theorem res_slices_Clone_impl_Step : Try.f90.results.toList = [(ResultVar.tmp 2)] := rfl
theorem c_slices_Clone_impl_Step_ok : prep ((Try.f90.body).getD .skip) = some c_slices_Clone_impl_Step := by kernel_rfl
noncomputable def r_impl_Idle_0 : List POp := regAt Try.f91 0
@[go_sem] theorem r_impl_Idle_0_eq : OpEq CC DD r_impl_Idle_0 [
  ⟨(some 2), none, (.box 25 (.tmp 0))⟩,
  ⟨(some 4), none, (.assign (.const (.bool false)))⟩] := opEq (by kernel_rfl)
noncomputable def r_impl_Idle_1 : List POp := regAt Try.f91 1
@[go_sem] theorem r_impl_Idle_1_eq : OpEq CC DD r_impl_Idle_1 [
  ⟨(some 5), none, (.fieldAddr 25 (.tmp 2) 0)⟩,
  ⟨(some 6), none, (.load 3 (.tmp 5))⟩,
  ⟨(some 7), none, (.binOp .eql 3 (.tmp 6) (.const (.int .i64 2)) 3)⟩,
  ⟨(some 8), none, (.move (.tmp 7))⟩,
  ⟨(some 9), (some (8, true)), (.fieldAddr 25 (.tmp 2) 1)⟩,
  ⟨(some 10), (some (8, true)), (.load 3 (.tmp 9))⟩,
  ⟨(some 11), (some (8, true)), (.fieldAddr 25 (.tmp 2) 2)⟩,
  ⟨(some 12), (some (8, true)), (.load 3 (.tmp 11))⟩,
  ⟨(some 13), (some (8, true)), (.binOp .eql 3 (.tmp 10) (.tmp 12) 3)⟩,
  ⟨(some 14), none, (.pick (.tmp 8) (.tmp 13) (.const (.bool false)))⟩,
  ⟨(some 15), none, (.move (.tmp 14))⟩,
  ⟨(some 16), (some (15, false)), (.load 25 (.tmp 2))⟩,
  ⟨(some 17), (some (15, false)), (.call { callee := (.value (.func 92)), args := #[(.tmp 16)], argTypes := #[25] })⟩,
  ⟨(some 18), (some (15, false)), (.move (.tmp 17))⟩,
  ⟨(some 19), (some (18, true)), (.fieldAddr 25 (.tmp 2) 4)⟩,
  ⟨(some 20), (some (18, true)), (.load 3 (.tmp 19))⟩,
  ⟨(some 21), (some (18, true)), (.move (.tmp 1))⟩,
  ⟨(some 22), (some (18, true)), (.binOp .add 3 (.tmp 21) (.const (.int .i64 1)) 3)⟩,
  ⟨(some 23), (some (18, true)), (.binOp .eql 3 (.tmp 20) (.tmp 22) 3)⟩,
  ⟨(some 24), (some (15, false)), (.pick (.tmp 18) (.tmp 23) (.const (.bool false)))⟩,
  ⟨(some 25), none, (.pick (.tmp 15) (.const (.bool true)) (.tmp 24))⟩,
  ⟨(some 4), none, (.assign (.tmp 25))⟩] := opEq (by kernel_rfl)
noncomputable def b_impl_Idle_0 : PC := (.seq (.ops 22 r_impl_Idle_1) .ret)
@[go_sem] theorem b_impl_Idle_0_eq : GoEq CC DD b_impl_Idle_0 (.seq (.ops 22 r_impl_Idle_1) .ret) := goEq rfl
noncomputable def c_impl_Idle : PC :=
  (.seq (.ops 2 r_impl_Idle_0) b_impl_Idle_0)
theorem res_impl_Idle : Try.f91.results.toList = [(ResultVar.tmp 4)] := rfl
theorem c_impl_Idle_ok : prep ((Try.f91.body).getD .skip) = some c_impl_Idle := by kernel_rfl
noncomputable def r_impl_jumps_0 : List POp := regAt Try.f92 0
@[go_sem] theorem r_impl_jumps_0_eq : OpEq CC DD r_impl_jumps_0 [
  ⟨(some 1), none, (.box 25 (.tmp 0))⟩,
  ⟨(some 2), none, (.assign (.const (.bool false)))⟩] := opEq (by kernel_rfl)
noncomputable def r_impl_jumps_1 : List POp := regAt Try.f92 1
@[go_sem] theorem r_impl_jumps_1_eq : OpEq CC DD r_impl_jumps_1 [
  ⟨(some 3), none, (.fieldAddr 25 (.tmp 1) 0)⟩,
  ⟨(some 4), none, (.load 3 (.tmp 3))⟩,
  ⟨(some 5), none, (.binOp .eql 3 (.tmp 4) (.const (.int .i64 9)) 3)⟩,
  ⟨(some 6), none, (.move (.tmp 5))⟩,
  ⟨(some 7), (some (6, false)), (.fieldAddr 25 (.tmp 1) 0)⟩,
  ⟨(some 8), (some (6, false)), (.load 3 (.tmp 7))⟩,
  ⟨(some 9), (some (6, false)), (.binOp .eql 3 (.tmp 8) (.const (.int .i64 10)) 3)⟩,
  ⟨(some 10), none, (.pick (.tmp 6) (.const (.bool true)) (.tmp 9))⟩,
  ⟨(some 2), none, (.assign (.tmp 10))⟩] := opEq (by kernel_rfl)
noncomputable def b_impl_jumps_0 : PC := (.seq (.ops 9 r_impl_jumps_1) .ret)
@[go_sem] theorem b_impl_jumps_0_eq : GoEq CC DD b_impl_jumps_0 (.seq (.ops 9 r_impl_jumps_1) .ret) := goEq rfl
noncomputable def c_impl_jumps : PC :=
  (.seq (.ops 2 r_impl_jumps_0) b_impl_jumps_0)
theorem res_impl_jumps : Try.f92.results.toList = [(ResultVar.tmp 2)] := rfl
theorem c_impl_jumps_ok : prep ((Try.f92.body).getD .skip) = some c_impl_jumps := by kernel_rfl
noncomputable def r_impl_WordOk_0 : List POp := regAt Try.f113 0
@[go_sem] theorem r_impl_WordOk_0_eq : OpEq CC DD r_impl_WordOk_0 [
  ⟨(some 2), none, (.assign (.const (.bool false)))⟩] := opEq (by kernel_rfl)
noncomputable def r_impl_WordOk_1 : List POp := regAt Try.f113 1
@[go_sem] theorem r_impl_WordOk_1_eq : OpEq CC DD r_impl_WordOk_1 [
  ⟨(some 3), none, (.move (.tmp 0))⟩,
  ⟨(some 4), none, (.call { callee := (.value (.func 67)), args := #[(.tmp 3), (.const (.int .i64 1)), (.const (.int .i64 10))], argTypes := #[3, 3, 3] })⟩,
  ⟨(some 2), none, (.assign (.tmp 4))⟩] := opEq (by kernel_rfl)
noncomputable def b_impl_WordOk_0 : PC := (.seq (.ops 3 r_impl_WordOk_1) .ret)
@[go_sem] theorem b_impl_WordOk_0_eq : GoEq CC DD b_impl_WordOk_0 (.seq (.ops 3 r_impl_WordOk_1) .ret) := goEq rfl
noncomputable def c_impl_WordOk : PC :=
  (.seq (.ops 1 r_impl_WordOk_0) b_impl_WordOk_0)
theorem res_impl_WordOk : Try.f113.results.toList = [(ResultVar.tmp 2)] := rfl
theorem c_impl_WordOk_ok : prep ((Try.f113.body).getD .skip) = some c_impl_WordOk := by kernel_rfl
noncomputable def r_slices_Index_byte_0 : List POp := regAt Try.f114 0
@[go_sem] theorem r_slices_Index_byte_0_eq : OpEq CC DD r_slices_Index_byte_0 [
  ⟨(some 4), none, (.assign (.const (.int .i64 0)))⟩] := opEq (by kernel_rfl)
noncomputable def r_slices_Index_byte_1 : List POp := regAt Try.f114 1
@[go_sem] theorem r_slices_Index_byte_1_eq : OpEq CC DD r_slices_Index_byte_1 [
  ⟨(some 6), none, (.move (.tmp 0))⟩,
  ⟨(some 7), none, (.call { callee := (.builtin .len), args := #[(.tmp 6)], argTypes := #[28] })⟩,
  ⟨(some 8), none, (.move (.const (.int .i64 0)))⟩] := opEq (by kernel_rfl)
noncomputable def r_slices_Index_byte_2 : List POp := regAt Try.f114 2
@[go_sem] theorem r_slices_Index_byte_2_eq : OpEq CC DD r_slices_Index_byte_2 [
  ⟨(some 9), none, (.binOp .lss 3 (.tmp 8) (.tmp 7) 3)⟩] := opEq (by kernel_rfl)
noncomputable def r_slices_Index_byte_3 : List POp := regAt Try.f114 3
@[go_sem] theorem r_slices_Index_byte_3_eq : OpEq CC DD r_slices_Index_byte_3 [
  ⟨(some 10), none, (.move (.tmp 8))⟩,
  ⟨(some 5), none, (.assign (.tmp 10))⟩] := opEq (by kernel_rfl)
noncomputable def r_slices_Index_byte_4 : List POp := regAt Try.f114 4
@[go_sem] theorem r_slices_Index_byte_4_eq : OpEq CC DD r_slices_Index_byte_4 [
  ⟨(some 11), none, (.move (.tmp 1))⟩,
  ⟨(some 12), none, (.move (.tmp 0))⟩,
  ⟨(some 13), none, (.move (.tmp 5))⟩,
  ⟨(some 14), none, (.indexAddr 28 (.tmp 12) (.tmp 13))⟩,
  ⟨(some 15), none, (.load 5 (.tmp 14))⟩,
  ⟨(some 16), none, (.binOp .eql 5 (.tmp 11) (.tmp 15) 5)⟩] := opEq (by kernel_rfl)
noncomputable def r_slices_Index_byte_5 : List POp := regAt Try.f114 5
@[go_sem] theorem r_slices_Index_byte_5_eq : OpEq CC DD r_slices_Index_byte_5 [
  ⟨(some 17), none, (.move (.tmp 5))⟩,
  ⟨(some 4), none, (.assign (.tmp 17))⟩] := opEq (by kernel_rfl)
noncomputable def r_slices_Index_byte_6 : List POp := regAt Try.f114 6
@[go_sem] theorem r_slices_Index_byte_6_eq : OpEq CC DD r_slices_Index_byte_6 [
  ⟨(some 18), none, (.binOp .add 3 (.tmp 8) (.const (.int .i64 1)) 3)⟩,
  ⟨(some 8), none, (.move (.tmp 18))⟩] := opEq (by kernel_rfl)
noncomputable def r_slices_Index_byte_7 : List POp := regAt Try.f114 7
@[go_sem] theorem r_slices_Index_byte_7_eq : OpEq CC DD r_slices_Index_byte_7 [
  ⟨(some 4), none, (.assign (.const (.int .i64 (-1))))⟩] := opEq (by kernel_rfl)
noncomputable def b_slices_Index_byte_0 : PC := (.seq (.ops 2 r_slices_Index_byte_5) .ret)
@[go_sem] theorem b_slices_Index_byte_0_eq : GoEq CC DD b_slices_Index_byte_0 (.seq (.ops 2 r_slices_Index_byte_5) .ret) := goEq rfl
noncomputable def b_slices_Index_byte_1 : PC := (.cond (.tmp 16) b_slices_Index_byte_0 .skip)
@[go_sem] theorem b_slices_Index_byte_1_eq : GoEq CC DD b_slices_Index_byte_1 (.cond (.tmp 16) b_slices_Index_byte_0 .skip) := goEq rfl
noncomputable def b_slices_Index_byte_2 : PC := (.seq (.ops 6 r_slices_Index_byte_4) b_slices_Index_byte_1)
@[go_sem] theorem b_slices_Index_byte_2_eq : GoEq CC DD b_slices_Index_byte_2 (.seq (.ops 6 r_slices_Index_byte_4) b_slices_Index_byte_1) := goEq rfl
noncomputable def b_slices_Index_byte_3 : PC := (.seq (.ops 2 r_slices_Index_byte_3) b_slices_Index_byte_2)
@[go_sem] theorem b_slices_Index_byte_3_eq : GoEq CC DD b_slices_Index_byte_3 (.seq (.ops 2 r_slices_Index_byte_3) b_slices_Index_byte_2) := goEq rfl
noncomputable def b_slices_Index_byte_4 : PC := (.seq (.block 1 b_slices_Index_byte_3) (.ops 2 r_slices_Index_byte_6))
@[go_sem] theorem b_slices_Index_byte_4_eq : GoEq CC DD b_slices_Index_byte_4 (.seq (.block 1 b_slices_Index_byte_3) (.ops 2 r_slices_Index_byte_6)) := goEq rfl
noncomputable def b_slices_Index_byte_5 : PC := (.seq (.cond (.tmp 9) .skip (.exit 0)) b_slices_Index_byte_4)
@[go_sem] theorem b_slices_Index_byte_5_eq : GoEq CC DD b_slices_Index_byte_5 (.seq (.cond (.tmp 9) .skip (.exit 0)) b_slices_Index_byte_4) := goEq rfl
noncomputable def b_slices_Index_byte_6 : PC := (.seq (.ops 1 r_slices_Index_byte_2) b_slices_Index_byte_5)
@[go_sem] theorem b_slices_Index_byte_6_eq : GoEq CC DD b_slices_Index_byte_6 (.seq (.ops 1 r_slices_Index_byte_2) b_slices_Index_byte_5) := goEq rfl
noncomputable def b_slices_Index_byte_7 : PC := (.loop b_slices_Index_byte_6)
@[go_sem] theorem b_slices_Index_byte_7_eq : GoEq CC DD b_slices_Index_byte_7 (.loop b_slices_Index_byte_6) := goEq rfl
noncomputable def b_slices_Index_byte_8 : PC := (.block 0 b_slices_Index_byte_7)
@[go_sem] theorem b_slices_Index_byte_8_eq : GoEq CC DD b_slices_Index_byte_8 (.block 0 b_slices_Index_byte_7) := goEq rfl
noncomputable def b_slices_Index_byte_9 : PC := (.seq (.ops 1 r_slices_Index_byte_7) .ret)
@[go_sem] theorem b_slices_Index_byte_9_eq : GoEq CC DD b_slices_Index_byte_9 (.seq (.ops 1 r_slices_Index_byte_7) .ret) := goEq rfl
noncomputable def b_slices_Index_byte_10 : PC := (.seq (.seq (.ops 3 r_slices_Index_byte_1) b_slices_Index_byte_8) b_slices_Index_byte_9)
@[go_sem] theorem b_slices_Index_byte_10_eq : GoEq CC DD b_slices_Index_byte_10 (.seq (.seq (.ops 3 r_slices_Index_byte_1) b_slices_Index_byte_8) b_slices_Index_byte_9) := goEq rfl
noncomputable def c_slices_Index_byte : PC :=
  (.seq (.ops 1 r_slices_Index_byte_0) b_slices_Index_byte_10)
theorem res_slices_Index_byte : Try.f114.results.toList = [(ResultVar.tmp 4)] := rfl
theorem c_slices_Index_byte_ok : prep ((Try.f114.body).getD .skip) = some c_slices_Index_byte := by kernel_rfl
noncomputable def r_slices_IndexFunc_impl_Step_0 : List POp := regAt Try.f115 0
@[go_sem] theorem r_slices_IndexFunc_impl_Step_0_eq : OpEq CC DD r_slices_IndexFunc_impl_Step_0 [
  ⟨(some 4), none, (.assign (.const (.int .i64 0)))⟩] := opEq (by kernel_rfl)
noncomputable def r_slices_IndexFunc_impl_Step_1 : List POp := regAt Try.f115 1
@[go_sem] theorem r_slices_IndexFunc_impl_Step_1_eq : OpEq CC DD r_slices_IndexFunc_impl_Step_1 [
  ⟨(some 6), none, (.move (.tmp 0))⟩,
  ⟨(some 7), none, (.call { callee := (.builtin .len), args := #[(.tmp 6)], argTypes := #[39] })⟩,
  ⟨(some 8), none, (.move (.const (.int .i64 0)))⟩] := opEq (by kernel_rfl)
noncomputable def r_slices_IndexFunc_impl_Step_2 : List POp := regAt Try.f115 2
@[go_sem] theorem r_slices_IndexFunc_impl_Step_2_eq : OpEq CC DD r_slices_IndexFunc_impl_Step_2 [
  ⟨(some 9), none, (.binOp .lss 3 (.tmp 8) (.tmp 7) 3)⟩] := opEq (by kernel_rfl)
noncomputable def r_slices_IndexFunc_impl_Step_3 : List POp := regAt Try.f115 3
@[go_sem] theorem r_slices_IndexFunc_impl_Step_3_eq : OpEq CC DD r_slices_IndexFunc_impl_Step_3 [
  ⟨(some 10), none, (.move (.tmp 8))⟩,
  ⟨(some 5), none, (.assign (.tmp 10))⟩] := opEq (by kernel_rfl)
noncomputable def r_slices_IndexFunc_impl_Step_4 : List POp := regAt Try.f115 4
@[go_sem] theorem r_slices_IndexFunc_impl_Step_4_eq : OpEq CC DD r_slices_IndexFunc_impl_Step_4 [
  ⟨(some 11), none, (.move (.tmp 1))⟩,
  ⟨(some 12), none, (.move (.tmp 0))⟩,
  ⟨(some 13), none, (.move (.tmp 5))⟩,
  ⟨(some 14), none, (.indexAddr 39 (.tmp 12) (.tmp 13))⟩,
  ⟨(some 15), none, (.load 25 (.tmp 14))⟩,
  ⟨(some 16), none, (.call { callee := (.value (.tmp 11)), args := #[(.tmp 15)], argTypes := #[25] })⟩] := opEq (by kernel_rfl)
noncomputable def r_slices_IndexFunc_impl_Step_5 : List POp := regAt Try.f115 5
@[go_sem] theorem r_slices_IndexFunc_impl_Step_5_eq : OpEq CC DD r_slices_IndexFunc_impl_Step_5 [
  ⟨(some 17), none, (.move (.tmp 5))⟩,
  ⟨(some 4), none, (.assign (.tmp 17))⟩] := opEq (by kernel_rfl)
noncomputable def r_slices_IndexFunc_impl_Step_6 : List POp := regAt Try.f115 6
@[go_sem] theorem r_slices_IndexFunc_impl_Step_6_eq : OpEq CC DD r_slices_IndexFunc_impl_Step_6 [
  ⟨(some 18), none, (.binOp .add 3 (.tmp 8) (.const (.int .i64 1)) 3)⟩,
  ⟨(some 8), none, (.move (.tmp 18))⟩] := opEq (by kernel_rfl)
noncomputable def r_slices_IndexFunc_impl_Step_7 : List POp := regAt Try.f115 7
@[go_sem] theorem r_slices_IndexFunc_impl_Step_7_eq : OpEq CC DD r_slices_IndexFunc_impl_Step_7 [
  ⟨(some 4), none, (.assign (.const (.int .i64 (-1))))⟩] := opEq (by kernel_rfl)
noncomputable def b_slices_IndexFunc_impl_Step_0 : PC := (.seq (.ops 2 r_slices_IndexFunc_impl_Step_5) .ret)
@[go_sem] theorem b_slices_IndexFunc_impl_Step_0_eq : GoEq CC DD b_slices_IndexFunc_impl_Step_0 (.seq (.ops 2 r_slices_IndexFunc_impl_Step_5) .ret) := goEq rfl
noncomputable def b_slices_IndexFunc_impl_Step_1 : PC := (.cond (.tmp 16) b_slices_IndexFunc_impl_Step_0 .skip)
@[go_sem] theorem b_slices_IndexFunc_impl_Step_1_eq : GoEq CC DD b_slices_IndexFunc_impl_Step_1 (.cond (.tmp 16) b_slices_IndexFunc_impl_Step_0 .skip) := goEq rfl
noncomputable def b_slices_IndexFunc_impl_Step_2 : PC := (.seq (.ops 6 r_slices_IndexFunc_impl_Step_4) b_slices_IndexFunc_impl_Step_1)
@[go_sem] theorem b_slices_IndexFunc_impl_Step_2_eq : GoEq CC DD b_slices_IndexFunc_impl_Step_2 (.seq (.ops 6 r_slices_IndexFunc_impl_Step_4) b_slices_IndexFunc_impl_Step_1) := goEq rfl
noncomputable def b_slices_IndexFunc_impl_Step_3 : PC := (.seq (.ops 2 r_slices_IndexFunc_impl_Step_3) b_slices_IndexFunc_impl_Step_2)
@[go_sem] theorem b_slices_IndexFunc_impl_Step_3_eq : GoEq CC DD b_slices_IndexFunc_impl_Step_3 (.seq (.ops 2 r_slices_IndexFunc_impl_Step_3) b_slices_IndexFunc_impl_Step_2) := goEq rfl
noncomputable def b_slices_IndexFunc_impl_Step_4 : PC := (.seq (.block 1 b_slices_IndexFunc_impl_Step_3) (.ops 2 r_slices_IndexFunc_impl_Step_6))
@[go_sem] theorem b_slices_IndexFunc_impl_Step_4_eq : GoEq CC DD b_slices_IndexFunc_impl_Step_4 (.seq (.block 1 b_slices_IndexFunc_impl_Step_3) (.ops 2 r_slices_IndexFunc_impl_Step_6)) := goEq rfl
noncomputable def b_slices_IndexFunc_impl_Step_5 : PC := (.seq (.cond (.tmp 9) .skip (.exit 0)) b_slices_IndexFunc_impl_Step_4)
@[go_sem] theorem b_slices_IndexFunc_impl_Step_5_eq : GoEq CC DD b_slices_IndexFunc_impl_Step_5 (.seq (.cond (.tmp 9) .skip (.exit 0)) b_slices_IndexFunc_impl_Step_4) := goEq rfl
noncomputable def b_slices_IndexFunc_impl_Step_6 : PC := (.seq (.ops 1 r_slices_IndexFunc_impl_Step_2) b_slices_IndexFunc_impl_Step_5)
@[go_sem] theorem b_slices_IndexFunc_impl_Step_6_eq : GoEq CC DD b_slices_IndexFunc_impl_Step_6 (.seq (.ops 1 r_slices_IndexFunc_impl_Step_2) b_slices_IndexFunc_impl_Step_5) := goEq rfl
noncomputable def b_slices_IndexFunc_impl_Step_7 : PC := (.loop b_slices_IndexFunc_impl_Step_6)
@[go_sem] theorem b_slices_IndexFunc_impl_Step_7_eq : GoEq CC DD b_slices_IndexFunc_impl_Step_7 (.loop b_slices_IndexFunc_impl_Step_6) := goEq rfl
noncomputable def b_slices_IndexFunc_impl_Step_8 : PC := (.block 0 b_slices_IndexFunc_impl_Step_7)
@[go_sem] theorem b_slices_IndexFunc_impl_Step_8_eq : GoEq CC DD b_slices_IndexFunc_impl_Step_8 (.block 0 b_slices_IndexFunc_impl_Step_7) := goEq rfl
noncomputable def b_slices_IndexFunc_impl_Step_9 : PC := (.seq (.ops 1 r_slices_IndexFunc_impl_Step_7) .ret)
@[go_sem] theorem b_slices_IndexFunc_impl_Step_9_eq : GoEq CC DD b_slices_IndexFunc_impl_Step_9 (.seq (.ops 1 r_slices_IndexFunc_impl_Step_7) .ret) := goEq rfl
noncomputable def b_slices_IndexFunc_impl_Step_10 : PC := (.seq (.seq (.ops 3 r_slices_IndexFunc_impl_Step_1) b_slices_IndexFunc_impl_Step_8) b_slices_IndexFunc_impl_Step_9)
@[go_sem] theorem b_slices_IndexFunc_impl_Step_10_eq : GoEq CC DD b_slices_IndexFunc_impl_Step_10 (.seq (.seq (.ops 3 r_slices_IndexFunc_impl_Step_1) b_slices_IndexFunc_impl_Step_8) b_slices_IndexFunc_impl_Step_9) := goEq rfl
noncomputable def c_slices_IndexFunc_impl_Step : PC :=
  (.seq (.ops 1 r_slices_IndexFunc_impl_Step_0) b_slices_IndexFunc_impl_Step_10)
theorem res_slices_IndexFunc_impl_Step : Try.f115.results.toList = [(ResultVar.tmp 4)] := rfl
theorem c_slices_IndexFunc_impl_Step_ok : prep ((Try.f115.body).getD .skip) = some c_slices_IndexFunc_impl_Step := by kernel_rfl
end Go.Proofs.YtbgaljpilmmefaaM
