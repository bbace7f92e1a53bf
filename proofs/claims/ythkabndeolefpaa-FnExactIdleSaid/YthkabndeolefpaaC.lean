/- The code of the functions, laid out. -/
import Derived.Test.YthkabndeolefpaaT
namespace Go.Proofs.YthkabndeolefpaaM
open Go
set_option linter.unusedVariables false
set_option maxRecDepth 100000
noncomputable def r_laws_FnExactIdle_0 : List POp := [
  ⟨(some 2), none, (Op.box 25 (Operand.tmp 0))⟩,
  ⟨(some 4), none, (Op.assign (Operand.const (Value.bool false)))⟩]
theorem r_laws_FnExactIdle_0_eq {Q : Ex → S → Prop} {b i : Nat} {k : List Fr} {s : S} : OpG Γ E CC DD Q b i r_laws_FnExactIdle_0 k s = OpG Γ E CC DD Q b i [
  ⟨(some 2), none, (Op.box 25 (Operand.tmp 0))⟩,
  ⟨(some 4), none, (Op.assign (Operand.const (Value.bool false)))⟩] k s := rfl
noncomputable def r_laws_FnExactIdle_1 : List POp := [
  ⟨(some 7), none, (Op.load 25 (Operand.tmp 2))⟩,
  ⟨(some 8), none, (Op.call { callee := (Callee.value (Operand.func 14)), args := #[(Operand.tmp 7)], argTypes := #[25] })⟩,
  ⟨(some 9), none, (Op.move (Operand.tmp 1))⟩,
  ⟨(some 10), none, (Op.call { callee := (Callee.value (Operand.func 13)), args := #[(Operand.tmp 8), (Operand.tmp 9)], argTypes := #[27, 3] })⟩,
  ⟨(some 5), none, (Op.assign (Operand.tmp 10))⟩]
theorem r_laws_FnExactIdle_1_eq {Q : Ex → S → Prop} {b i : Nat} {k : List Fr} {s : S} : OpG Γ E CC DD Q b i r_laws_FnExactIdle_1 k s = OpG Γ E CC DD Q b i [
  ⟨(some 7), none, (Op.load 25 (Operand.tmp 2))⟩,
  ⟨(some 8), none, (Op.call { callee := (Callee.value (Operand.func 14)), args := #[(Operand.tmp 7)], argTypes := #[25] })⟩,
  ⟨(some 9), none, (Op.move (Operand.tmp 1))⟩,
  ⟨(some 10), none, (Op.call { callee := (Callee.value (Operand.func 13)), args := #[(Operand.tmp 8), (Operand.tmp 9)], argTypes := #[27, 3] })⟩,
  ⟨(some 5), none, (Op.assign (Operand.tmp 10))⟩] k s := rfl
noncomputable def r_laws_FnExactIdle_2 : List POp := [
  ⟨(some 11), none, (Op.load 25 (Operand.tmp 2))⟩,
  ⟨(some 12), none, (Op.call { callee := (Callee.value (Operand.func 14)), args := #[(Operand.tmp 11)], argTypes := #[25] })⟩,
  ⟨(some 13), none, (Op.move (Operand.tmp 1))⟩,
  ⟨(some 14), none, (Op.call { callee := (Callee.value (Operand.func 15)), args := #[(Operand.tmp 12), (Operand.tmp 13)], argTypes := #[27, 3] })⟩,
  ⟨(some 6), none, (Op.assign (Operand.tmp 14))⟩]
theorem r_laws_FnExactIdle_2_eq {Q : Ex → S → Prop} {b i : Nat} {k : List Fr} {s : S} : OpG Γ E CC DD Q b i r_laws_FnExactIdle_2 k s = OpG Γ E CC DD Q b i [
  ⟨(some 11), none, (Op.load 25 (Operand.tmp 2))⟩,
  ⟨(some 12), none, (Op.call { callee := (Callee.value (Operand.func 14)), args := #[(Operand.tmp 11)], argTypes := #[25] })⟩,
  ⟨(some 13), none, (Op.move (Operand.tmp 1))⟩,
  ⟨(some 14), none, (Op.call { callee := (Callee.value (Operand.func 15)), args := #[(Operand.tmp 12), (Operand.tmp 13)], argTypes := #[27, 3] })⟩,
  ⟨(some 6), none, (Op.assign (Operand.tmp 14))⟩] k s := rfl
noncomputable def r_laws_FnExactIdle_3 : List POp := [
  ⟨(some 15), none, (Op.move (Operand.tmp 6))⟩,
  ⟨(some 16), none, (Op.move (Operand.tmp 5))⟩,
  ⟨(some 17), none, (Op.binOp BinOp.neq 4 (Operand.tmp 15) (Operand.tmp 16) 4)⟩]
theorem r_laws_FnExactIdle_3_eq {Q : Ex → S → Prop} {b i : Nat} {k : List Fr} {s : S} : OpG Γ E CC DD Q b i r_laws_FnExactIdle_3 k s = OpG Γ E CC DD Q b i [
  ⟨(some 15), none, (Op.move (Operand.tmp 6))⟩,
  ⟨(some 16), none, (Op.move (Operand.tmp 5))⟩,
  ⟨(some 17), none, (Op.binOp BinOp.neq 4 (Operand.tmp 15) (Operand.tmp 16) 4)⟩] k s := rfl
noncomputable def r_laws_FnExactIdle_4 : List POp := [
  ⟨(some 4), none, (Op.assign (Operand.const (Value.bool false)))⟩]
theorem r_laws_FnExactIdle_4_eq {Q : Ex → S → Prop} {b i : Nat} {k : List Fr} {s : S} : OpG Γ E CC DD Q b i r_laws_FnExactIdle_4 k s = OpG Γ E CC DD Q b i [
  ⟨(some 4), none, (Op.assign (Operand.const (Value.bool false)))⟩] k s := rfl
noncomputable def r_laws_FnExactIdle_5 : List POp := [
  ⟨(some 4), none, (Op.assign (Operand.const (Value.bool true)))⟩]
theorem r_laws_FnExactIdle_5_eq {Q : Ex → S → Prop} {b i : Nat} {k : List Fr} {s : S} : OpG Γ E CC DD Q b i r_laws_FnExactIdle_5 k s = OpG Γ E CC DD Q b i [
  ⟨(some 4), none, (Op.assign (Operand.const (Value.bool true)))⟩] k s := rfl
noncomputable def c_laws_FnExactIdle : PC :=
  (.seq (.ops 2 r_laws_FnExactIdle_0) (.seq (.ops 5 r_laws_FnExactIdle_1) (.seq (.ops 5 r_laws_FnExactIdle_2) (.seq (.seq (.ops 3 r_laws_FnExactIdle_3) (.cond (Operand.tmp 17) (.seq (.ops 1 r_laws_FnExactIdle_4) .ret) .skip)) (.seq (.ops 1 r_laws_FnExactIdle_5) .ret)))))
theorem res_laws_FnExactIdle : Try.f5.results.toList = [(ResultVar.tmp 4)] := rfl
theorem c_laws_FnExactIdle_ok : prep ((Try.f5.body).getD .skip) = some c_laws_FnExactIdle := by rfl
noncomputable def r_spec_Idle_0 : List POp := [
  ⟨(some 2), none, (Op.box 27 (Operand.tmp 0))⟩,
  ⟨(some 4), none, (Op.assign (Operand.const (Value.bool false)))⟩]
theorem r_spec_Idle_0_eq {Q : Ex → S → Prop} {b i : Nat} {k : List Fr} {s : S} : OpG Γ E CC DD Q b i r_spec_Idle_0 k s = OpG Γ E CC DD Q b i [
  ⟨(some 2), none, (Op.box 27 (Operand.tmp 0))⟩,
  ⟨(some 4), none, (Op.assign (Operand.const (Value.bool false)))⟩] k s := rfl
noncomputable def r_spec_Idle_1 : List POp := [
  ⟨(some 5), none, (Op.fieldAddr 27 (Operand.tmp 2) 0)⟩,
  ⟨(some 6), none, (Op.load 3 (Operand.tmp 5))⟩]
theorem r_spec_Idle_1_eq {Q : Ex → S → Prop} {b i : Nat} {k : List Fr} {s : S} : OpG Γ E CC DD Q b i r_spec_Idle_1 k s = OpG Γ E CC DD Q b i [
  ⟨(some 5), none, (Op.fieldAddr 27 (Operand.tmp 2) 0)⟩,
  ⟨(some 6), none, (Op.load 3 (Operand.tmp 5))⟩] k s := rfl
noncomputable def r_spec_Idle_2 : List POp := [
  ⟨(some 8), none, (Op.binOp BinOp.eql 3 (Operand.tmp 6) (Operand.const (Value.int IntKind.i64 2)) 3)⟩,
  ⟨(some 7), none, (Op.assign (Operand.tmp 8))⟩]
theorem r_spec_Idle_2_eq {Q : Ex → S → Prop} {b i : Nat} {k : List Fr} {s : S} : OpG Γ E CC DD Q b i r_spec_Idle_2 k s = OpG Γ E CC DD Q b i [
  ⟨(some 8), none, (Op.binOp BinOp.eql 3 (Operand.tmp 6) (Operand.const (Value.int IntKind.i64 2)) 3)⟩,
  ⟨(some 7), none, (Op.assign (Operand.tmp 8))⟩] k s := rfl
noncomputable def r_spec_Idle_3 : List POp := [
  ⟨(some 9), none, (Op.fieldAddr 27 (Operand.tmp 2) 1)⟩,
  ⟨(some 10), none, (Op.load 3 (Operand.tmp 9))⟩,
  ⟨(some 11), none, (Op.fieldAddr 27 (Operand.tmp 2) 2)⟩,
  ⟨(some 12), none, (Op.load 3 (Operand.tmp 11))⟩,
  ⟨(some 13), none, (Op.binOp BinOp.eql 3 (Operand.tmp 10) (Operand.tmp 12) 3)⟩,
  ⟨(some 4), none, (Op.assign (Operand.tmp 13))⟩]
theorem r_spec_Idle_3_eq {Q : Ex → S → Prop} {b i : Nat} {k : List Fr} {s : S} : OpG Γ E CC DD Q b i r_spec_Idle_3 k s = OpG Γ E CC DD Q b i [
  ⟨(some 9), none, (Op.fieldAddr 27 (Operand.tmp 2) 1)⟩,
  ⟨(some 10), none, (Op.load 3 (Operand.tmp 9))⟩,
  ⟨(some 11), none, (Op.fieldAddr 27 (Operand.tmp 2) 2)⟩,
  ⟨(some 12), none, (Op.load 3 (Operand.tmp 11))⟩,
  ⟨(some 13), none, (Op.binOp BinOp.eql 3 (Operand.tmp 10) (Operand.tmp 12) 3)⟩,
  ⟨(some 4), none, (Op.assign (Operand.tmp 13))⟩] k s := rfl
noncomputable def r_spec_Idle_4 : List POp := [
  ⟨(some 15), none, (Op.binOp BinOp.eql 3 (Operand.tmp 6) (Operand.const (Value.int IntKind.i64 9)) 3)⟩,
  ⟨(some 14), none, (Op.assign (Operand.tmp 15))⟩]
theorem r_spec_Idle_4_eq {Q : Ex → S → Prop} {b i : Nat} {k : List Fr} {s : S} : OpG Γ E CC DD Q b i r_spec_Idle_4 k s = OpG Γ E CC DD Q b i [
  ⟨(some 15), none, (Op.binOp BinOp.eql 3 (Operand.tmp 6) (Operand.const (Value.int IntKind.i64 9)) 3)⟩,
  ⟨(some 14), none, (Op.assign (Operand.tmp 15))⟩] k s := rfl
noncomputable def r_spec_Idle_5 : List POp := [
  ⟨(some 16), none, (Op.binOp BinOp.eql 3 (Operand.tmp 6) (Operand.const (Value.int IntKind.i64 10)) 3)⟩,
  ⟨(some 14), none, (Op.assign (Operand.tmp 16))⟩]
theorem r_spec_Idle_5_eq {Q : Ex → S → Prop} {b i : Nat} {k : List Fr} {s : S} : OpG Γ E CC DD Q b i r_spec_Idle_5 k s = OpG Γ E CC DD Q b i [
  ⟨(some 16), none, (Op.binOp BinOp.eql 3 (Operand.tmp 6) (Operand.const (Value.int IntKind.i64 10)) 3)⟩,
  ⟨(some 14), none, (Op.assign (Operand.tmp 16))⟩] k s := rfl
noncomputable def r_spec_Idle_6 : List POp := [
  ⟨(some 17), none, (Op.fieldAddr 27 (Operand.tmp 2) 4)⟩,
  ⟨(some 18), none, (Op.load 3 (Operand.tmp 17))⟩,
  ⟨(some 19), none, (Op.move (Operand.tmp 1))⟩,
  ⟨(some 20), none, (Op.binOp BinOp.add 3 (Operand.tmp 19) (Operand.const (Value.int IntKind.i64 1)) 3)⟩,
  ⟨(some 21), none, (Op.binOp BinOp.eql 3 (Operand.tmp 18) (Operand.tmp 20) 3)⟩,
  ⟨(some 4), none, (Op.assign (Operand.tmp 21))⟩]
theorem r_spec_Idle_6_eq {Q : Ex → S → Prop} {b i : Nat} {k : List Fr} {s : S} : OpG Γ E CC DD Q b i r_spec_Idle_6 k s = OpG Γ E CC DD Q b i [
  ⟨(some 17), none, (Op.fieldAddr 27 (Operand.tmp 2) 4)⟩,
  ⟨(some 18), none, (Op.load 3 (Operand.tmp 17))⟩,
  ⟨(some 19), none, (Op.move (Operand.tmp 1))⟩,
  ⟨(some 20), none, (Op.binOp BinOp.add 3 (Operand.tmp 19) (Operand.const (Value.int IntKind.i64 1)) 3)⟩,
  ⟨(some 21), none, (Op.binOp BinOp.eql 3 (Operand.tmp 18) (Operand.tmp 20) 3)⟩,
  ⟨(some 4), none, (Op.assign (Operand.tmp 21))⟩] k s := rfl
noncomputable def r_spec_Idle_7 : List POp := [
  ⟨(some 4), none, (Op.assign (Operand.const (Value.bool false)))⟩]
theorem r_spec_Idle_7_eq {Q : Ex → S → Prop} {b i : Nat} {k : List Fr} {s : S} : OpG Γ E CC DD Q b i r_spec_Idle_7 k s = OpG Γ E CC DD Q b i [
  ⟨(some 4), none, (Op.assign (Operand.const (Value.bool false)))⟩] k s := rfl
noncomputable def c_spec_Idle : PC :=
  (.seq (.ops 2 r_spec_Idle_0) (.seq (.seq (.ops 2 r_spec_Idle_1) (.block 0 (.seq (.ops 2 r_spec_Idle_2) (.cond (Operand.tmp 7) (.seq (.ops 6 r_spec_Idle_3) .ret) (.seq (.seq (.ops 2 r_spec_Idle_4) (.cond (Operand.tmp 14) .skip (.ops 2 r_spec_Idle_5))) (.cond (Operand.tmp 14) (.seq (.ops 6 r_spec_Idle_6) .ret) .skip)))))) (.seq (.ops 1 r_spec_Idle_7) .ret)))
theorem res_spec_Idle : Try.f13.results.toList = [(ResultVar.tmp 4)] := rfl
theorem c_spec_Idle_ok : prep ((Try.f13.body).getD .skip) = some c_spec_Idle := by rfl
noncomputable def r_laws_toStep_0 : List POp := [
  ⟨(some 1), none, (Op.box 25 (Operand.tmp 0))⟩,
  ⟨(some 2), none, (Op.alloc 27)⟩]
theorem r_laws_toStep_0_eq {Q : Ex → S → Prop} {b i : Nat} {k : List Fr} {s : S} : OpG Γ E CC DD Q b i r_laws_toStep_0 k s = OpG Γ E CC DD Q b i [
  ⟨(some 1), none, (Op.box 25 (Operand.tmp 0))⟩,
  ⟨(some 2), none, (Op.alloc 27)⟩] k s := rfl
noncomputable def r_laws_toStep_1 : List POp := [
  ⟨(some 3), none, (Op.alloc 27)⟩]
theorem r_laws_toStep_1_eq {Q : Ex → S → Prop} {b i : Nat} {k : List Fr} {s : S} : OpG Γ E CC DD Q b i r_laws_toStep_1 k s = OpG Γ E CC DD Q b i [
  ⟨(some 3), none, (Op.alloc 27)⟩] k s := rfl
noncomputable def r_laws_toStep_2 : List POp := [
  ⟨(some 4), none, (Op.fieldAddr 25 (Operand.tmp 1) 0)⟩,
  ⟨(some 5), none, (Op.load 3 (Operand.tmp 4))⟩,
  ⟨(some 6), none, (Op.fieldAddr 27 (Operand.tmp 3) 0)⟩,
  ⟨none, none, (Op.store 3 (Operand.tmp 6) (Operand.tmp 5))⟩]
theorem r_laws_toStep_2_eq {Q : Ex → S → Prop} {b i : Nat} {k : List Fr} {s : S} : OpG Γ E CC DD Q b i r_laws_toStep_2 k s = OpG Γ E CC DD Q b i [
  ⟨(some 4), none, (Op.fieldAddr 25 (Operand.tmp 1) 0)⟩,
  ⟨(some 5), none, (Op.load 3 (Operand.tmp 4))⟩,
  ⟨(some 6), none, (Op.fieldAddr 27 (Operand.tmp 3) 0)⟩,
  ⟨none, none, (Op.store 3 (Operand.tmp 6) (Operand.tmp 5))⟩] k s := rfl
noncomputable def r_laws_toStep_3 : List POp := [
  ⟨(some 7), none, (Op.fieldAddr 25 (Operand.tmp 1) 1)⟩,
  ⟨(some 8), none, (Op.load 3 (Operand.tmp 7))⟩,
  ⟨(some 9), none, (Op.fieldAddr 27 (Operand.tmp 3) 1)⟩,
  ⟨none, none, (Op.store 3 (Operand.tmp 9) (Operand.tmp 8))⟩]
theorem r_laws_toStep_3_eq {Q : Ex → S → Prop} {b i : Nat} {k : List Fr} {s : S} : OpG Γ E CC DD Q b i r_laws_toStep_3 k s = OpG Γ E CC DD Q b i [
  ⟨(some 7), none, (Op.fieldAddr 25 (Operand.tmp 1) 1)⟩,
  ⟨(some 8), none, (Op.load 3 (Operand.tmp 7))⟩,
  ⟨(some 9), none, (Op.fieldAddr 27 (Operand.tmp 3) 1)⟩,
  ⟨none, none, (Op.store 3 (Operand.tmp 9) (Operand.tmp 8))⟩] k s := rfl
noncomputable def r_laws_toStep_4 : List POp := [
  ⟨(some 10), none, (Op.fieldAddr 25 (Operand.tmp 1) 2)⟩,
  ⟨(some 11), none, (Op.load 3 (Operand.tmp 10))⟩,
  ⟨(some 12), none, (Op.fieldAddr 27 (Operand.tmp 3) 2)⟩,
  ⟨none, none, (Op.store 3 (Operand.tmp 12) (Operand.tmp 11))⟩]
theorem r_laws_toStep_4_eq {Q : Ex → S → Prop} {b i : Nat} {k : List Fr} {s : S} : OpG Γ E CC DD Q b i r_laws_toStep_4 k s = OpG Γ E CC DD Q b i [
  ⟨(some 10), none, (Op.fieldAddr 25 (Operand.tmp 1) 2)⟩,
  ⟨(some 11), none, (Op.load 3 (Operand.tmp 10))⟩,
  ⟨(some 12), none, (Op.fieldAddr 27 (Operand.tmp 3) 2)⟩,
  ⟨none, none, (Op.store 3 (Operand.tmp 12) (Operand.tmp 11))⟩] k s := rfl
noncomputable def r_laws_toStep_5 : List POp := [
  ⟨(some 13), none, (Op.fieldAddr 25 (Operand.tmp 1) 3)⟩,
  ⟨(some 14), none, (Op.load 3 (Operand.tmp 13))⟩,
  ⟨(some 15), none, (Op.fieldAddr 27 (Operand.tmp 3) 3)⟩,
  ⟨none, none, (Op.store 3 (Operand.tmp 15) (Operand.tmp 14))⟩]
theorem r_laws_toStep_5_eq {Q : Ex → S → Prop} {b i : Nat} {k : List Fr} {s : S} : OpG Γ E CC DD Q b i r_laws_toStep_5 k s = OpG Γ E CC DD Q b i [
  ⟨(some 13), none, (Op.fieldAddr 25 (Operand.tmp 1) 3)⟩,
  ⟨(some 14), none, (Op.load 3 (Operand.tmp 13))⟩,
  ⟨(some 15), none, (Op.fieldAddr 27 (Operand.tmp 3) 3)⟩,
  ⟨none, none, (Op.store 3 (Operand.tmp 15) (Operand.tmp 14))⟩] k s := rfl
noncomputable def r_laws_toStep_6 : List POp := [
  ⟨(some 16), none, (Op.fieldAddr 25 (Operand.tmp 1) 4)⟩,
  ⟨(some 17), none, (Op.load 3 (Operand.tmp 16))⟩,
  ⟨(some 18), none, (Op.fieldAddr 27 (Operand.tmp 3) 4)⟩,
  ⟨none, none, (Op.store 3 (Operand.tmp 18) (Operand.tmp 17))⟩]
theorem r_laws_toStep_6_eq {Q : Ex → S → Prop} {b i : Nat} {k : List Fr} {s : S} : OpG Γ E CC DD Q b i r_laws_toStep_6 k s = OpG Γ E CC DD Q b i [
  ⟨(some 16), none, (Op.fieldAddr 25 (Operand.tmp 1) 4)⟩,
  ⟨(some 17), none, (Op.load 3 (Operand.tmp 16))⟩,
  ⟨(some 18), none, (Op.fieldAddr 27 (Operand.tmp 3) 4)⟩,
  ⟨none, none, (Op.store 3 (Operand.tmp 18) (Operand.tmp 17))⟩] k s := rfl
noncomputable def r_laws_toStep_7 : List POp := [
  ⟨(some 19), none, (Op.load 27 (Operand.tmp 3))⟩,
  ⟨none, none, (Op.store 27 (Operand.tmp 2) (Operand.tmp 19))⟩]
theorem r_laws_toStep_7_eq {Q : Ex → S → Prop} {b i : Nat} {k : List Fr} {s : S} : OpG Γ E CC DD Q b i r_laws_toStep_7 k s = OpG Γ E CC DD Q b i [
  ⟨(some 19), none, (Op.load 27 (Operand.tmp 3))⟩,
  ⟨none, none, (Op.store 27 (Operand.tmp 2) (Operand.tmp 19))⟩] k s := rfl
noncomputable def c_laws_toStep : PC :=
  (.seq (.ops 2 r_laws_toStep_0) (.seq (.ops 1 r_laws_toStep_1) (.seq (.ops 4 r_laws_toStep_2) (.seq (.ops 4 r_laws_toStep_3) (.seq (.ops 4 r_laws_toStep_4) (.seq (.ops 4 r_laws_toStep_5) (.seq (.ops 4 r_laws_toStep_6) (.seq (.ops 2 r_laws_toStep_7) .ret))))))))
theorem res_laws_toStep : Try.f14.results.toList = [(ResultVar.cell 2 27)] := rfl
theorem c_laws_toStep_ok : prep ((Try.f14.body).getD .skip) = some c_laws_toStep := by rfl
noncomputable def r_impl_Idle_0 : List POp := [
  ⟨(some 2), none, (Op.box 27 (Operand.tmp 0))⟩,
  ⟨(some 4), none, (Op.assign (Operand.const (Value.bool false)))⟩]
theorem r_impl_Idle_0_eq {Q : Ex → S → Prop} {b i : Nat} {k : List Fr} {s : S} : OpG Γ E CC DD Q b i r_impl_Idle_0 k s = OpG Γ E CC DD Q b i [
  ⟨(some 2), none, (Op.box 27 (Operand.tmp 0))⟩,
  ⟨(some 4), none, (Op.assign (Operand.const (Value.bool false)))⟩] k s := rfl
noncomputable def r_impl_Idle_1 : List POp := [
  ⟨(some 5), none, (Op.fieldAddr 27 (Operand.tmp 2) 0)⟩,
  ⟨(some 6), none, (Op.load 3 (Operand.tmp 5))⟩,
  ⟨(some 7), none, (Op.binOp BinOp.eql 3 (Operand.tmp 6) (Operand.const (Value.int IntKind.i64 2)) 3)⟩,
  ⟨(some 8), none, (Op.move (Operand.tmp 7))⟩,
  ⟨(some 9), (some (8, true)), (Op.fieldAddr 27 (Operand.tmp 2) 1)⟩,
  ⟨(some 10), (some (8, true)), (Op.load 3 (Operand.tmp 9))⟩,
  ⟨(some 11), (some (8, true)), (Op.fieldAddr 27 (Operand.tmp 2) 2)⟩,
  ⟨(some 12), (some (8, true)), (Op.load 3 (Operand.tmp 11))⟩,
  ⟨(some 13), (some (8, true)), (Op.binOp BinOp.eql 3 (Operand.tmp 10) (Operand.tmp 12) 3)⟩,
  ⟨(some 14), none, (Op.pick (Operand.tmp 8) (Operand.tmp 13) (Operand.const (Value.bool false)))⟩,
  ⟨(some 15), none, (Op.move (Operand.tmp 14))⟩,
  ⟨(some 16), (some (15, false)), (Op.load 27 (Operand.tmp 2))⟩,
  ⟨(some 17), (some (15, false)), (Op.call { callee := (Callee.value (Operand.func 30)), args := #[(Operand.tmp 16)], argTypes := #[27] })⟩,
  ⟨(some 18), (some (15, false)), (Op.move (Operand.tmp 17))⟩,
  ⟨(some 19), (some (18, true)), (Op.fieldAddr 27 (Operand.tmp 2) 4)⟩,
  ⟨(some 20), (some (18, true)), (Op.load 3 (Operand.tmp 19))⟩,
  ⟨(some 21), (some (18, true)), (Op.move (Operand.tmp 1))⟩,
  ⟨(some 22), (some (18, true)), (Op.binOp BinOp.add 3 (Operand.tmp 21) (Operand.const (Value.int IntKind.i64 1)) 3)⟩,
  ⟨(some 23), (some (18, true)), (Op.binOp BinOp.eql 3 (Operand.tmp 20) (Operand.tmp 22) 3)⟩,
  ⟨(some 24), (some (15, false)), (Op.pick (Operand.tmp 18) (Operand.tmp 23) (Operand.const (Value.bool false)))⟩,
  ⟨(some 25), none, (Op.pick (Operand.tmp 15) (Operand.const (Value.bool true)) (Operand.tmp 24))⟩,
  ⟨(some 4), none, (Op.assign (Operand.tmp 25))⟩]
theorem r_impl_Idle_1_eq {Q : Ex → S → Prop} {b i : Nat} {k : List Fr} {s : S} : OpG Γ E CC DD Q b i r_impl_Idle_1 k s = OpG Γ E CC DD Q b i [
  ⟨(some 5), none, (Op.fieldAddr 27 (Operand.tmp 2) 0)⟩,
  ⟨(some 6), none, (Op.load 3 (Operand.tmp 5))⟩,
  ⟨(some 7), none, (Op.binOp BinOp.eql 3 (Operand.tmp 6) (Operand.const (Value.int IntKind.i64 2)) 3)⟩,
  ⟨(some 8), none, (Op.move (Operand.tmp 7))⟩,
  ⟨(some 9), (some (8, true)), (Op.fieldAddr 27 (Operand.tmp 2) 1)⟩,
  ⟨(some 10), (some (8, true)), (Op.load 3 (Operand.tmp 9))⟩,
  ⟨(some 11), (some (8, true)), (Op.fieldAddr 27 (Operand.tmp 2) 2)⟩,
  ⟨(some 12), (some (8, true)), (Op.load 3 (Operand.tmp 11))⟩,
  ⟨(some 13), (some (8, true)), (Op.binOp BinOp.eql 3 (Operand.tmp 10) (Operand.tmp 12) 3)⟩,
  ⟨(some 14), none, (Op.pick (Operand.tmp 8) (Operand.tmp 13) (Operand.const (Value.bool false)))⟩,
  ⟨(some 15), none, (Op.move (Operand.tmp 14))⟩,
  ⟨(some 16), (some (15, false)), (Op.load 27 (Operand.tmp 2))⟩,
  ⟨(some 17), (some (15, false)), (Op.call { callee := (Callee.value (Operand.func 30)), args := #[(Operand.tmp 16)], argTypes := #[27] })⟩,
  ⟨(some 18), (some (15, false)), (Op.move (Operand.tmp 17))⟩,
  ⟨(some 19), (some (18, true)), (Op.fieldAddr 27 (Operand.tmp 2) 4)⟩,
  ⟨(some 20), (some (18, true)), (Op.load 3 (Operand.tmp 19))⟩,
  ⟨(some 21), (some (18, true)), (Op.move (Operand.tmp 1))⟩,
  ⟨(some 22), (some (18, true)), (Op.binOp BinOp.add 3 (Operand.tmp 21) (Operand.const (Value.int IntKind.i64 1)) 3)⟩,
  ⟨(some 23), (some (18, true)), (Op.binOp BinOp.eql 3 (Operand.tmp 20) (Operand.tmp 22) 3)⟩,
  ⟨(some 24), (some (15, false)), (Op.pick (Operand.tmp 18) (Operand.tmp 23) (Operand.const (Value.bool false)))⟩,
  ⟨(some 25), none, (Op.pick (Operand.tmp 15) (Operand.const (Value.bool true)) (Operand.tmp 24))⟩,
  ⟨(some 4), none, (Op.assign (Operand.tmp 25))⟩] k s := rfl
noncomputable def c_impl_Idle : PC :=
  (.seq (.ops 2 r_impl_Idle_0) (.seq (.ops 22 r_impl_Idle_1) .ret))
theorem res_impl_Idle : Try.f15.results.toList = [(ResultVar.tmp 4)] := rfl
theorem c_impl_Idle_ok : prep ((Try.f15.body).getD .skip) = some c_impl_Idle := by rfl
noncomputable def r_impl_jumps_0 : List POp := [
  ⟨(some 1), none, (Op.box 27 (Operand.tmp 0))⟩,
  ⟨(some 2), none, (Op.assign (Operand.const (Value.bool false)))⟩]
theorem r_impl_jumps_0_eq {Q : Ex → S → Prop} {b i : Nat} {k : List Fr} {s : S} : OpG Γ E CC DD Q b i r_impl_jumps_0 k s = OpG Γ E CC DD Q b i [
  ⟨(some 1), none, (Op.box 27 (Operand.tmp 0))⟩,
  ⟨(some 2), none, (Op.assign (Operand.const (Value.bool false)))⟩] k s := rfl
noncomputable def r_impl_jumps_1 : List POp := [
  ⟨(some 3), none, (Op.fieldAddr 27 (Operand.tmp 1) 0)⟩,
  ⟨(some 4), none, (Op.load 3 (Operand.tmp 3))⟩,
  ⟨(some 5), none, (Op.binOp BinOp.eql 3 (Operand.tmp 4) (Operand.const (Value.int IntKind.i64 9)) 3)⟩,
  ⟨(some 6), none, (Op.move (Operand.tmp 5))⟩,
  ⟨(some 7), (some (6, false)), (Op.fieldAddr 27 (Operand.tmp 1) 0)⟩,
  ⟨(some 8), (some (6, false)), (Op.load 3 (Operand.tmp 7))⟩,
  ⟨(some 9), (some (6, false)), (Op.binOp BinOp.eql 3 (Operand.tmp 8) (Operand.const (Value.int IntKind.i64 10)) 3)⟩,
  ⟨(some 10), none, (Op.pick (Operand.tmp 6) (Operand.const (Value.bool true)) (Operand.tmp 9))⟩,
  ⟨(some 2), none, (Op.assign (Operand.tmp 10))⟩]
theorem r_impl_jumps_1_eq {Q : Ex → S → Prop} {b i : Nat} {k : List Fr} {s : S} : OpG Γ E CC DD Q b i r_impl_jumps_1 k s = OpG Γ E CC DD Q b i [
  ⟨(some 3), none, (Op.fieldAddr 27 (Operand.tmp 1) 0)⟩,
  ⟨(some 4), none, (Op.load 3 (Operand.tmp 3))⟩,
  ⟨(some 5), none, (Op.binOp BinOp.eql 3 (Operand.tmp 4) (Operand.const (Value.int IntKind.i64 9)) 3)⟩,
  ⟨(some 6), none, (Op.move (Operand.tmp 5))⟩,
  ⟨(some 7), (some (6, false)), (Op.fieldAddr 27 (Operand.tmp 1) 0)⟩,
  ⟨(some 8), (some (6, false)), (Op.load 3 (Operand.tmp 7))⟩,
  ⟨(some 9), (some (6, false)), (Op.binOp BinOp.eql 3 (Operand.tmp 8) (Operand.const (Value.int IntKind.i64 10)) 3)⟩,
  ⟨(some 10), none, (Op.pick (Operand.tmp 6) (Operand.const (Value.bool true)) (Operand.tmp 9))⟩,
  ⟨(some 2), none, (Op.assign (Operand.tmp 10))⟩] k s := rfl
noncomputable def c_impl_jumps : PC :=
  (.seq (.ops 2 r_impl_jumps_0) (.seq (.ops 9 r_impl_jumps_1) .ret))
theorem res_impl_jumps : Try.f30.results.toList = [(ResultVar.tmp 2)] := rfl
theorem c_impl_jumps_ok : prep ((Try.f30.body).getD .skip) = some c_impl_jumps := by rfl
end Go.Proofs.YthkabndeolefpaaM
