import Derived.Test.YtgbaininmgdnoaaV9V
import Derived.Test.YtgbaininmgdnoaaV9Mvm
namespace Go.Proofs.YtgbaininmgdnoaaM
open Go
open Int renaming cast_ofNat_Int → Q0, reduceLT → Q1, reduceLE → Q2, reduceGT → Q3, reduceGE → Q4, reduceEq → Q5, reduceBEq → Q6, reduceAdd → Q7, reduceSub → Q8, reduceToNat → Q9
open Nat renaming reduceShiftRight → Z0, reduceMod → Z1, reduceLT → Z2, reduceEqDiff → Z3, reduceAdd → Z4, reduceMul → Z5, reduceLeDiff → Z6, reduceBEq → Z7
open List renaming getElem?_eq_getElem → L0, length_map → L1, length_cons → L2, length_nil → L3
open Bool renaming and_eq_true → B0, or_eq_false_iff → B1, or_eq_true → B2, and_eq_false_iff → B3, not_eq_true' → B4, not_eq_false' → B5
set_option linter.unusedVariables false
set_option linter.unusedSimpArgs false
set_option maxRecDepth 100000
set_option maxHeartbeats 4000000
attribute [local irreducible] PW CK EK C2 PXM XK LX axK rdK thK blK FK SK LK AK GK CD unK TT keK
def MU (f : FuncId) (i : Nat) : Nat := match f with
  | 16 => (if i = 0 then 1 else 0)
  | 18 => (if i = 0 then 1 else 0)
  | 21 => 1
  | 26 => (if i = 0 then 1 else (if i = 1 then 1 else 0))
  | 29 => (if i = 0 then 1 else (if i = 1 then 1 else 0))
  | 30 => 1
  | 31 => 1
  | 32 => (if i = 0 then 2 else 0)
  | 33 => (if i = 0 then 2 else 0)
  | 34 => (if i = 0 then 1 else 0)
  | 36 => 1
  | 38 => 1
  | 39 => 1
  | 40 => 1
  | 41 => (if i = 0 then 2 else 0)
  | 42 => (if i = 0 then 2 else 0)
  | 43 => (if i = 0 then 1 else 0)
  | 44 => 1
  | 45 => 1
  | 46 => 1
  | 48 => 1
  | 49 => (if i = 0 then 1 else 0)
  | 50 => (if i = 0 then 1 else 0)
  | 51 => (if i = 0 then 1 else 0)
  | 53 => 1
  | 55 => (if i = 0 then 1 else 0)
  | 56 => (if i = 0 then 1 else 0)
  | 58 => (if i = 0 then 2 else 0)
  | 59 => (if i = 0 then 2 else 0)
  | 60 => 2
  | 63 => (if i = 0 then 2 else 0)
  | 64 => 2
  | 65 => 2
  | 75 => (if i = 0 then 2 else 0)
  | 81 => 1
  | 84 => (if i = 0 then 2 else 0)
  | 86 => 1
  | 91 => 1
  | 94 => 1
  | 95 => (if i = 0 then 2 else (if i = 1 then 1 else 0))
  | 97 => (if i = 0 then 2 else 0)
  | 98 => 2
  | 100 => 2
  | 101 => 2
  | 102 => 2
  | 103 => (if i = 0 then 2 else 0)
  | 104 => 2
  | 108 => 1
  | 109 => 2
  | 110 => 1
  | 111 => 2
  | 113 => 1
  | 140 => (if i = 0 then 2 else 0)
  | 141 => (if i = 0 then 2 else 0)
  | 146 => 1
  | 149 => (if i = 3 then 1 else 0)
  | 150 => 1
  | 152 => (if i = 2 then 1 else 0)
  | 155 => 1
  | 156 => 1
  | 157 => 2
  | 158 => 2
  | 159 => (if i = 0 then 2 else 0)
  | 160 => (if i = 0 then 2 else 0)
  | 161 => (if i = 0 then 2 else 0)
  | 181 => (if i = 0 then 2 else 0)
  | 194 => (if i = 2 then 1 else 0)
  | 197 => 1
  | 202 => 1
  | 203 => (if i = 0 then 2 else 0)
  | 204 => (if i = 0 then 2 else 0)
  | 205 => (if i = 0 then 2 else 0)
  | 206 => (if i = 0 then 2 else 0)
  | 219 => (if i = 2 then 1 else 0)
  | _ => 0
@[go_sem] theorem mu_12 {i : Nat} : MU 12 i = 0 := nr rfl
@[go_sem] theorem mu_13 {i : Nat} : MU 13 i = 0 := nr rfl
@[go_sem] theorem mu_14 {i : Nat} : MU 14 i = 0 := nr rfl
@[go_sem] theorem mu_15 {i : Nat} : MU 15 i = 0 := nr rfl
@[go_sem] theorem mu_16 {i : Nat} : MU 16 i = (if i = 0 then 1 else 0) := nr rfl
@[go_sem] theorem mu_17 {i : Nat} : MU 17 i = 0 := nr rfl
@[go_sem] theorem mu_18 {i : Nat} : MU 18 i = (if i = 0 then 1 else 0) := nr rfl
@[go_sem] theorem mu_57 {i : Nat} : MU 57 i = 0 := nr rfl
@[go_sem] theorem mu_58 {i : Nat} : MU 58 i = (if i = 0 then 2 else 0) := nr rfl
@[go_sem] theorem mu_59 {i : Nat} : MU 59 i = (if i = 0 then 2 else 0) := nr rfl
@[go_sem] theorem mu_60 {i : Nat} : MU 60 i = 2 := nr rfl
@[go_sem] theorem mu_61 {i : Nat} : MU 61 i = 0 := nr rfl
@[go_sem] theorem mu_62 {i : Nat} : MU 62 i = 0 := nr rfl
@[go_sem] theorem mu_63 {i : Nat} : MU 63 i = (if i = 0 then 2 else 0) := nr rfl
@[go_sem] theorem mu_64 {i : Nat} : MU 64 i = 2 := nr rfl
abbrev iv (n : Int) : DV := .fv (.int .i64 n)
abbrev bv (b : Bool) : DV := .fv (.bool b)
def I64 (n : Int) : Prop := -9223372036854775808 ≤ n ∧ n ≤ 9223372036854775807
theorem g0 { P Q : Prop} (h : Q) (e : P = Q := by simp (maxSteps := 1000000) only [go_sem, Int.cast_ofNat_Int, Int.reduceLT, Int.reduceLE, Int.reduceGT, Int.reduceGE, Int.reduceEq, Int.reduceBEq, Int.reduceAdd, Int.reduceSub, Int.reduceToNat, Nat.reduceShiftRight, Nat.reduceMod, Nat.reduceLT, Nat.reduceEqDiff, Nat.reduceAdd, Nat.reduceMul, Nat.reduceLeDiff, Nat.reduceBEq, reduceIte, List.getElem_map]; first | done | rfl) : P := (e).mpr h
theorem d0 { P Q : Prop} (h : Q) (e : P = Q := by simp (disch := first | omega | assumption) only [wrapI, ia3_hdrN, ia3_rowN, ia3_hdrI, ia3_rowI, List.getElem?_eq_getElem, List.length_map, List.length_cons, List.length_nil, List.getElem_map]; first | done | rfl) : P := (e).mpr h
theorem j0 {b : Bool} {B C D E R T : Prop} (h1 : b = true → R → D) (h2 : b = false → T → E) (r1 : b = true → R := by intro hg; (try simp only [Bool.and_eq_true, Bool.or_eq_false_iff, Bool.or_eq_true, Bool.and_eq_false_iff, Bool.not_eq_true', Bool.not_eq_false', decide_eq_true_eq, decide_eq_false_iff_not, beqT, beqF, bneT, bneF] at hg); exact hg) (r2 : b = false → T := by intro hg; (try simp only [Bool.and_eq_true, Bool.or_eq_false_iff, Bool.or_eq_true, Bool.and_eq_false_iff, Bool.not_eq_true', Bool.not_eq_false', decide_eq_true_eq, decide_eq_false_iff_not, beqT, beqF, bneT, bneF] at hg); exact hg) (e1 : b = true → B = D := by intro hg; (try simp (disch := first | omega | assumption) only [wrapI, ia3_hdrN, ia3_rowN, ia3_hdrI, ia3_rowI, List.getElem?_eq_getElem, List.length_map, List.length_cons, List.length_nil, List.getElem_map]); (try simp only [hg]); (first | simp only [eq_true (beq_iff_eq.1 hg)] | simp only [eq_false (beq_eq_false_iff_ne.1 hg)] | simp only [eq_true (of_decide_eq_true hg)] | simp only [eq_false (of_decide_eq_false hg)] | skip); (first | done | rfl)) (e2 : b = false → C = E := by intro hg; (try simp (disch := first | omega | assumption) only [wrapI, ia3_hdrN, ia3_rowN, ia3_hdrI, ia3_rowI, List.getElem?_eq_getElem, List.length_map, List.length_cons, List.length_nil, List.getElem_map]); (try simp only [hg]); (first | simp only [eq_true (beq_iff_eq.1 hg)] | simp only [eq_false (beq_eq_false_iff_ne.1 hg)] | simp only [eq_true (of_decide_eq_true hg)] | simp only [eq_false (of_decide_eq_false hg)] | skip); (first | done | rfl)) : TT b B C .mk .mk := tt_i (fun g => (e1 (tb_eq g)).mpr (h1 (tb_eq g) (r1 (tb_eq g)))) fun g => (e2 (tb_eq g)).mpr (h2 (tb_eq g) (r2 (tb_eq g)))
theorem g1 {A0 P Q : Prop} (a0 : A0) (h : Q) (e : A0 → P = Q := by intro a0; simp (maxSteps := 1000000) only [go_sem, Int.cast_ofNat_Int, Int.reduceLT, Int.reduceLE, Int.reduceGT, Int.reduceGE, Int.reduceEq, Int.reduceBEq, Int.reduceAdd, Int.reduceSub, Int.reduceToNat, Nat.reduceShiftRight, Nat.reduceMod, Nat.reduceLT, Nat.reduceEqDiff, Nat.reduceAdd, Nat.reduceMul, Nat.reduceLeDiff, Nat.reduceBEq, reduceIte, List.getElem_map, a0]; first | done | rfl) : P := (e a0).mpr h
theorem d1 {A0 P Q : Prop} (a0 : A0) (h : Q) (e : A0 → P = Q := by intro a0; simp (disch := first | omega | assumption) only [wrapI, ia3_hdrN, ia3_rowN, ia3_hdrI, ia3_rowI, List.getElem?_eq_getElem, List.length_map, List.length_cons, List.length_nil, List.getElem_map, a0]; first | done | rfl) : P := (e a0).mpr h
theorem j1 {b : Bool} {A0 B C D E R T : Prop} (a0 : A0) (h1 : b = true → R → D) (h2 : b = false → T → E) (r1 : b = true → R := by intro hg; (try simp only [Bool.and_eq_true, Bool.or_eq_false_iff, Bool.or_eq_true, Bool.and_eq_false_iff, Bool.not_eq_true', Bool.not_eq_false', decide_eq_true_eq, decide_eq_false_iff_not, beqT, beqF, bneT, bneF] at hg); exact hg) (r2 : b = false → T := by intro hg; (try simp only [Bool.and_eq_true, Bool.or_eq_false_iff, Bool.or_eq_true, Bool.and_eq_false_iff, Bool.not_eq_true', Bool.not_eq_false', decide_eq_true_eq, decide_eq_false_iff_not, beqT, beqF, bneT, bneF] at hg); exact hg) (e1 : A0 → b = true → B = D := by intro a0; intro hg; (try simp (disch := first | omega | assumption) only [wrapI, ia3_hdrN, ia3_rowN, ia3_hdrI, ia3_rowI, List.getElem?_eq_getElem, List.length_map, List.length_cons, List.length_nil, List.getElem_map, a0]); (try simp only [hg]); (first | simp only [eq_true (beq_iff_eq.1 hg)] | simp only [eq_false (beq_eq_false_iff_ne.1 hg)] | simp only [eq_true (of_decide_eq_true hg)] | simp only [eq_false (of_decide_eq_false hg)] | skip); (first | done | rfl)) (e2 : A0 → b = false → C = E := by intro a0; intro hg; (try simp (disch := first | omega | assumption) only [wrapI, ia3_hdrN, ia3_rowN, ia3_hdrI, ia3_rowI, List.getElem?_eq_getElem, List.length_map, List.length_cons, List.length_nil, List.getElem_map, a0]); (try simp only [hg]); (first | simp only [eq_true (beq_iff_eq.1 hg)] | simp only [eq_false (beq_eq_false_iff_ne.1 hg)] | simp only [eq_true (of_decide_eq_true hg)] | simp only [eq_false (of_decide_eq_false hg)] | skip); (first | done | rfl)) : TT b B C .mk .mk := tt_i (fun g => (e1 a0 (tb_eq g)).mpr (h1 (tb_eq g) (r1 (tb_eq g)))) fun g => (e2 a0 (tb_eq g)).mpr (h2 (tb_eq g) (r2 (tb_eq g)))
theorem g2 {A0 A1 P Q : Prop} (a0 : A0) (a1 : A1) (h : Q) (e : A0 → A1 → P = Q := by intro a0 a1; simp (maxSteps := 1000000) only [go_sem, Int.cast_ofNat_Int, Int.reduceLT, Int.reduceLE, Int.reduceGT, Int.reduceGE, Int.reduceEq, Int.reduceBEq, Int.reduceAdd, Int.reduceSub, Int.reduceToNat, Nat.reduceShiftRight, Nat.reduceMod, Nat.reduceLT, Nat.reduceEqDiff, Nat.reduceAdd, Nat.reduceMul, Nat.reduceLeDiff, Nat.reduceBEq, reduceIte, List.getElem_map, a0, a1]; first | done | rfl) : P := (e a0 a1).mpr h
theorem d2 {A0 A1 P Q : Prop} (a0 : A0) (a1 : A1) (h : Q) (e : A0 → A1 → P = Q := by intro a0 a1; simp (disch := first | omega | assumption) only [wrapI, ia3_hdrN, ia3_rowN, ia3_hdrI, ia3_rowI, List.getElem?_eq_getElem, List.length_map, List.length_cons, List.length_nil, List.getElem_map, a0, a1]; first | done | rfl) : P := (e a0 a1).mpr h
theorem j2 {b : Bool} {A0 A1 B C D E R T : Prop} (a0 : A0) (a1 : A1) (h1 : b = true → R → D) (h2 : b = false → T → E) (r1 : b = true → R := by intro hg; (try simp only [Bool.and_eq_true, Bool.or_eq_false_iff, Bool.or_eq_true, Bool.and_eq_false_iff, Bool.not_eq_true', Bool.not_eq_false', decide_eq_true_eq, decide_eq_false_iff_not, beqT, beqF, bneT, bneF] at hg); exact hg) (r2 : b = false → T := by intro hg; (try simp only [Bool.and_eq_true, Bool.or_eq_false_iff, Bool.or_eq_true, Bool.and_eq_false_iff, Bool.not_eq_true', Bool.not_eq_false', decide_eq_true_eq, decide_eq_false_iff_not, beqT, beqF, bneT, bneF] at hg); exact hg) (e1 : A0 → A1 → b = true → B = D := by intro a0 a1; intro hg; (try simp (disch := first | omega | assumption) only [wrapI, ia3_hdrN, ia3_rowN, ia3_hdrI, ia3_rowI, List.getElem?_eq_getElem, List.length_map, List.length_cons, List.length_nil, List.getElem_map, a0, a1]); (try simp only [hg]); (first | simp only [eq_true (beq_iff_eq.1 hg)] | simp only [eq_false (beq_eq_false_iff_ne.1 hg)] | simp only [eq_true (of_decide_eq_true hg)] | simp only [eq_false (of_decide_eq_false hg)] | skip); (first | done | rfl)) (e2 : A0 → A1 → b = false → C = E := by intro a0 a1; intro hg; (try simp (disch := first | omega | assumption) only [wrapI, ia3_hdrN, ia3_rowN, ia3_hdrI, ia3_rowI, List.getElem?_eq_getElem, List.length_map, List.length_cons, List.length_nil, List.getElem_map, a0, a1]); (try simp only [hg]); (first | simp only [eq_true (beq_iff_eq.1 hg)] | simp only [eq_false (beq_eq_false_iff_ne.1 hg)] | simp only [eq_true (of_decide_eq_true hg)] | simp only [eq_false (of_decide_eq_false hg)] | skip); (first | done | rfl)) : TT b B C .mk .mk := tt_i (fun g => (e1 a0 a1 (tb_eq g)).mpr (h1 (tb_eq g) (r1 (tb_eq g)))) fun g => (e2 a0 a1 (tb_eq g)).mpr (h2 (tb_eq g) (r2 (tb_eq g)))
theorem g3 {A0 A1 A2 P Q : Prop} (a0 : A0) (a1 : A1) (a2 : A2) (h : Q) (e : A0 → A1 → A2 → P = Q := by intro a0 a1 a2; simp (maxSteps := 1000000) only [go_sem, Int.cast_ofNat_Int, Int.reduceLT, Int.reduceLE, Int.reduceGT, Int.reduceGE, Int.reduceEq, Int.reduceBEq, Int.reduceAdd, Int.reduceSub, Int.reduceToNat, Nat.reduceShiftRight, Nat.reduceMod, Nat.reduceLT, Nat.reduceEqDiff, Nat.reduceAdd, Nat.reduceMul, Nat.reduceLeDiff, Nat.reduceBEq, reduceIte, List.getElem_map, a0, a1, a2]; first | done | rfl) : P := (e a0 a1 a2).mpr h
theorem d3 {A0 A1 A2 P Q : Prop} (a0 : A0) (a1 : A1) (a2 : A2) (h : Q) (e : A0 → A1 → A2 → P = Q := by intro a0 a1 a2; simp (disch := first | omega | assumption) only [wrapI, ia3_hdrN, ia3_rowN, ia3_hdrI, ia3_rowI, List.getElem?_eq_getElem, List.length_map, List.length_cons, List.length_nil, List.getElem_map, a0, a1, a2]; first | done | rfl) : P := (e a0 a1 a2).mpr h
theorem j3 {b : Bool} {A0 A1 A2 B C D E R T : Prop} (a0 : A0) (a1 : A1) (a2 : A2) (h1 : b = true → R → D) (h2 : b = false → T → E) (r1 : b = true → R := by intro hg; (try simp only [Bool.and_eq_true, Bool.or_eq_false_iff, Bool.or_eq_true, Bool.and_eq_false_iff, Bool.not_eq_true', Bool.not_eq_false', decide_eq_true_eq, decide_eq_false_iff_not, beqT, beqF, bneT, bneF] at hg); exact hg) (r2 : b = false → T := by intro hg; (try simp only [Bool.and_eq_true, Bool.or_eq_false_iff, Bool.or_eq_true, Bool.and_eq_false_iff, Bool.not_eq_true', Bool.not_eq_false', decide_eq_true_eq, decide_eq_false_iff_not, beqT, beqF, bneT, bneF] at hg); exact hg) (e1 : A0 → A1 → A2 → b = true → B = D := by intro a0 a1 a2; intro hg; (try simp (disch := first | omega | assumption) only [wrapI, ia3_hdrN, ia3_rowN, ia3_hdrI, ia3_rowI, List.getElem?_eq_getElem, List.length_map, List.length_cons, List.length_nil, List.getElem_map, a0, a1, a2]); (try simp only [hg]); (first | simp only [eq_true (beq_iff_eq.1 hg)] | simp only [eq_false (beq_eq_false_iff_ne.1 hg)] | simp only [eq_true (of_decide_eq_true hg)] | simp only [eq_false (of_decide_eq_false hg)] | skip); (first | done | rfl)) (e2 : A0 → A1 → A2 → b = false → C = E := by intro a0 a1 a2; intro hg; (try simp (disch := first | omega | assumption) only [wrapI, ia3_hdrN, ia3_rowN, ia3_hdrI, ia3_rowI, List.getElem?_eq_getElem, List.length_map, List.length_cons, List.length_nil, List.getElem_map, a0, a1, a2]); (try simp only [hg]); (first | simp only [eq_true (beq_iff_eq.1 hg)] | simp only [eq_false (beq_eq_false_iff_ne.1 hg)] | simp only [eq_true (of_decide_eq_true hg)] | simp only [eq_false (of_decide_eq_false hg)] | skip); (first | done | rfl)) : TT b B C .mk .mk := tt_i (fun g => (e1 a0 a1 a2 (tb_eq g)).mpr (h1 (tb_eq g) (r1 (tb_eq g)))) fun g => (e2 a0 a1 a2 (tb_eq g)).mpr (h2 (tb_eq g) (r2 (tb_eq g)))
theorem g4 {A0 A1 A2 A3 P Q : Prop} (a0 : A0) (a1 : A1) (a2 : A2) (a3 : A3) (h : Q) (e : A0 → A1 → A2 → A3 → P = Q := by intro a0 a1 a2 a3; simp (maxSteps := 1000000) only [go_sem, Int.cast_ofNat_Int, Int.reduceLT, Int.reduceLE, Int.reduceGT, Int.reduceGE, Int.reduceEq, Int.reduceBEq, Int.reduceAdd, Int.reduceSub, Int.reduceToNat, Nat.reduceShiftRight, Nat.reduceMod, Nat.reduceLT, Nat.reduceEqDiff, Nat.reduceAdd, Nat.reduceMul, Nat.reduceLeDiff, Nat.reduceBEq, reduceIte, List.getElem_map, a0, a1, a2, a3]; first | done | rfl) : P := (e a0 a1 a2 a3).mpr h
theorem d4 {A0 A1 A2 A3 P Q : Prop} (a0 : A0) (a1 : A1) (a2 : A2) (a3 : A3) (h : Q) (e : A0 → A1 → A2 → A3 → P = Q := by intro a0 a1 a2 a3; simp (disch := first | omega | assumption) only [wrapI, ia3_hdrN, ia3_rowN, ia3_hdrI, ia3_rowI, List.getElem?_eq_getElem, List.length_map, List.length_cons, List.length_nil, List.getElem_map, a0, a1, a2, a3]; first | done | rfl) : P := (e a0 a1 a2 a3).mpr h
theorem j4 {b : Bool} {A0 A1 A2 A3 B C D E R T : Prop} (a0 : A0) (a1 : A1) (a2 : A2) (a3 : A3) (h1 : b = true → R → D) (h2 : b = false → T → E) (r1 : b = true → R := by intro hg; (try simp only [Bool.and_eq_true, Bool.or_eq_false_iff, Bool.or_eq_true, Bool.and_eq_false_iff, Bool.not_eq_true', Bool.not_eq_false', decide_eq_true_eq, decide_eq_false_iff_not, beqT, beqF, bneT, bneF] at hg); exact hg) (r2 : b = false → T := by intro hg; (try simp only [Bool.and_eq_true, Bool.or_eq_false_iff, Bool.or_eq_true, Bool.and_eq_false_iff, Bool.not_eq_true', Bool.not_eq_false', decide_eq_true_eq, decide_eq_false_iff_not, beqT, beqF, bneT, bneF] at hg); exact hg) (e1 : A0 → A1 → A2 → A3 → b = true → B = D := by intro a0 a1 a2 a3; intro hg; (try simp (disch := first | omega | assumption) only [wrapI, ia3_hdrN, ia3_rowN, ia3_hdrI, ia3_rowI, List.getElem?_eq_getElem, List.length_map, List.length_cons, List.length_nil, List.getElem_map, a0, a1, a2, a3]); (try simp only [hg]); (first | simp only [eq_true (beq_iff_eq.1 hg)] | simp only [eq_false (beq_eq_false_iff_ne.1 hg)] | simp only [eq_true (of_decide_eq_true hg)] | simp only [eq_false (of_decide_eq_false hg)] | skip); (first | done | rfl)) (e2 : A0 → A1 → A2 → A3 → b = false → C = E := by intro a0 a1 a2 a3; intro hg; (try simp (disch := first | omega | assumption) only [wrapI, ia3_hdrN, ia3_rowN, ia3_hdrI, ia3_rowI, List.getElem?_eq_getElem, List.length_map, List.length_cons, List.length_nil, List.getElem_map, a0, a1, a2, a3]); (try simp only [hg]); (first | simp only [eq_true (beq_iff_eq.1 hg)] | simp only [eq_false (beq_eq_false_iff_ne.1 hg)] | simp only [eq_true (of_decide_eq_true hg)] | simp only [eq_false (of_decide_eq_false hg)] | skip); (first | done | rfl)) : TT b B C .mk .mk := tt_i (fun g => (e1 a0 a1 a2 a3 (tb_eq g)).mpr (h1 (tb_eq g) (r1 (tb_eq g)))) fun g => (e2 a0 a1 a2 a3 (tb_eq g)).mpr (h2 (tb_eq g) (r2 (tb_eq g)))
theorem g5 {A0 A1 A2 A3 A4 P Q : Prop} (a0 : A0) (a1 : A1) (a2 : A2) (a3 : A3) (a4 : A4) (h : Q) (e : A0 → A1 → A2 → A3 → A4 → P = Q := by intro a0 a1 a2 a3 a4; simp (maxSteps := 1000000) only [go_sem, Int.cast_ofNat_Int, Int.reduceLT, Int.reduceLE, Int.reduceGT, Int.reduceGE, Int.reduceEq, Int.reduceBEq, Int.reduceAdd, Int.reduceSub, Int.reduceToNat, Nat.reduceShiftRight, Nat.reduceMod, Nat.reduceLT, Nat.reduceEqDiff, Nat.reduceAdd, Nat.reduceMul, Nat.reduceLeDiff, Nat.reduceBEq, reduceIte, List.getElem_map, a0, a1, a2, a3, a4]; first | done | rfl) : P := (e a0 a1 a2 a3 a4).mpr h
theorem d5 {A0 A1 A2 A3 A4 P Q : Prop} (a0 : A0) (a1 : A1) (a2 : A2) (a3 : A3) (a4 : A4) (h : Q) (e : A0 → A1 → A2 → A3 → A4 → P = Q := by intro a0 a1 a2 a3 a4; simp (disch := first | omega | assumption) only [wrapI, ia3_hdrN, ia3_rowN, ia3_hdrI, ia3_rowI, List.getElem?_eq_getElem, List.length_map, List.length_cons, List.length_nil, List.getElem_map, a0, a1, a2, a3, a4]; first | done | rfl) : P := (e a0 a1 a2 a3 a4).mpr h
theorem j5 {b : Bool} {A0 A1 A2 A3 A4 B C D E R T : Prop} (a0 : A0) (a1 : A1) (a2 : A2) (a3 : A3) (a4 : A4) (h1 : b = true → R → D) (h2 : b = false → T → E) (r1 : b = true → R := by intro hg; (try simp only [Bool.and_eq_true, Bool.or_eq_false_iff, Bool.or_eq_true, Bool.and_eq_false_iff, Bool.not_eq_true', Bool.not_eq_false', decide_eq_true_eq, decide_eq_false_iff_not, beqT, beqF, bneT, bneF] at hg); exact hg) (r2 : b = false → T := by intro hg; (try simp only [Bool.and_eq_true, Bool.or_eq_false_iff, Bool.or_eq_true, Bool.and_eq_false_iff, Bool.not_eq_true', Bool.not_eq_false', decide_eq_true_eq, decide_eq_false_iff_not, beqT, beqF, bneT, bneF] at hg); exact hg) (e1 : A0 → A1 → A2 → A3 → A4 → b = true → B = D := by intro a0 a1 a2 a3 a4; intro hg; (try simp (disch := first | omega | assumption) only [wrapI, ia3_hdrN, ia3_rowN, ia3_hdrI, ia3_rowI, List.getElem?_eq_getElem, List.length_map, List.length_cons, List.length_nil, List.getElem_map, a0, a1, a2, a3, a4]); (try simp only [hg]); (first | simp only [eq_true (beq_iff_eq.1 hg)] | simp only [eq_false (beq_eq_false_iff_ne.1 hg)] | simp only [eq_true (of_decide_eq_true hg)] | simp only [eq_false (of_decide_eq_false hg)] | skip); (first | done | rfl)) (e2 : A0 → A1 → A2 → A3 → A4 → b = false → C = E := by intro a0 a1 a2 a3 a4; intro hg; (try simp (disch := first | omega | assumption) only [wrapI, ia3_hdrN, ia3_rowN, ia3_hdrI, ia3_rowI, List.getElem?_eq_getElem, List.length_map, List.length_cons, List.length_nil, List.getElem_map, a0, a1, a2, a3, a4]); (try simp only [hg]); (first | simp only [eq_true (beq_iff_eq.1 hg)] | simp only [eq_false (beq_eq_false_iff_ne.1 hg)] | simp only [eq_true (of_decide_eq_true hg)] | simp only [eq_false (of_decide_eq_false hg)] | skip); (first | done | rfl)) : TT b B C .mk .mk := tt_i (fun g => (e1 a0 a1 a2 a3 a4 (tb_eq g)).mpr (h1 (tb_eq g) (r1 (tb_eq g)))) fun g => (e2 a0 a1 a2 a3 a4 (tb_eq g)).mpr (h2 (tb_eq g) (r2 (tb_eq g)))
theorem g6 {A0 A1 A2 A3 A4 A5 P Q : Prop} (a0 : A0) (a1 : A1) (a2 : A2) (a3 : A3) (a4 : A4) (a5 : A5) (h : Q) (e : A0 → A1 → A2 → A3 → A4 → A5 → P = Q := by intro a0 a1 a2 a3 a4 a5; simp (maxSteps := 1000000) only [go_sem, Int.cast_ofNat_Int, Int.reduceLT, Int.reduceLE, Int.reduceGT, Int.reduceGE, Int.reduceEq, Int.reduceBEq, Int.reduceAdd, Int.reduceSub, Int.reduceToNat, Nat.reduceShiftRight, Nat.reduceMod, Nat.reduceLT, Nat.reduceEqDiff, Nat.reduceAdd, Nat.reduceMul, Nat.reduceLeDiff, Nat.reduceBEq, reduceIte, List.getElem_map, a0, a1, a2, a3, a4, a5]; first | done | rfl) : P := (e a0 a1 a2 a3 a4 a5).mpr h
theorem d6 {A0 A1 A2 A3 A4 A5 P Q : Prop} (a0 : A0) (a1 : A1) (a2 : A2) (a3 : A3) (a4 : A4) (a5 : A5) (h : Q) (e : A0 → A1 → A2 → A3 → A4 → A5 → P = Q := by intro a0 a1 a2 a3 a4 a5; simp (disch := first | omega | assumption) only [wrapI, ia3_hdrN, ia3_rowN, ia3_hdrI, ia3_rowI, List.getElem?_eq_getElem, List.length_map, List.length_cons, List.length_nil, List.getElem_map, a0, a1, a2, a3, a4, a5]; first | done | rfl) : P := (e a0 a1 a2 a3 a4 a5).mpr h
theorem j6 {b : Bool} {A0 A1 A2 A3 A4 A5 B C D E R T : Prop} (a0 : A0) (a1 : A1) (a2 : A2) (a3 : A3) (a4 : A4) (a5 : A5) (h1 : b = true → R → D) (h2 : b = false → T → E) (r1 : b = true → R := by intro hg; (try simp only [Bool.and_eq_true, Bool.or_eq_false_iff, Bool.or_eq_true, Bool.and_eq_false_iff, Bool.not_eq_true', Bool.not_eq_false', decide_eq_true_eq, decide_eq_false_iff_not, beqT, beqF, bneT, bneF] at hg); exact hg) (r2 : b = false → T := by intro hg; (try simp only [Bool.and_eq_true, Bool.or_eq_false_iff, Bool.or_eq_true, Bool.and_eq_false_iff, Bool.not_eq_true', Bool.not_eq_false', decide_eq_true_eq, decide_eq_false_iff_not, beqT, beqF, bneT, bneF] at hg); exact hg) (e1 : A0 → A1 → A2 → A3 → A4 → A5 → b = true → B = D := by intro a0 a1 a2 a3 a4 a5; intro hg; (try simp (disch := first | omega | assumption) only [wrapI, ia3_hdrN, ia3_rowN, ia3_hdrI, ia3_rowI, List.getElem?_eq_getElem, List.length_map, List.length_cons, List.length_nil, List.getElem_map, a0, a1, a2, a3, a4, a5]); (try simp only [hg]); (first | simp only [eq_true (beq_iff_eq.1 hg)] | simp only [eq_false (beq_eq_false_iff_ne.1 hg)] | simp only [eq_true (of_decide_eq_true hg)] | simp only [eq_false (of_decide_eq_false hg)] | skip); (first | done | rfl)) (e2 : A0 → A1 → A2 → A3 → A4 → A5 → b = false → C = E := by intro a0 a1 a2 a3 a4 a5; intro hg; (try simp (disch := first | omega | assumption) only [wrapI, ia3_hdrN, ia3_rowN, ia3_hdrI, ia3_rowI, List.getElem?_eq_getElem, List.length_map, List.length_cons, List.length_nil, List.getElem_map, a0, a1, a2, a3, a4, a5]); (try simp only [hg]); (first | simp only [eq_true (beq_iff_eq.1 hg)] | simp only [eq_false (beq_eq_false_iff_ne.1 hg)] | simp only [eq_true (of_decide_eq_true hg)] | simp only [eq_false (of_decide_eq_false hg)] | skip); (first | done | rfl)) : TT b B C .mk .mk := tt_i (fun g => (e1 a0 a1 a2 a3 a4 a5 (tb_eq g)).mpr (h1 (tb_eq g) (r1 (tb_eq g)))) fun g => (e2 a0 a1 a2 a3 a4 a5 (tb_eq g)).mpr (h2 (tb_eq g) (r2 (tb_eq g)))
theorem g7 {A0 A1 A2 A3 A4 A5 A6 P Q : Prop} (a0 : A0) (a1 : A1) (a2 : A2) (a3 : A3) (a4 : A4) (a5 : A5) (a6 : A6) (h : Q) (e : A0 → A1 → A2 → A3 → A4 → A5 → A6 → P = Q := by intro a0 a1 a2 a3 a4 a5 a6; simp (maxSteps := 1000000) only [go_sem, Int.cast_ofNat_Int, Int.reduceLT, Int.reduceLE, Int.reduceGT, Int.reduceGE, Int.reduceEq, Int.reduceBEq, Int.reduceAdd, Int.reduceSub, Int.reduceToNat, Nat.reduceShiftRight, Nat.reduceMod, Nat.reduceLT, Nat.reduceEqDiff, Nat.reduceAdd, Nat.reduceMul, Nat.reduceLeDiff, Nat.reduceBEq, reduceIte, List.getElem_map, a0, a1, a2, a3, a4, a5, a6]; first | done | rfl) : P := (e a0 a1 a2 a3 a4 a5 a6).mpr h
theorem g8 {A0 A1 A2 A3 A4 A5 A6 A7 P Q : Prop} (a0 : A0) (a1 : A1) (a2 : A2) (a3 : A3) (a4 : A4) (a5 : A5) (a6 : A6) (a7 : A7) (h : Q) (e : A0 → A1 → A2 → A3 → A4 → A5 → A6 → A7 → P = Q := by intro a0 a1 a2 a3 a4 a5 a6 a7; simp (maxSteps := 1000000) only [go_sem, Int.cast_ofNat_Int, Int.reduceLT, Int.reduceLE, Int.reduceGT, Int.reduceGE, Int.reduceEq, Int.reduceBEq, Int.reduceAdd, Int.reduceSub, Int.reduceToNat, Nat.reduceShiftRight, Nat.reduceMod, Nat.reduceLT, Nat.reduceEqDiff, Nat.reduceAdd, Nat.reduceMul, Nat.reduceLeDiff, Nat.reduceBEq, reduceIte, List.getElem_map, a0, a1, a2, a3, a4, a5, a6, a7]; first | done | rfl) : P := (e a0 a1 a2 a3 a4 a5 a6 a7).mpr h
theorem d8 {A0 A1 A2 A3 A4 A5 A6 A7 P Q : Prop} (a0 : A0) (a1 : A1) (a2 : A2) (a3 : A3) (a4 : A4) (a5 : A5) (a6 : A6) (a7 : A7) (h : Q) (e : A0 → A1 → A2 → A3 → A4 → A5 → A6 → A7 → P = Q := by intro a0 a1 a2 a3 a4 a5 a6 a7; simp (disch := first | omega | assumption) only [wrapI, ia3_hdrN, ia3_rowN, ia3_hdrI, ia3_rowI, List.getElem?_eq_getElem, List.length_map, List.length_cons, List.length_nil, List.getElem_map, a0, a1, a2, a3, a4, a5, a6, a7]; first | done | rfl) : P := (e a0 a1 a2 a3 a4 a5 a6 a7).mpr h
theorem j8 {b : Bool} {A0 A1 A2 A3 A4 A5 A6 A7 B C D E R T : Prop} (a0 : A0) (a1 : A1) (a2 : A2) (a3 : A3) (a4 : A4) (a5 : A5) (a6 : A6) (a7 : A7) (h1 : b = true → R → D) (h2 : b = false → T → E) (r1 : b = true → R := by intro hg; (try simp only [Bool.and_eq_true, Bool.or_eq_false_iff, Bool.or_eq_true, Bool.and_eq_false_iff, Bool.not_eq_true', Bool.not_eq_false', decide_eq_true_eq, decide_eq_false_iff_not, beqT, beqF, bneT, bneF] at hg); exact hg) (r2 : b = false → T := by intro hg; (try simp only [Bool.and_eq_true, Bool.or_eq_false_iff, Bool.or_eq_true, Bool.and_eq_false_iff, Bool.not_eq_true', Bool.not_eq_false', decide_eq_true_eq, decide_eq_false_iff_not, beqT, beqF, bneT, bneF] at hg); exact hg) (e1 : A0 → A1 → A2 → A3 → A4 → A5 → A6 → A7 → b = true → B = D := by intro a0 a1 a2 a3 a4 a5 a6 a7; intro hg; (try simp (disch := first | omega | assumption) only [wrapI, ia3_hdrN, ia3_rowN, ia3_hdrI, ia3_rowI, List.getElem?_eq_getElem, List.length_map, List.length_cons, List.length_nil, List.getElem_map, a0, a1, a2, a3, a4, a5, a6, a7]); (try simp only [hg]); (first | simp only [eq_true (beq_iff_eq.1 hg)] | simp only [eq_false (beq_eq_false_iff_ne.1 hg)] | simp only [eq_true (of_decide_eq_true hg)] | simp only [eq_false (of_decide_eq_false hg)] | skip); (first | done | rfl)) (e2 : A0 → A1 → A2 → A3 → A4 → A5 → A6 → A7 → b = false → C = E := by intro a0 a1 a2 a3 a4 a5 a6 a7; intro hg; (try simp (disch := first | omega | assumption) only [wrapI, ia3_hdrN, ia3_rowN, ia3_hdrI, ia3_rowI, List.getElem?_eq_getElem, List.length_map, List.length_cons, List.length_nil, List.getElem_map, a0, a1, a2, a3, a4, a5, a6, a7]); (try simp only [hg]); (first | simp only [eq_true (beq_iff_eq.1 hg)] | simp only [eq_false (beq_eq_false_iff_ne.1 hg)] | simp only [eq_true (of_decide_eq_true hg)] | simp only [eq_false (of_decide_eq_false hg)] | skip); (first | done | rfl)) : TT b B C .mk .mk := tt_i (fun g => (e1 a0 a1 a2 a3 a4 a5 a6 a7 (tb_eq g)).mpr (h1 (tb_eq g) (r1 (tb_eq g)))) fun g => (e2 a0 a1 a2 a3 a4 a5 a6 a7 (tb_eq g)).mpr (h2 (tb_eq g) (r2 (tb_eq g)))
theorem g9 {A0 A1 A2 A3 A4 A5 A6 A7 A8 P Q : Prop} (a0 : A0) (a1 : A1) (a2 : A2) (a3 : A3) (a4 : A4) (a5 : A5) (a6 : A6) (a7 : A7) (a8 : A8) (h : Q) (e : A0 → A1 → A2 → A3 → A4 → A5 → A6 → A7 → A8 → P = Q := by intro a0 a1 a2 a3 a4 a5 a6 a7 a8; simp (maxSteps := 1000000) only [go_sem, Int.cast_ofNat_Int, Int.reduceLT, Int.reduceLE, Int.reduceGT, Int.reduceGE, Int.reduceEq, Int.reduceBEq, Int.reduceAdd, Int.reduceSub, Int.reduceToNat, Nat.reduceShiftRight, Nat.reduceMod, Nat.reduceLT, Nat.reduceEqDiff, Nat.reduceAdd, Nat.reduceMul, Nat.reduceLeDiff, Nat.reduceBEq, reduceIte, List.getElem_map, a0, a1, a2, a3, a4, a5, a6, a7, a8]; first | done | rfl) : P := (e a0 a1 a2 a3 a4 a5 a6 a7 a8).mpr h
theorem d9 {A0 A1 A2 A3 A4 A5 A6 A7 A8 P Q : Prop} (a0 : A0) (a1 : A1) (a2 : A2) (a3 : A3) (a4 : A4) (a5 : A5) (a6 : A6) (a7 : A7) (a8 : A8) (h : Q) (e : A0 → A1 → A2 → A3 → A4 → A5 → A6 → A7 → A8 → P = Q := by intro a0 a1 a2 a3 a4 a5 a6 a7 a8; simp (disch := first | omega | assumption) only [wrapI, ia3_hdrN, ia3_rowN, ia3_hdrI, ia3_rowI, List.getElem?_eq_getElem, List.length_map, List.length_cons, List.length_nil, List.getElem_map, a0, a1, a2, a3, a4, a5, a6, a7, a8]; first | done | rfl) : P := (e a0 a1 a2 a3 a4 a5 a6 a7 a8).mpr h
theorem j9 {b : Bool} {A0 A1 A2 A3 A4 A5 A6 A7 A8 B C D E R T : Prop} (a0 : A0) (a1 : A1) (a2 : A2) (a3 : A3) (a4 : A4) (a5 : A5) (a6 : A6) (a7 : A7) (a8 : A8) (h1 : b = true → R → D) (h2 : b = false → T → E) (r1 : b = true → R := by intro hg; (try simp only [Bool.and_eq_true, Bool.or_eq_false_iff, Bool.or_eq_true, Bool.and_eq_false_iff, Bool.not_eq_true', Bool.not_eq_false', decide_eq_true_eq, decide_eq_false_iff_not, beqT, beqF, bneT, bneF] at hg); exact hg) (r2 : b = false → T := by intro hg; (try simp only [Bool.and_eq_true, Bool.or_eq_false_iff, Bool.or_eq_true, Bool.and_eq_false_iff, Bool.not_eq_true', Bool.not_eq_false', decide_eq_true_eq, decide_eq_false_iff_not, beqT, beqF, bneT, bneF] at hg); exact hg) (e1 : A0 → A1 → A2 → A3 → A4 → A5 → A6 → A7 → A8 → b = true → B = D := by intro a0 a1 a2 a3 a4 a5 a6 a7 a8; intro hg; (try simp (disch := first | omega | assumption) only [wrapI, ia3_hdrN, ia3_rowN, ia3_hdrI, ia3_rowI, List.getElem?_eq_getElem, List.length_map, List.length_cons, List.length_nil, List.getElem_map, a0, a1, a2, a3, a4, a5, a6, a7, a8]); (try simp only [hg]); (first | simp only [eq_true (beq_iff_eq.1 hg)] | simp only [eq_false (beq_eq_false_iff_ne.1 hg)] | simp only [eq_true (of_decide_eq_true hg)] | simp only [eq_false (of_decide_eq_false hg)] | skip); (first | done | rfl)) (e2 : A0 → A1 → A2 → A3 → A4 → A5 → A6 → A7 → A8 → b = false → C = E := by intro a0 a1 a2 a3 a4 a5 a6 a7 a8; intro hg; (try simp (disch := first | omega | assumption) only [wrapI, ia3_hdrN, ia3_rowN, ia3_hdrI, ia3_rowI, List.getElem?_eq_getElem, List.length_map, List.length_cons, List.length_nil, List.getElem_map, a0, a1, a2, a3, a4, a5, a6, a7, a8]); (try simp only [hg]); (first | simp only [eq_true (beq_iff_eq.1 hg)] | simp only [eq_false (beq_eq_false_iff_ne.1 hg)] | simp only [eq_true (of_decide_eq_true hg)] | simp only [eq_false (of_decide_eq_false hg)] | skip); (first | done | rfl)) : TT b B C .mk .mk := tt_i (fun g => (e1 a0 a1 a2 a3 a4 a5 a6 a7 a8 (tb_eq g)).mpr (h1 (tb_eq g) (r1 (tb_eq g)))) fun g => (e2 a0 a1 a2 a3 a4 a5 a6 a7 a8 (tb_eq g)).mpr (h2 (tb_eq g) (r2 (tb_eq g)))
theorem g11 {A0 A1 A2 A3 A4 A5 A6 A7 A8 A9 A10 P Q : Prop} (a0 : A0) (a1 : A1) (a2 : A2) (a3 : A3) (a4 : A4) (a5 : A5) (a6 : A6) (a7 : A7) (a8 : A8) (a9 : A9) (a10 : A10) (h : Q) (e : A0 → A1 → A2 → A3 → A4 → A5 → A6 → A7 → A8 → A9 → A10 → P = Q := by intro a0 a1 a2 a3 a4 a5 a6 a7 a8 a9 a10; simp (maxSteps := 1000000) only [go_sem, Int.cast_ofNat_Int, Int.reduceLT, Int.reduceLE, Int.reduceGT, Int.reduceGE, Int.reduceEq, Int.reduceBEq, Int.reduceAdd, Int.reduceSub, Int.reduceToNat, Nat.reduceShiftRight, Nat.reduceMod, Nat.reduceLT, Nat.reduceEqDiff, Nat.reduceAdd, Nat.reduceMul, Nat.reduceLeDiff, Nat.reduceBEq, reduceIte, List.getElem_map, a0, a1, a2, a3, a4, a5, a6, a7, a8, a9, a10]; first | done | rfl) : P := (e a0 a1 a2 a3 a4 a5 a6 a7 a8 a9 a10).mpr h
theorem d11 {A0 A1 A2 A3 A4 A5 A6 A7 A8 A9 A10 P Q : Prop} (a0 : A0) (a1 : A1) (a2 : A2) (a3 : A3) (a4 : A4) (a5 : A5) (a6 : A6) (a7 : A7) (a8 : A8) (a9 : A9) (a10 : A10) (h : Q) (e : A0 → A1 → A2 → A3 → A4 → A5 → A6 → A7 → A8 → A9 → A10 → P = Q := by intro a0 a1 a2 a3 a4 a5 a6 a7 a8 a9 a10; simp (disch := first | omega | assumption) only [wrapI, ia3_hdrN, ia3_rowN, ia3_hdrI, ia3_rowI, List.getElem?_eq_getElem, List.length_map, List.length_cons, List.length_nil, List.getElem_map, a0, a1, a2, a3, a4, a5, a6, a7, a8, a9, a10]; first | done | rfl) : P := (e a0 a1 a2 a3 a4 a5 a6 a7 a8 a9 a10).mpr h
theorem j11 {b : Bool} {A0 A1 A2 A3 A4 A5 A6 A7 A8 A9 A10 B C D E R T : Prop} (a0 : A0) (a1 : A1) (a2 : A2) (a3 : A3) (a4 : A4) (a5 : A5) (a6 : A6) (a7 : A7) (a8 : A8) (a9 : A9) (a10 : A10) (h1 : b = true → R → D) (h2 : b = false → T → E) (r1 : b = true → R := by intro hg; (try simp only [Bool.and_eq_true, Bool.or_eq_false_iff, Bool.or_eq_true, Bool.and_eq_false_iff, Bool.not_eq_true', Bool.not_eq_false', decide_eq_true_eq, decide_eq_false_iff_not, beqT, beqF, bneT, bneF] at hg); exact hg) (r2 : b = false → T := by intro hg; (try simp only [Bool.and_eq_true, Bool.or_eq_false_iff, Bool.or_eq_true, Bool.and_eq_false_iff, Bool.not_eq_true', Bool.not_eq_false', decide_eq_true_eq, decide_eq_false_iff_not, beqT, beqF, bneT, bneF] at hg); exact hg) (e1 : A0 → A1 → A2 → A3 → A4 → A5 → A6 → A7 → A8 → A9 → A10 → b = true → B = D := by intro a0 a1 a2 a3 a4 a5 a6 a7 a8 a9 a10; intro hg; (try simp (disch := first | omega | assumption) only [wrapI, ia3_hdrN, ia3_rowN, ia3_hdrI, ia3_rowI, List.getElem?_eq_getElem, List.length_map, List.length_cons, List.length_nil, List.getElem_map, a0, a1, a2, a3, a4, a5, a6, a7, a8, a9, a10]); (try simp only [hg]); (first | simp only [eq_true (beq_iff_eq.1 hg)] | simp only [eq_false (beq_eq_false_iff_ne.1 hg)] | simp only [eq_true (of_decide_eq_true hg)] | simp only [eq_false (of_decide_eq_false hg)] | skip); (first | done | rfl)) (e2 : A0 → A1 → A2 → A3 → A4 → A5 → A6 → A7 → A8 → A9 → A10 → b = false → C = E := by intro a0 a1 a2 a3 a4 a5 a6 a7 a8 a9 a10; intro hg; (try simp (disch := first | omega | assumption) only [wrapI, ia3_hdrN, ia3_rowN, ia3_hdrI, ia3_rowI, List.getElem?_eq_getElem, List.length_map, List.length_cons, List.length_nil, List.getElem_map, a0, a1, a2, a3, a4, a5, a6, a7, a8, a9, a10]); (try simp only [hg]); (first | simp only [eq_true (beq_iff_eq.1 hg)] | simp only [eq_false (beq_eq_false_iff_ne.1 hg)] | simp only [eq_true (of_decide_eq_true hg)] | simp only [eq_false (of_decide_eq_false hg)] | skip); (first | done | rfl)) : TT b B C .mk .mk := tt_i (fun g => (e1 a0 a1 a2 a3 a4 a5 a6 a7 a8 a9 a10 (tb_eq g)).mpr (h1 (tb_eq g) (r1 (tb_eq g)))) fun g => (e2 a0 a1 a2 a3 a4 a5 a6 a7 a8 a9 a10 (tb_eq g)).mpr (h2 (tb_eq g) (r2 (tb_eq g)))
theorem g14 {A0 A1 A2 A3 A4 A5 A6 A7 A8 A9 A10 A11 A12 A13 P Q : Prop} (a0 : A0) (a1 : A1) (a2 : A2) (a3 : A3) (a4 : A4) (a5 : A5) (a6 : A6) (a7 : A7) (a8 : A8) (a9 : A9) (a10 : A10) (a11 : A11) (a12 : A12) (a13 : A13) (h : Q) (e : A0 → A1 → A2 → A3 → A4 → A5 → A6 → A7 → A8 → A9 → A10 → A11 → A12 → A13 → P = Q := by intro a0 a1 a2 a3 a4 a5 a6 a7 a8 a9 a10 a11 a12 a13; simp (maxSteps := 1000000) only [go_sem, Int.cast_ofNat_Int, Int.reduceLT, Int.reduceLE, Int.reduceGT, Int.reduceGE, Int.reduceEq, Int.reduceBEq, Int.reduceAdd, Int.reduceSub, Int.reduceToNat, Nat.reduceShiftRight, Nat.reduceMod, Nat.reduceLT, Nat.reduceEqDiff, Nat.reduceAdd, Nat.reduceMul, Nat.reduceLeDiff, Nat.reduceBEq, reduceIte, List.getElem_map, a0, a1, a2, a3, a4, a5, a6, a7, a8, a9, a10, a11, a12, a13]; first | done | rfl) : P := (e a0 a1 a2 a3 a4 a5 a6 a7 a8 a9 a10 a11 a12 a13).mpr h
theorem d14 {A0 A1 A2 A3 A4 A5 A6 A7 A8 A9 A10 A11 A12 A13 P Q : Prop} (a0 : A0) (a1 : A1) (a2 : A2) (a3 : A3) (a4 : A4) (a5 : A5) (a6 : A6) (a7 : A7) (a8 : A8) (a9 : A9) (a10 : A10) (a11 : A11) (a12 : A12) (a13 : A13) (h : Q) (e : A0 → A1 → A2 → A3 → A4 → A5 → A6 → A7 → A8 → A9 → A10 → A11 → A12 → A13 → P = Q := by intro a0 a1 a2 a3 a4 a5 a6 a7 a8 a9 a10 a11 a12 a13; simp (disch := first | omega | assumption) only [wrapI, ia3_hdrN, ia3_rowN, ia3_hdrI, ia3_rowI, List.getElem?_eq_getElem, List.length_map, List.length_cons, List.length_nil, List.getElem_map, a0, a1, a2, a3, a4, a5, a6, a7, a8, a9, a10, a11, a12, a13]; first | done | rfl) : P := (e a0 a1 a2 a3 a4 a5 a6 a7 a8 a9 a10 a11 a12 a13).mpr h
theorem j14 {b : Bool} {A0 A1 A2 A3 A4 A5 A6 A7 A8 A9 A10 A11 A12 A13 B C D E R T : Prop} (a0 : A0) (a1 : A1) (a2 : A2) (a3 : A3) (a4 : A4) (a5 : A5) (a6 : A6) (a7 : A7) (a8 : A8) (a9 : A9) (a10 : A10) (a11 : A11) (a12 : A12) (a13 : A13) (h1 : b = true → R → D) (h2 : b = false → T → E) (r1 : b = true → R := by intro hg; (try simp only [Bool.and_eq_true, Bool.or_eq_false_iff, Bool.or_eq_true, Bool.and_eq_false_iff, Bool.not_eq_true', Bool.not_eq_false', decide_eq_true_eq, decide_eq_false_iff_not, beqT, beqF, bneT, bneF] at hg); exact hg) (r2 : b = false → T := by intro hg; (try simp only [Bool.and_eq_true, Bool.or_eq_false_iff, Bool.or_eq_true, Bool.and_eq_false_iff, Bool.not_eq_true', Bool.not_eq_false', decide_eq_true_eq, decide_eq_false_iff_not, beqT, beqF, bneT, bneF] at hg); exact hg) (e1 : A0 → A1 → A2 → A3 → A4 → A5 → A6 → A7 → A8 → A9 → A10 → A11 → A12 → A13 → b = true → B = D := by intro a0 a1 a2 a3 a4 a5 a6 a7 a8 a9 a10 a11 a12 a13; intro hg; (try simp (disch := first | omega | assumption) only [wrapI, ia3_hdrN, ia3_rowN, ia3_hdrI, ia3_rowI, List.getElem?_eq_getElem, List.length_map, List.length_cons, List.length_nil, List.getElem_map, a0, a1, a2, a3, a4, a5, a6, a7, a8, a9, a10, a11, a12, a13]); (try simp only [hg]); (first | simp only [eq_true (beq_iff_eq.1 hg)] | simp only [eq_false (beq_eq_false_iff_ne.1 hg)] | simp only [eq_true (of_decide_eq_true hg)] | simp only [eq_false (of_decide_eq_false hg)] | skip); (first | done | rfl)) (e2 : A0 → A1 → A2 → A3 → A4 → A5 → A6 → A7 → A8 → A9 → A10 → A11 → A12 → A13 → b = false → C = E := by intro a0 a1 a2 a3 a4 a5 a6 a7 a8 a9 a10 a11 a12 a13; intro hg; (try simp (disch := first | omega | assumption) only [wrapI, ia3_hdrN, ia3_rowN, ia3_hdrI, ia3_rowI, List.getElem?_eq_getElem, List.length_map, List.length_cons, List.length_nil, List.getElem_map, a0, a1, a2, a3, a4, a5, a6, a7, a8, a9, a10, a11, a12, a13]); (try simp only [hg]); (first | simp only [eq_true (beq_iff_eq.1 hg)] | simp only [eq_false (beq_eq_false_iff_ne.1 hg)] | simp only [eq_true (of_decide_eq_true hg)] | simp only [eq_false (of_decide_eq_false hg)] | skip); (first | done | rfl)) : TT b B C .mk .mk := tt_i (fun g => (e1 a0 a1 a2 a3 a4 a5 a6 a7 a8 a9 a10 a11 a12 a13 (tb_eq g)).mpr (h1 (tb_eq g) (r1 (tb_eq g)))) fun g => (e2 a0 a1 a2 a3 a4 a5 a6 a7 a8 a9 a10 a11 a12 a13 (tb_eq g)).mpr (h2 (tb_eq g) (r2 (tb_eq g)))
theorem g15 {A0 A1 A2 A3 A4 A5 A6 A7 A8 A9 A10 A11 A12 A13 A14 P Q : Prop} (a0 : A0) (a1 : A1) (a2 : A2) (a3 : A3) (a4 : A4) (a5 : A5) (a6 : A6) (a7 : A7) (a8 : A8) (a9 : A9) (a10 : A10) (a11 : A11) (a12 : A12) (a13 : A13) (a14 : A14) (h : Q) (e : A0 → A1 → A2 → A3 → A4 → A5 → A6 → A7 → A8 → A9 → A10 → A11 → A12 → A13 → A14 → P = Q := by intro a0 a1 a2 a3 a4 a5 a6 a7 a8 a9 a10 a11 a12 a13 a14; simp (maxSteps := 1000000) only [go_sem, Int.cast_ofNat_Int, Int.reduceLT, Int.reduceLE, Int.reduceGT, Int.reduceGE, Int.reduceEq, Int.reduceBEq, Int.reduceAdd, Int.reduceSub, Int.reduceToNat, Nat.reduceShiftRight, Nat.reduceMod, Nat.reduceLT, Nat.reduceEqDiff, Nat.reduceAdd, Nat.reduceMul, Nat.reduceLeDiff, Nat.reduceBEq, reduceIte, List.getElem_map, a0, a1, a2, a3, a4, a5, a6, a7, a8, a9, a10, a11, a12, a13, a14]; first | done | rfl) : P := (e a0 a1 a2 a3 a4 a5 a6 a7 a8 a9 a10 a11 a12 a13 a14).mpr h
theorem d15 {A0 A1 A2 A3 A4 A5 A6 A7 A8 A9 A10 A11 A12 A13 A14 P Q : Prop} (a0 : A0) (a1 : A1) (a2 : A2) (a3 : A3) (a4 : A4) (a5 : A5) (a6 : A6) (a7 : A7) (a8 : A8) (a9 : A9) (a10 : A10) (a11 : A11) (a12 : A12) (a13 : A13) (a14 : A14) (h : Q) (e : A0 → A1 → A2 → A3 → A4 → A5 → A6 → A7 → A8 → A9 → A10 → A11 → A12 → A13 → A14 → P = Q := by intro a0 a1 a2 a3 a4 a5 a6 a7 a8 a9 a10 a11 a12 a13 a14; simp (disch := first | omega | assumption) only [wrapI, ia3_hdrN, ia3_rowN, ia3_hdrI, ia3_rowI, List.getElem?_eq_getElem, List.length_map, List.length_cons, List.length_nil, List.getElem_map, a0, a1, a2, a3, a4, a5, a6, a7, a8, a9, a10, a11, a12, a13, a14]; first | done | rfl) : P := (e a0 a1 a2 a3 a4 a5 a6 a7 a8 a9 a10 a11 a12 a13 a14).mpr h
theorem j15 {b : Bool} {A0 A1 A2 A3 A4 A5 A6 A7 A8 A9 A10 A11 A12 A13 A14 B C D E R T : Prop} (a0 : A0) (a1 : A1) (a2 : A2) (a3 : A3) (a4 : A4) (a5 : A5) (a6 : A6) (a7 : A7) (a8 : A8) (a9 : A9) (a10 : A10) (a11 : A11) (a12 : A12) (a13 : A13) (a14 : A14) (h1 : b = true → R → D) (h2 : b = false → T → E) (r1 : b = true → R := by intro hg; (try simp only [Bool.and_eq_true, Bool.or_eq_false_iff, Bool.or_eq_true, Bool.and_eq_false_iff, Bool.not_eq_true', Bool.not_eq_false', decide_eq_true_eq, decide_eq_false_iff_not, beqT, beqF, bneT, bneF] at hg); exact hg) (r2 : b = false → T := by intro hg; (try simp only [Bool.and_eq_true, Bool.or_eq_false_iff, Bool.or_eq_true, Bool.and_eq_false_iff, Bool.not_eq_true', Bool.not_eq_false', decide_eq_true_eq, decide_eq_false_iff_not, beqT, beqF, bneT, bneF] at hg); exact hg) (e1 : A0 → A1 → A2 → A3 → A4 → A5 → A6 → A7 → A8 → A9 → A10 → A11 → A12 → A13 → A14 → b = true → B = D := by intro a0 a1 a2 a3 a4 a5 a6 a7 a8 a9 a10 a11 a12 a13 a14; intro hg; (try simp (disch := first | omega | assumption) only [wrapI, ia3_hdrN, ia3_rowN, ia3_hdrI, ia3_rowI, List.getElem?_eq_getElem, List.length_map, List.length_cons, List.length_nil, List.getElem_map, a0, a1, a2, a3, a4, a5, a6, a7, a8, a9, a10, a11, a12, a13, a14]); (try simp only [hg]); (first | simp only [eq_true (beq_iff_eq.1 hg)] | simp only [eq_false (beq_eq_false_iff_ne.1 hg)] | simp only [eq_true (of_decide_eq_true hg)] | simp only [eq_false (of_decide_eq_false hg)] | skip); (first | done | rfl)) (e2 : A0 → A1 → A2 → A3 → A4 → A5 → A6 → A7 → A8 → A9 → A10 → A11 → A12 → A13 → A14 → b = false → C = E := by intro a0 a1 a2 a3 a4 a5 a6 a7 a8 a9 a10 a11 a12 a13 a14; intro hg; (try simp (disch := first | omega | assumption) only [wrapI, ia3_hdrN, ia3_rowN, ia3_hdrI, ia3_rowI, List.getElem?_eq_getElem, List.length_map, List.length_cons, List.length_nil, List.getElem_map, a0, a1, a2, a3, a4, a5, a6, a7, a8, a9, a10, a11, a12, a13, a14]); (try simp only [hg]); (first | simp only [eq_true (beq_iff_eq.1 hg)] | simp only [eq_false (beq_eq_false_iff_ne.1 hg)] | simp only [eq_true (of_decide_eq_true hg)] | simp only [eq_false (of_decide_eq_false hg)] | skip); (first | done | rfl)) : TT b B C .mk .mk := tt_i (fun g => (e1 a0 a1 a2 a3 a4 a5 a6 a7 a8 a9 a10 a11 a12 a13 a14 (tb_eq g)).mpr (h1 (tb_eq g) (r1 (tb_eq g)))) fun g => (e2 a0 a1 a2 a3 a4 a5 a6 a7 a8 a9 a10 a11 a12 a13 a14 (tb_eq g)).mpr (h2 (tb_eq g) (r2 (tb_eq g)))
theorem g16 {A0 A1 A2 A3 A4 A5 A6 A7 A8 A9 A10 A11 A12 A13 A14 A15 P Q : Prop} (a0 : A0) (a1 : A1) (a2 : A2) (a3 : A3) (a4 : A4) (a5 : A5) (a6 : A6) (a7 : A7) (a8 : A8) (a9 : A9) (a10 : A10) (a11 : A11) (a12 : A12) (a13 : A13) (a14 : A14) (a15 : A15) (h : Q) (e : A0 → A1 → A2 → A3 → A4 → A5 → A6 → A7 → A8 → A9 → A10 → A11 → A12 → A13 → A14 → A15 → P = Q := by intro a0 a1 a2 a3 a4 a5 a6 a7 a8 a9 a10 a11 a12 a13 a14 a15; simp (maxSteps := 1000000) only [go_sem, Int.cast_ofNat_Int, Int.reduceLT, Int.reduceLE, Int.reduceGT, Int.reduceGE, Int.reduceEq, Int.reduceBEq, Int.reduceAdd, Int.reduceSub, Int.reduceToNat, Nat.reduceShiftRight, Nat.reduceMod, Nat.reduceLT, Nat.reduceEqDiff, Nat.reduceAdd, Nat.reduceMul, Nat.reduceLeDiff, Nat.reduceBEq, reduceIte, List.getElem_map, a0, a1, a2, a3, a4, a5, a6, a7, a8, a9, a10, a11, a12, a13, a14, a15]; first | done | rfl) : P := (e a0 a1 a2 a3 a4 a5 a6 a7 a8 a9 a10 a11 a12 a13 a14 a15).mpr h
theorem d16 {A0 A1 A2 A3 A4 A5 A6 A7 A8 A9 A10 A11 A12 A13 A14 A15 P Q : Prop} (a0 : A0) (a1 : A1) (a2 : A2) (a3 : A3) (a4 : A4) (a5 : A5) (a6 : A6) (a7 : A7) (a8 : A8) (a9 : A9) (a10 : A10) (a11 : A11) (a12 : A12) (a13 : A13) (a14 : A14) (a15 : A15) (h : Q) (e : A0 → A1 → A2 → A3 → A4 → A5 → A6 → A7 → A8 → A9 → A10 → A11 → A12 → A13 → A14 → A15 → P = Q := by intro a0 a1 a2 a3 a4 a5 a6 a7 a8 a9 a10 a11 a12 a13 a14 a15; simp (disch := first | omega | assumption) only [wrapI, ia3_hdrN, ia3_rowN, ia3_hdrI, ia3_rowI, List.getElem?_eq_getElem, List.length_map, List.length_cons, List.length_nil, List.getElem_map, a0, a1, a2, a3, a4, a5, a6, a7, a8, a9, a10, a11, a12, a13, a14, a15]; first | done | rfl) : P := (e a0 a1 a2 a3 a4 a5 a6 a7 a8 a9 a10 a11 a12 a13 a14 a15).mpr h
theorem j16 {b : Bool} {A0 A1 A2 A3 A4 A5 A6 A7 A8 A9 A10 A11 A12 A13 A14 A15 B C D E R T : Prop} (a0 : A0) (a1 : A1) (a2 : A2) (a3 : A3) (a4 : A4) (a5 : A5) (a6 : A6) (a7 : A7) (a8 : A8) (a9 : A9) (a10 : A10) (a11 : A11) (a12 : A12) (a13 : A13) (a14 : A14) (a15 : A15) (h1 : b = true → R → D) (h2 : b = false → T → E) (r1 : b = true → R := by intro hg; (try simp only [Bool.and_eq_true, Bool.or_eq_false_iff, Bool.or_eq_true, Bool.and_eq_false_iff, Bool.not_eq_true', Bool.not_eq_false', decide_eq_true_eq, decide_eq_false_iff_not, beqT, beqF, bneT, bneF] at hg); exact hg) (r2 : b = false → T := by intro hg; (try simp only [Bool.and_eq_true, Bool.or_eq_false_iff, Bool.or_eq_true, Bool.and_eq_false_iff, Bool.not_eq_true', Bool.not_eq_false', decide_eq_true_eq, decide_eq_false_iff_not, beqT, beqF, bneT, bneF] at hg); exact hg) (e1 : A0 → A1 → A2 → A3 → A4 → A5 → A6 → A7 → A8 → A9 → A10 → A11 → A12 → A13 → A14 → A15 → b = true → B = D := by intro a0 a1 a2 a3 a4 a5 a6 a7 a8 a9 a10 a11 a12 a13 a14 a15; intro hg; (try simp (disch := first | omega | assumption) only [wrapI, ia3_hdrN, ia3_rowN, ia3_hdrI, ia3_rowI, List.getElem?_eq_getElem, List.length_map, List.length_cons, List.length_nil, List.getElem_map, a0, a1, a2, a3, a4, a5, a6, a7, a8, a9, a10, a11, a12, a13, a14, a15]); (try simp only [hg]); (first | simp only [eq_true (beq_iff_eq.1 hg)] | simp only [eq_false (beq_eq_false_iff_ne.1 hg)] | simp only [eq_true (of_decide_eq_true hg)] | simp only [eq_false (of_decide_eq_false hg)] | skip); (first | done | rfl)) (e2 : A0 → A1 → A2 → A3 → A4 → A5 → A6 → A7 → A8 → A9 → A10 → A11 → A12 → A13 → A14 → A15 → b = false → C = E := by intro a0 a1 a2 a3 a4 a5 a6 a7 a8 a9 a10 a11 a12 a13 a14 a15; intro hg; (try simp (disch := first | omega | assumption) only [wrapI, ia3_hdrN, ia3_rowN, ia3_hdrI, ia3_rowI, List.getElem?_eq_getElem, List.length_map, List.length_cons, List.length_nil, List.getElem_map, a0, a1, a2, a3, a4, a5, a6, a7, a8, a9, a10, a11, a12, a13, a14, a15]); (try simp only [hg]); (first | simp only [eq_true (beq_iff_eq.1 hg)] | simp only [eq_false (beq_eq_false_iff_ne.1 hg)] | simp only [eq_true (of_decide_eq_true hg)] | simp only [eq_false (of_decide_eq_false hg)] | skip); (first | done | rfl)) : TT b B C .mk .mk := tt_i (fun g => (e1 a0 a1 a2 a3 a4 a5 a6 a7 a8 a9 a10 a11 a12 a13 a14 a15 (tb_eq g)).mpr (h1 (tb_eq g) (r1 (tb_eq g)))) fun g => (e2 a0 a1 a2 a3 a4 a5 a6 a7 a8 a9 a10 a11 a12 a13 a14 a15 (tb_eq g)).mpr (h2 (tb_eq g) (r2 (tb_eq g)))
theorem g17 {A0 A1 A2 A3 A4 A5 A6 A7 A8 A9 A10 A11 A12 A13 A14 A15 A16 P Q : Prop} (a0 : A0) (a1 : A1) (a2 : A2) (a3 : A3) (a4 : A4) (a5 : A5) (a6 : A6) (a7 : A7) (a8 : A8) (a9 : A9) (a10 : A10) (a11 : A11) (a12 : A12) (a13 : A13) (a14 : A14) (a15 : A15) (a16 : A16) (h : Q) (e : A0 → A1 → A2 → A3 → A4 → A5 → A6 → A7 → A8 → A9 → A10 → A11 → A12 → A13 → A14 → A15 → A16 → P = Q := by intro a0 a1 a2 a3 a4 a5 a6 a7 a8 a9 a10 a11 a12 a13 a14 a15 a16; simp (maxSteps := 1000000) only [go_sem, Int.cast_ofNat_Int, Int.reduceLT, Int.reduceLE, Int.reduceGT, Int.reduceGE, Int.reduceEq, Int.reduceBEq, Int.reduceAdd, Int.reduceSub, Int.reduceToNat, Nat.reduceShiftRight, Nat.reduceMod, Nat.reduceLT, Nat.reduceEqDiff, Nat.reduceAdd, Nat.reduceMul, Nat.reduceLeDiff, Nat.reduceBEq, reduceIte, List.getElem_map, a0, a1, a2, a3, a4, a5, a6, a7, a8, a9, a10, a11, a12, a13, a14, a15, a16]; first | done | rfl) : P := (e a0 a1 a2 a3 a4 a5 a6 a7 a8 a9 a10 a11 a12 a13 a14 a15 a16).mpr h
theorem d17 {A0 A1 A2 A3 A4 A5 A6 A7 A8 A9 A10 A11 A12 A13 A14 A15 A16 P Q : Prop} (a0 : A0) (a1 : A1) (a2 : A2) (a3 : A3) (a4 : A4) (a5 : A5) (a6 : A6) (a7 : A7) (a8 : A8) (a9 : A9) (a10 : A10) (a11 : A11) (a12 : A12) (a13 : A13) (a14 : A14) (a15 : A15) (a16 : A16) (h : Q) (e : A0 → A1 → A2 → A3 → A4 → A5 → A6 → A7 → A8 → A9 → A10 → A11 → A12 → A13 → A14 → A15 → A16 → P = Q := by intro a0 a1 a2 a3 a4 a5 a6 a7 a8 a9 a10 a11 a12 a13 a14 a15 a16; simp (disch := first | omega | assumption) only [wrapI, ia3_hdrN, ia3_rowN, ia3_hdrI, ia3_rowI, List.getElem?_eq_getElem, List.length_map, List.length_cons, List.length_nil, List.getElem_map, a0, a1, a2, a3, a4, a5, a6, a7, a8, a9, a10, a11, a12, a13, a14, a15, a16]; first | done | rfl) : P := (e a0 a1 a2 a3 a4 a5 a6 a7 a8 a9 a10 a11 a12 a13 a14 a15 a16).mpr h
theorem j17 {b : Bool} {A0 A1 A2 A3 A4 A5 A6 A7 A8 A9 A10 A11 A12 A13 A14 A15 A16 B C D E R T : Prop} (a0 : A0) (a1 : A1) (a2 : A2) (a3 : A3) (a4 : A4) (a5 : A5) (a6 : A6) (a7 : A7) (a8 : A8) (a9 : A9) (a10 : A10) (a11 : A11) (a12 : A12) (a13 : A13) (a14 : A14) (a15 : A15) (a16 : A16) (h1 : b = true → R → D) (h2 : b = false → T → E) (r1 : b = true → R := by intro hg; (try simp only [Bool.and_eq_true, Bool.or_eq_false_iff, Bool.or_eq_true, Bool.and_eq_false_iff, Bool.not_eq_true', Bool.not_eq_false', decide_eq_true_eq, decide_eq_false_iff_not, beqT, beqF, bneT, bneF] at hg); exact hg) (r2 : b = false → T := by intro hg; (try simp only [Bool.and_eq_true, Bool.or_eq_false_iff, Bool.or_eq_true, Bool.and_eq_false_iff, Bool.not_eq_true', Bool.not_eq_false', decide_eq_true_eq, decide_eq_false_iff_not, beqT, beqF, bneT, bneF] at hg); exact hg) (e1 : A0 → A1 → A2 → A3 → A4 → A5 → A6 → A7 → A8 → A9 → A10 → A11 → A12 → A13 → A14 → A15 → A16 → b = true → B = D := by intro a0 a1 a2 a3 a4 a5 a6 a7 a8 a9 a10 a11 a12 a13 a14 a15 a16; intro hg; (try simp (disch := first | omega | assumption) only [wrapI, ia3_hdrN, ia3_rowN, ia3_hdrI, ia3_rowI, List.getElem?_eq_getElem, List.length_map, List.length_cons, List.length_nil, List.getElem_map, a0, a1, a2, a3, a4, a5, a6, a7, a8, a9, a10, a11, a12, a13, a14, a15, a16]); (try simp only [hg]); (first | simp only [eq_true (beq_iff_eq.1 hg)] | simp only [eq_false (beq_eq_false_iff_ne.1 hg)] | simp only [eq_true (of_decide_eq_true hg)] | simp only [eq_false (of_decide_eq_false hg)] | skip); (first | done | rfl)) (e2 : A0 → A1 → A2 → A3 → A4 → A5 → A6 → A7 → A8 → A9 → A10 → A11 → A12 → A13 → A14 → A15 → A16 → b = false → C = E := by intro a0 a1 a2 a3 a4 a5 a6 a7 a8 a9 a10 a11 a12 a13 a14 a15 a16; intro hg; (try simp (disch := first | omega | assumption) only [wrapI, ia3_hdrN, ia3_rowN, ia3_hdrI, ia3_rowI, List.getElem?_eq_getElem, List.length_map, List.length_cons, List.length_nil, List.getElem_map, a0, a1, a2, a3, a4, a5, a6, a7, a8, a9, a10, a11, a12, a13, a14, a15, a16]); (try simp only [hg]); (first | simp only [eq_true (beq_iff_eq.1 hg)] | simp only [eq_false (beq_eq_false_iff_ne.1 hg)] | simp only [eq_true (of_decide_eq_true hg)] | simp only [eq_false (of_decide_eq_false hg)] | skip); (first | done | rfl)) : TT b B C .mk .mk := tt_i (fun g => (e1 a0 a1 a2 a3 a4 a5 a6 a7 a8 a9 a10 a11 a12 a13 a14 a15 a16 (tb_eq g)).mpr (h1 (tb_eq g) (r1 (tb_eq g)))) fun g => (e2 a0 a1 a2 a3 a4 a5 a6 a7 a8 a9 a10 a11 a12 a13 a14 a15 a16 (tb_eq g)).mpr (h2 (tb_eq g) (r2 (tb_eq g)))
theorem cw {f : FuncId} {ds : List DV} {d : DV} {outs : List DV} {kq : Nat} {q : PC} {rs : List ResultVar} (kp : Nat) (fn : Func) (fz : Bool) (h : PW Γ E MU CC kq q (ini 0 ds) (EK Γ fz rs (eqP d outs) (cst outs))) (hF : F f = some fn := by rfl) (hb : fn.body = some (fn.body.getD .skip) := by rfl) (hp : prep (fn.body.getD .skip) = some ((prep (fn.body.getD .skip)).getD .skip) := by rfl) (hn : ds.length ≤ fn.ntmps := by exact Nat.le_of_ble_eq_true rfl) (hl : ds.length ≤ 900000 := by exact Nat.le_of_ble_eq_true rfl) (e1 : kp = kq := by conv => lhs; cbv) (e2 : (prep (fn.body.getD .skip)).getD .skip = q := by conv => lhs; cbv) (e3 : fn.results.toList = rs := by conv => lhs; cbv) : C2 CC f ds d outs := by
  subst e1; subst e2
  exact c2_fn _ fz hF hb hp hn hl e3 h
section
variable {MU : FuncId → Nat → Nat} {C : Rel} {kp : Nat} {Q : Ex → St → Prop} {st : St}
theorem pdx (t : Nat) {op : Op} {ty : TypeId} {pos : String} {af : Array Edge} {gd : Option (Tmp × Bool)} {rest : List Oper} (am kd : List Nat) {L : List POp} (h : OX Γ E MU C L st st (keK kp Q)) (h1 : drOk Γ ⟨⟨some t, op, ty, pos, af, gd⟩ :: rest⟩ am kd true = true := by kernel_rfl) (e : prepT kd ((prepO ⟨⟨some t, op, ty, pos, af, gd⟩ :: rest⟩ (⟨some t, op, ty, pos, af, gd⟩ :: rest)).getD []) = L := by conv => lhs; cbv) : PW Γ E MU C kp (.draw ⟨⟨some t, op, ty, pos, af, gd⟩ :: rest⟩) st Q := pw_drawX am kd h1 (e ▸ h)
theorem pd3 (t : Nat) {op : Op} {ty : TypeId} {pos : String} {af : Array Edge} {gd : Option (Tmp × Bool)} {rest : List Oper} (am kd : List Nat) (x : Bool) {L : List POp} (h : OW Γ E MU C x L st (keK kp Q)) (h1 : drOk Γ ⟨⟨some t, op, ty, pos, af, gd⟩ :: rest⟩ am kd x = true := by kernel_rfl) (e : prepT kd ((prepO ⟨⟨some t, op, ty, pos, af, gd⟩ :: rest⟩ (⟨some t, op, ty, pos, af, gd⟩ :: rest)).getD []) = L := by conv => lhs; cbv) : PW Γ E MU C kp (.draw ⟨⟨some t, op, ty, pos, af, gd⟩ :: rest⟩) st Q := pw_draw2 am kd x h1 (e ▸ h)
end
theorem dn {P : Prop} (h : P := by repeat' first | refine g0 ?_ | refine d0 ?_ | refine j0 (fun hg hgo => ?_) fun hg hgo => ?_ | refine ek_ret ?_ | refine ek_norm ?_ | refine ⟨by omega, ?_⟩ | rfl | trivial | intro _) : P := h
theorem v_in (n lo hi : Int) : C2 CC F_impl_in [iv n, iv lo, iv hi] (bv (decide (n ≥ lo) && decide (n ≤ hi))) [] := by
  refine cw (keepF Try.f62) Try.f62 false ?_
  repeat' first | refine g0 ?_ | refine d0 ?_ | refine j0 (fun hg hgo => ?_) fun hg hgo => ?_ | refine ek_ret ?_ | refine ek_norm ?_ | refine ⟨by omega, ?_⟩ | rfl | trivial | intro _
  all_goals simp_all
theorem v_l1In (n lo hi : Int) : C2 CC F_spec_l1In [iv n, iv lo, iv hi] (bv (decide (n ≥ lo) && decide (n ≤ hi))) [] := by
  refine cw (keepF Try.f61) Try.f61 false ?_
  repeat' first | refine g0 ?_ | refine d0 ?_ | refine j0 (fun hg hgo => ?_) fun hg hgo => ?_ | refine ek_ret ?_ | refine ek_norm ?_ | refine ⟨by omega, ?_⟩ | rfl | trivial | intro _
  all_goals simp_all
def rb (l : List Int) : FV := .row 1 (l.map (.int .u8))
structure StepD where
  op : Int
  r : Int
  a : Int
  b : Int
  n : Int
  deriving DecidableEq
def StepD.wf (x : StepD) : Prop := I64 x.op ∧ I64 x.r ∧ I64 x.a ∧ I64 x.b ∧ I64 x.n
theorem and_low (a b : Int) (hb : 0 ≤ b ∧ b ≤ 1099511627776) : 0 ≤ bits .and .i64 a b ∧ bits .and .i64 a b ≤ b := by
  have h : bits .and .i64 a b = IntKind.i64.wrap ((BitVec.ofInt 64 a &&& BitVec.ofInt 64 b).toNat : Int) := rfl
  have h1 : (BitVec.ofInt 64 b).toNat = b.toNat := by
    obtain ⟨n, rfl⟩ : ∃ n : Nat, b = n := ⟨b.toNat, by omega⟩
    rw [BitVec.ofInt_natCast, BitVec.toNat_ofNat, Nat.mod_eq_of_lt (by omega)]; rfl
  have h2 : (BitVec.ofInt 64 a).toNat &&& (BitVec.ofInt 64 b).toNat ≤ b.toNat := by rw [h1]; exact Nat.and_le_right
  rw [h, BitVec.toNat_and, wrapI (by omega) (by omega)]
  omega
@[go_sem] theorem bin_shr {Γ : TypeId → Option TI} {E : TypeId → Nat} {t : TypeId} {k k' : IntKind} {a b : Int} (h : ¬ b < 0) : binV Γ E .shr t (.int k a) (.int k' b) = some (.int k (a.fdiv (2 ^ min b.toNat k.bits))) := by
  simp only [binV, if_neg h]
attribute [go_sem] bin_rem bin_and bin_or bin_xor
structure CurD where
  b : List Int
  i : Int
  h : Int
structure CurD.ok (c : CurD) : Prop where
  bytes : ∀ x ∈ c.b, 0 ≤ x ∧ x < 256
  pos : 0 ≤ c.i ∧ c.i ≤ c.b.length
  len : c.b.length ≤ 1048576
abbrev curO (c : CurD) : DV := .box (.fv (.agg [.row 1 (c.b.map (.int .u8)), .int .i64 c.i, .int .i64 c.h]))
def hN (l : List Int) : Nat → Int
  | 0 => 17111 + l.length
  | j + 1 => bits .and .i64 (hN l j * 131 + (l[j]?).getD 0 + 7) 1073741823
theorem hN_in (l : List Int) (hl : l.length ≤ 1048576) : ∀ j, 0 ≤ hN l j ∧ hN l j ≤ 1073741823
  | 0 => by unfold hN; omega
  | j + 1 => by unfold hN; exact and_low _ _ (by decide)
theorem v_l1New (l : List Int) (hl : l.length ≤ 1048576) (hb : ∀ x ∈ l, 0 ≤ x ∧ x < 256) : C2 CC F_spec_l1New [.fv (rb l)] (curO ⟨l, 0, hN l (min l.length 4000)⟩) [] := by
  unfold rb
  refine cw (keepF Try.f57) Try.f57 false ?_
  repeat' first | refine g0 ?_ | refine d0 ?_ | refine j0 (fun hg hgo => ?_) fun hg hgo => ?_ | refine ek_ret ?_ | refine ek_norm ?_ | refine ⟨by omega, ?_⟩ | rfl | trivial | intro _
  refine pw_loop (fun m st => ∃ j : Nat, j + m = min l.length 4000 ∧ st = [(0, .fv (rb l)), (3, iv (hN l j)), (4, iv j)]) (min l.length 4000) [(0, .fv (rb l)), (3, iv (hN l 0)), (4, iv (0 : Nat))] (sub_of ?_) ⟨0, by omega, rfl⟩ ?_
  · unfold rb hN
    exact dn
  · rintro m st ⟨j, hj, rfl⟩
    unfold rb
    have hr := hN_in l hl j
    by_cases hlt : j < l.length
    · have hd : decide ((j : Int) < (l.length : Int)) = true := by rw [decide_eq_true_eq]; omega
      have hml : j < (l.map (FV.int .u8)).length := by rw [List.length_map]; exact hlt
      by_cases h4 : j < 4000
      · have hd4 : decide ((j : Int) < 4000) = true := by rw [decide_eq_true_eq]; omega
        have hx := hb l[j] (List.getElem_mem hlt)
        have hs : hN l (j + 1) = bits .and .i64 (hN l j * 131 + l[j] + 7) 1073741823 := by
          rw [hN, List.getElem?_eq_getElem hlt]; rfl
        generalize hN l j = q at hr hs
        repeat' first | refine g2 @hd @hd4 ?_ | refine d2 @hd @hd4 ?_ | refine j2 @hd @hd4 (fun hg hgo => ?_) fun hg hgo => ?_ | refine ek_ret ?_ | refine ek_norm ?_ | refine ⟨by omega, ?_⟩ | rfl | trivial | intro _
        refine rd_norm [(0, .fv (.row 1 (l.map (.int .u8)))), (3, iv (hN l (j + 1))), (4, iv (j + 1 : Nat))] (sub_of ?_) (m - 1) (by omega) ⟨j + 1, by omega, rfl⟩
        rw [hs]
        exact dn
      · have hd4 : decide ((j : Int) < 4000) = false := by rw [decide_eq_false_iff_not]; omega
        have hjm : min l.length 4000 = j := by omega
        rw [hjm]
        repeat' first | refine g2 @hd @hd4 ?_ | refine d2 @hd @hd4 ?_ | refine j2 @hd @hd4 (fun hg hgo => ?_) fun hg hgo => ?_ | refine ek_ret ?_ | refine ek_norm ?_ | refine ⟨by omega, ?_⟩ | rfl | trivial | intro _
    · have hd : decide ((j : Int) < (l.length : Int)) = false := by rw [decide_eq_false_iff_not]; omega
      have hjm : min l.length 4000 = j := by omega
      rw [hjm]
      repeat' first | refine g1 @hd ?_ | refine d1 @hd ?_ | refine j1 @hd (fun hg hgo => ?_) fun hg hgo => ?_ | refine ek_ret ?_ | refine ek_norm ?_ | refine ⟨by omega, ?_⟩ | rfl | trivial | intro _
def nxH (h : Int) : Int := IntKind.i64.wrap (IntKind.i64.wrap (h * 6364136223846793005) + 1442695040888963407)
def mixI (h : Int) : Int := bits .and .i64 (bits .xor .i64 ((nxH h).fdiv (2 ^ min 33 64)) ((nxH h).fdiv (2 ^ min 45 64))) 255
theorem x_l1Byte (c : CurD) (hc : c.ok) : ∃ x c', C2 CC F_spec_l1Byte [curO c] (iv x) [curO c'] ∧ (0 ≤ x ∧ x ≤ 255) ∧ c'.ok := by
  obtain ⟨b, i, h⟩ := c
  obtain ⟨hb, hi, hl⟩ := hc
  simp only at hb hi hl
  by_cases hlt : i < b.length
  · have hd : decide (i < (b.length : Int)) = true := by rw [decide_eq_true_eq]; exact hlt
    obtain ⟨j, rfl⟩ := Int.eq_ofNat_of_zero_le hi.1
    have hml : j < (b.map (FV.int .u8)).length := by rw [List.length_map]; omega
    have hjl : j < b.length := by omega
    have hx := hb b[j] (List.getElem_mem hjl)
    refine ⟨bits .and .i64 (IntKind.i64.wrap (mixI h + b[j])) 255, ⟨b, (j : Int) + 1, nxH h⟩, ?_, and_low _ _ (by decide), hb, by simp only; omega, hl⟩
    unfold mixI nxH
    refine cw (keepF Try.f64) Try.f64 false ?_
    repeat' first | refine pd3 13 [0, 1, 3, 7, 15, 0, 32, 96, 224, 480, 1023, 2047, 4095] [0, 0, 0, 1, 0, 0, 0, 0, 1, 0, 0, 0, 0] false ?_ | refine pd3 25 [0, 1, 3, 7, 0, 16, 48, 112, 240, 511] [0, 0, 0, 1, 0, 0, 0, 1, 0, 0] false ?_ | refine pd3 35 [0, 0, 2, 6, 14, 0, 32, 96, 224, 510, 1022, 2046, 4095, 8191, 16383] [0, 0, 0, 0, 1, 0, 0, 0, 1, 0, 1, 0, 0, 0, 0] false ?_ | refine g1 @hd ?_ | refine d1 @hd ?_ | refine j1 @hd (fun hg hgo => ?_) fun hg hgo => ?_ | refine ek_ret ?_ | refine ek_norm ?_ | refine ⟨by omega, ?_⟩ | rfl | trivial | intro _
  · have hd : decide (i < (b.length : Int)) = false := by rw [decide_eq_false_iff_not]; exact hlt
    refine ⟨mixI h, ⟨b, i, nxH h⟩, ?_, and_low _ _ (by decide), hb, hi, hl⟩
    unfold mixI nxH
    refine cw (keepF Try.f64) Try.f64 false ?_
    repeat' first | refine pd3 13 [0, 1, 3, 7, 15, 0, 32, 96, 224, 480, 1023, 2047, 4095] [0, 0, 0, 1, 0, 0, 0, 0, 1, 0, 0, 0, 0] false ?_ | refine pd3 25 [0, 1, 3, 7, 0, 16, 48, 112, 240, 511] [0, 0, 0, 1, 0, 0, 0, 1, 0, 0] false ?_ | refine pd3 35 [0, 0, 2, 6, 14, 0, 32, 96, 224, 510, 1022, 2046, 4095, 8191, 16383] [0, 0, 0, 0, 1, 0, 0, 0, 1, 0, 1, 0, 0, 0, 0] false ?_ | refine g1 @hd ?_ | refine d1 @hd ?_ | refine j1 @hd (fun hg hgo => ?_) fun hg hgo => ?_ | refine ek_ret ?_ | refine ek_norm ?_ | refine ⟨by omega, ?_⟩ | rfl | trivial | intro _
theorem tmod_in {x n : Int} (hx : 0 ≤ x) (hn : 0 < n) : 0 ≤ x.tmod n ∧ x.tmod n < n := ⟨Int.tmod_nonneg _ hx, Int.tmod_lt_of_pos _ hn⟩
theorem x_l1Below (c : CurD) (n : Int) (hc : c.ok) (hn : n ≤ 1099511627776) : ∃ x c', C2 CC F_spec_l1Below [curO c, iv n] (iv x) [curO c'] ∧ (0 ≤ x ∧ (x < n ∨ (n ≤ 0 ∧ x = 0))) ∧ c'.ok := by
  by_cases h0 : n ≤ 0
  · have hd : decide (n ≤ 0) = true := by rw [decide_eq_true_eq]; exact h0
    refine ⟨0, c, ?_, by omega, hc⟩
    refine cw (keepF Try.f63) Try.f63 false ?_
    repeat' first | refine g1 @hd ?_ | refine d1 @hd ?_ | refine j1 @hd (fun hg hgo => ?_) fun hg hgo => ?_ | refine ek_ret ?_ | refine ek_norm ?_ | refine ⟨by omega, ?_⟩ | rfl | trivial | intro _
  · have hd : decide (n ≤ 0) = false := by rw [decide_eq_false_iff_not]; exact h0
    have hnz : ¬ n = 0 := by omega
    obtain ⟨x1, c1, k1, r1, o1⟩ := x_l1Byte c hc
    by_cases h1 : n ≤ 256
    · have hd1 : decide (n ≤ 256) = true := by rw [decide_eq_true_eq]; exact h1
      have hr := tmod_in (x := x1) (n := n) r1.1 (by omega)
      refine ⟨x1.tmod n, c1, ?_, ⟨hr.1, .inl hr.2⟩, o1⟩
      refine cw (keepF Try.f63) Try.f63 false ?_
      repeat' first | refine ck_intro (by first | exact k1) ?_ ?_ | refine g3 @hd @hd1 @hnz ?_ | refine d3 @hd @hd1 @hnz ?_ | refine j3 @hd @hd1 @hnz (fun hg hgo => ?_) fun hg hgo => ?_ | refine ek_ret ?_ | refine ek_norm ?_ | refine ⟨by omega, ?_⟩ | rfl | trivial | intro _
    · have hd1 : decide (n ≤ 256) = false := by rw [decide_eq_false_iff_not]; exact h1
      obtain ⟨x2, c2, k2, r2, o2⟩ := x_l1Byte c1 o1
      obtain ⟨x3, c3, k3, r3, o3⟩ := x_l1Byte c2 o2
      obtain ⟨x4, c4, k4, r4, o4⟩ := x_l1Byte c3 o3
      have hr := tmod_in (x := x1 * 16777216 + x2 * 65536 + x3 * 256 + x4) (n := n) (by omega) (by omega)
      refine ⟨(x1 * 16777216 + x2 * 65536 + x3 * 256 + x4).tmod n, c4, ?_, ⟨hr.1, .inl hr.2⟩, o4⟩
      refine cw (keepF Try.f63) Try.f63 false ?_
      repeat' first | refine ck_intro (by first | exact k1 | exact k2 | exact k3 | exact k4) ?_ ?_ | refine g3 @hd @hd1 @hnz ?_ | refine d3 @hd @hd1 @hnz ?_ | refine j3 @hd @hd1 @hnz (fun hg hgo => ?_) fun hg hgo => ?_ | refine ek_ret ?_ | refine ek_norm ?_ | refine ⟨by omega, ?_⟩ | rfl | trivial | intro _
theorem x_l1Once (c : CurD) (n : Int) (hc : c.ok) (hn : n ≤ 1099511627776) : ∃ x c', C2 CC F_spec_l1Once [curO c, iv n] (bv x) [curO c'] ∧ c'.ok := by
  obtain ⟨x1, c1, k1, r1, o1⟩ := x_l1Below c n hc hn
  refine ⟨x1 == 0, c1, ?_, o1⟩
  refine cw (keepF Try.f58) Try.f58 false ?_
  repeat' first | refine ck_intro (by first | exact k1) ?_ ?_ | refine g0 ?_ | refine d0 ?_ | refine j0 (fun hg hgo => ?_) fun hg hgo => ?_ | refine ek_ret ?_ | refine ek_norm ?_ | refine ⟨by omega, ?_⟩ | rfl | trivial | intro _
theorem x_l1PickInt (c : CurD) (l : List Int) (hc : c.ok) (hl : l ≠ []) (hn : l.length ≤ 1048576) : ∃ x c', C2 CC F_spec_l1PickInt [curO c, .fv (.row 1 (l.map (.int .i64)))] (iv x) [curO c'] ∧ x ∈ l ∧ c'.ok := by
  obtain ⟨x1, c1, k1, r1, o1⟩ := x_l1Below c l.length hc (by omega)
  have hpos : 0 < l.length := List.length_pos_iff.2 hl
  obtain ⟨j, rfl⟩ := Int.eq_ofNat_of_zero_le r1.1
  have hj : j < l.length := by omega
  have hml : j < (l.map (FV.int .i64)).length := by rw [List.length_map]; exact hj
  refine ⟨l[j], c1, ?_, List.getElem_mem hj, o1⟩
  refine cw (keepF Try.f59) Try.f59 false ?_
  repeat' first | refine ck_intro (by first | exact k1) ?_ ?_ | refine g0 ?_ | refine d0 ?_ | refine j0 (fun hg hgo => ?_) fun hg hgo => ?_ | refine ek_ret ?_ | refine ek_norm ?_ | refine ⟨by omega, ?_⟩ | rfl | trivial | intro _
theorem x_l1DrawNum (c : CurD) (hc : c.ok) : ∃ x c', C2 CC F_spec_l1DrawNum [curO c] (iv x) [curO c'] ∧ I64 x ∧ c'.ok := by
  obtain ⟨b, c1, k1, o1⟩ := x_l1Once c 8 hc (by decide)
  cases b with
  | true =>
    obtain ⟨x, c2, k2, hx, o2⟩ := x_l1PickInt c1 [9223372036854775807, -9223372036854775808, 4294967296, -1, 63, 64, 1000000007] o1 (by simp) (by simp)
    refine ⟨x, c2, ?_, by simp only [List.mem_cons, List.not_mem_nil, or_false] at hx; unfold I64; omega, o2⟩
    refine cw (keepF Try.f60) Try.f60 false ?_
    repeat' first | refine ck_intro (by first | exact k1 | exact k2) ?_ ?_ | refine g0 ?_ | refine d0 ?_ | refine j0 (fun hg hgo => ?_) fun hg hgo => ?_ | refine ek_ret ?_ | refine ek_norm ?_ | refine ⟨by omega, ?_⟩ | rfl | trivial | intro _
  | false =>
    obtain ⟨x, c2, k2, hx, o2⟩ := x_l1Below c1 20 o1 (by decide)
    refine ⟨x - 6, c2, ?_, by unfold I64; omega, o2⟩
    refine cw (keepF Try.f60) Try.f60 false ?_
    repeat' first | refine ck_intro (by first | exact k1 | exact k2) ?_ ?_ | refine g0 ?_ | refine d0 ?_ | refine j0 (fun hg hgo => ?_) fun hg hgo => ?_ | refine ek_ret ?_ | refine ek_norm ?_ | refine ⟨by omega, ?_⟩ | rfl | trivial | intro _
theorem wrapB {n : Int} (h0 : 0 ≤ n) (h1 : n ≤ 255) : IntKind.wrap .u8 n = n := IntWalk.u8_in n ⟨h0, h1⟩
theorem wrapU {n : Int} (h0 : 0 ≤ n) (h1 : n ≤ 18446744073709551615) : IntKind.wrap .u64 n = n := IntWalk.u64_in n ⟨h0, h1⟩
theorem ofInt_nat {n : Nat} (h : n < 18446744073709551616) : (BitVec.ofInt 64 (n : Int)).toNat = n := by
  rw [BitVec.ofInt_natCast, BitVec.toNat_ofNat, Nat.mod_eq_of_lt (by omega)]
theorem u_and {n : Nat} (h : n < 18446744073709551616) : bits .and .u64 (n : Int) 127 = ((n % 128 : Nat) : Int) := by
  have e : bits .and .u64 (n : Int) 127 = IntKind.u64.wrap ((BitVec.ofInt 64 (n : Int) &&& BitVec.ofInt 64 ((127 : Nat) : Int)).toNat : Int) := rfl
  rw [e, BitVec.toNat_and, ofInt_nat h, ofInt_nat (by decide), show (127 : Nat) = 2 ^ 7 - 1 from rfl, Nat.and_two_pow_sub_one_eq_mod, wrapU (by omega) (by omega)]
theorem or_add {a i b : Nat} (h : b < 2 ^ i) : b ||| 2 ^ i * a = b + 2 ^ i * a := by
  rw [Nat.or_comm, ← Nat.two_pow_add_eq_or_of_lt h, Nat.add_comm]
theorem u_or {n : Nat} (h : n < 128) : bits .or .u64 (n : Int) 128 = ((n + 128 : Nat) : Int) := by
  have e : bits .or .u64 (n : Int) 128 = IntKind.u64.wrap ((BitVec.ofInt 64 (n : Int) ||| BitVec.ofInt 64 ((128 : Nat) : Int)).toNat : Int) := rfl
  have h2 := or_add (a := 1) (i := 7) (b := n) (by omega)
  rw [Nat.mul_one, show (2 : Nat) ^ 7 = 128 from rfl] at h2
  rw [e, BitVec.toNat_or, ofInt_nat (by omega), ofInt_nat (by decide), h2, wrapU (by omega) (by omega)]
theorem u_shr {n : Nat} : ((n : Int)).fdiv (2 ^ min 7 64) = ((n / 128 : Nat) : Int) := by
  rw [show ((2 : Int) ^ min 7 64) = 128 from rfl, Int.fdiv_eq_ediv_of_nonneg _ (by decide)]
  rfl
def packL (n : Nat) : List Int := if 127 < n then ((n % 128 + 128 : Nat) : Int) :: packL (n / 128) else [(n : Int)]
decreasing_by omega
def bys (l : List Int) : List DV := l.map fun b => .fv (.int .u8 b)
@[go_sem] theorem nrs_bys {l : List Int} : noRefs (bys l) = true := nrs_map
@[go_sem] theorem fvs_bys {l : List Int} : fvs (bys l) = true := fvs_map
@[go_sem] theorem fzL_bys {l : List Int} : fzL (bys l) = some (l.map (.int .u8)) := fzL_map
@[go_sem] theorem clDs_bys {l : List Int} : clDs (bys l) = true := clDs_map fun x => rfl
@[go_sem] theorem bys_len {l : List Int} : (bys l).length = l.length := by unfold bys; simp
@[go_sem] theorem map_bys {l : List Int} : (l.map (FV.int .u8)).map DV.fv = bys l := by unfold bys; rw [List.map_map]; rfl
theorem bys_snoc {l : List Int} {x : Int} : bys l ++ [.fv (.int .u8 x)] = bys (l ++ [x]) := by unfold bys; simp
theorem packL_len : ∀ (k n : Nat), n < 128 ^ (k + 1) → (packL n).length ≤ k + 1
  | 0, n, h => by unfold packL; rw [if_neg (by omega)]; simp
  | k + 1, n, h => by
    unfold packL
    split
    · rw [List.length_cons]
      have := packL_len k (n / 128) (by rw [Nat.div_lt_iff_lt_mul (by decide), ← Nat.pow_succ]; exact h)
      omega
    · simp
def numN (x : Int) : Nat := if x < 0 then (-2 * x - 1).toNat else (2 * x).toNat
def numOk (x : Int) : Bool := decide (x ≥ -4611686018427387904) && decide (x ≤ 4611686018427387903)
def packI (x : Int) : List Int := packL (numN x)
theorem numN_lt {x : Int} (h : numOk x = true) : numN x < 9223372036854775808 := by
  unfold numOk at h
  rw [Bool.and_eq_true, decide_eq_true_eq, decide_eq_true_eq] at h
  unfold numN; split <;> omega
theorem v_PackNum_spec_no (x : Int) (h : numOk x = false) : C2 CC F_spec_PackNum [iv x] (.own 1 []) [] := by
  unfold numOk at h
  refine cw (keepF Try.f15) Try.f15 false ?_
  repeat' first | refine ck_intro (by first | exact v_l1In _ _ _) ?_ ?_ | refine g1 @h ?_ | refine d1 @h ?_ | refine j1 @h (fun hg hgo => ?_) fun hg hgo => ?_ | refine ek_ret ?_ | refine ek_norm ?_ | refine ⟨by omega, ?_⟩ | rfl | trivial | intro _
theorem loop_pack {n : Nat} (h : 127 < n) : packL n = ((n % 128 + 128 : Nat) : Int) :: packL (n / 128) := by rw [packL, if_pos h]
theorem loop_pack_no {n : Nat} (h : ¬ 127 < n) : packL n = [(n : Int)] := by rw [packL, if_neg h]
theorem v_PackNum_spec (x : Int) (h : numOk x = true) : C2 CC F_spec_PackNum [iv x] (.own 1 (bys (packI x))) [] := by
  have hl := numN_lt h
  have hpl := packL_len 9 (numN x) (by omega)
  unfold packI
  have key : ∀ n : Nat, numN x = n → (x < 0 → IntKind.wrap .i64 (IntKind.wrap .i64 (-2 * x) - 1) = (n : Int)) ∧ (¬ x < 0 → IntKind.wrap .i64 (2 * x) = (n : Int)) := by
    rintro n rfl
    unfold numOk at h
    rw [Bool.and_eq_true, decide_eq_true_eq, decide_eq_true_eq] at h
    constructor
    · intro hx
      by_cases hm : x = -4611686018427387904
      · subst hm; decide
      · rw [wrapI (n := -2 * x) (by omega) (by omega), wrapI (by omega) (by omega)]
        unfold numN; rw [if_pos hx]; omega
    · intro hx
      rw [wrapI (by omega) (by omega)]
      unfold numN; rw [if_neg hx]; omega
  generalize hN : numN x = N at hl hpl
  obtain ⟨k1, k2⟩ := key N hN
  clear key
  unfold numOk at h
  rcases (show (decide (x < 0) = true ∧ IntKind.wrap .i64 (IntKind.wrap .i64 (-2 * x) - 1) = (N : Int)) ∨ (decide (x < 0) = false ∧ IntKind.wrap .i64 (2 * x) = (N : Int)) by
    by_cases hx : x < 0
    · exact .inl ⟨by rw [decide_eq_true_eq]; exact hx, k1 hx⟩
    · exact .inr ⟨by rw [decide_eq_false_iff_not]; exact hx, k2 hx⟩) with ⟨hd, hw⟩ | ⟨hd, hw⟩
  all_goals clear k1 k2 hN
  all_goals (refine cw (keepF Try.f15) Try.f15 false ?_
             repeat' first | refine ck_intro (by first | exact v_l1In _ _ _) ?_ ?_ | refine g3 @h @hd @hw ?_ | refine d3 @h @hd @hw ?_ | refine j3 @h @hd @hw (fun hg hgo => ?_) fun hg hgo => ?_ | refine ek_ret ?_ | refine ek_norm ?_ | refine ⟨by omega, ?_⟩ | rfl | trivial | intro _)
  all_goals (
    refine pw_loop (fun m st => ∃ pre, pre ++ packL m = packL N ∧ m ≤ N ∧ st = [(3, .own 1 (bys pre)), (4, iv m)]) N [(3, .own 1 (bys [])), (4, iv N)] (sub_of ?_) ⟨[], by simp, Nat.le_refl _, rfl⟩ ?_
    · exact dn
    · rintro m st ⟨pre, hpre, hmN, rfl⟩
      have hlen : pre.length ≤ 10 := by
        have := congrArg List.length hpre
        rw [List.length_append] at this; omega
      by_cases hm : 127 < m
      · have hdm : decide ((m : Int) > 127) = true := by rw [decide_eq_true_eq]; omega
        have hr := bin_rem (Γ := Γ) (E := E) (t := 3) (kk := .i64) (a := (m : Int)) (b := 128) (by decide)
        have ht : (m : Int).tmod 128 = ((m % 128 : Nat) : Int) := by rw [Int.tmod_eq_emod_of_nonneg (by omega)]; rfl
        have hq := bin_quo (Γ := Γ) (E := E) (t := 3) (kk := .i64) (a := (m : Int)) (b := 128) (by decide)
        have hqt : IntKind.wrap .i64 ((m : Int).tdiv 128) = ((m / 128 : Nat) : Int) := by rw [Int.tdiv_eq_ediv_of_nonneg (by omega), wrapI (by omega) (by omega)]; rfl
        have ha : IntKind.wrap .i64 (((m % 128 : Nat) : Int) + 128) = ((m % 128 + 128 : Nat) : Int) := by rw [wrapI (by omega) (by omega)]; rfl
        have hb : IntKind.wrap .u8 ((m % 128 + 128 : Nat) : Int) = ((m % 128 + 128 : Nat) : Int) := wrapB (by omega) (by omega)
        rw [loop_pack hm] at hpre
        repeat' first | refine g8 @hdm @hr @ht @hq @hqt @ha @hb @bys_snoc ?_ | refine d8 @hdm @hr @ht @hq @hqt @ha @hb @bys_snoc ?_ | refine j8 @hdm @hr @ht @hq @hqt @ha @hb @bys_snoc (fun hg hgo => ?_) fun hg hgo => ?_ | refine ek_ret ?_ | refine ek_norm ?_ | refine ⟨by omega, ?_⟩ | rfl | trivial | intro _
        refine rd_norm [(3, .own 1 (bys (pre ++ [((m % 128 + 128 : Nat) : Int)]))), (4, iv (m / 128 : Nat))] (sub_of ?_) (m / 128) (by omega) ⟨pre ++ [((m % 128 + 128 : Nat) : Int)], by rw [← hpre]; simp, by omega, rfl⟩
        exact dn
      · have hdm : decide ((m : Int) > 127) = false := by rw [decide_eq_false_iff_not]; omega
        have hb : IntKind.wrap .u8 (m : Int) = (m : Int) := wrapB (by omega) (by omega)
        rw [loop_pack_no hm] at hpre
        rw [← hpre]
        repeat' first | refine g3 @hdm @hb @bys_snoc ?_ | refine d3 @hdm @hb @bys_snoc ?_ | refine j3 @hdm @hb @bys_snoc (fun hg hgo => ?_) fun hg hgo => ?_ | refine ek_ret ?_ | refine ek_norm ?_ | refine ⟨by omega, ?_⟩ | rfl | trivial | intro _)
theorem v_PackNum_no (x : Int) (h : numOk x = false) : C2 CC F_impl_PackNum [iv x] (.fv .nil) [] := by
  unfold numOk at h
  rcases (show (decide (x ≥ 4611686018427387904) = true) ∨ (decide (x ≥ 4611686018427387904) = false ∧ decide (x < -4611686018427387904) = true) by
    simp only [Bool.and_eq_false_iff, decide_eq_false_iff_not, decide_eq_true_eq] at h ⊢; omega) with hd | ⟨hd, hd2⟩
  · refine cw (keepF Try.f14) Try.f14 false ?_
    repeat' first | refine g1 @hd ?_ | refine d1 @hd ?_ | refine j1 @hd (fun hg hgo => ?_) fun hg hgo => ?_ | refine ek_ret ?_ | refine ek_norm ?_ | refine ⟨by omega, ?_⟩ | rfl | trivial | intro _
  · refine cw (keepF Try.f14) Try.f14 false ?_
    repeat' first | refine g2 @hd @hd2 ?_ | refine d2 @hd @hd2 ?_ | refine j2 @hd @hd2 (fun hg hgo => ?_) fun hg hgo => ?_ | refine ek_ret ?_ | refine ek_norm ?_ | refine ⟨by omega, ?_⟩ | rfl | trivial | intro _
theorem v_PackNum (x : Int) (h : numOk x = true) : C2 CC F_impl_PackNum [iv x] (.own 1 (bys (packI x))) [] := by
  have hl := numN_lt h
  have hpl := packL_len 9 (numN x) (by omega)
  unfold packI
  unfold numOk at h
  rw [Bool.and_eq_true, decide_eq_true_eq, decide_eq_true_eq] at h
  have hd1 : decide (x ≥ 4611686018427387904) = false := by rw [decide_eq_false_iff_not]; omega
  have hd2 : decide (x < -4611686018427387904) = false := by rw [decide_eq_false_iff_not]; omega
  have key : ∃ a b c : Int, IntKind.wrap .u64 (IntKind.wrap .i64 (2 * x)) = a ∧ (x < 0 → IntKind.wrap .u64 (IntKind.wrap .i64 (IntKind.wrap .i64 (-2 * x) - 1)) = b) ∧ c = 9223372036854775807 ∧ ((¬ x < 0 ∧ a = numN x) ∨ (x < 0 ∧ ¬ x = -4611686018427387904 ∧ b = numN x) ∨ (x < 0 ∧ x = -4611686018427387904 ∧ c = numN x)) := by
    refine ⟨_, _, _, rfl, fun _ => rfl, rfl, ?_⟩
    by_cases hx : x < 0
    · right
      by_cases hm : x = -4611686018427387904
      · right; subst hm; exact ⟨hx, rfl, by decide⟩
      · left
        refine ⟨hx, hm, ?_⟩
        rw [wrapI (n := -2 * x) (by omega) (by omega), wrapI (by omega) (by omega), wrapU (by omega) (by omega)]
        unfold numN; rw [if_pos hx]; omega
    · left
      refine ⟨hx, ?_⟩
      rw [wrapI (by omega) (by omega), wrapU (by omega) (by omega)]
      unfold numN; rw [if_neg hx]; omega
  obtain ⟨a, b, c, ha, hb, hc, hcase⟩ := key
  generalize numN x = N at hl hpl hcase
  have fin : ∀ m : Nat, m ≤ N → 127 < m → bits .and .u64 (m : Int) 127 = ((m % 128 : Nat) : Int) ∧ bits .or .u64 ((m % 128 : Nat) : Int) 128 = ((m % 128 + 128 : Nat) : Int) ∧ IntKind.wrap .u8 ((m % 128 + 128 : Nat) : Int) = ((m % 128 + 128 : Nat) : Int) ∧ (m : Int).fdiv (2 ^ min 7 64) = ((m / 128 : Nat) : Int) := fun m hm h1 =>
    ⟨u_and (by omega), u_or (by omega), wrapB (by omega) (by omega), u_shr⟩
  have hcc : ∃ M : Int, M = N ∧ ((decide (x < 0) = false ∧ IntKind.wrap .u64 (IntKind.wrap .i64 (2 * x)) = M) ∨ (decide (x < 0) = true ∧ (x == -4611686018427387904) = false ∧ IntKind.wrap .u64 (IntKind.wrap .i64 (IntKind.wrap .i64 (-2 * x) - 1)) = M) ∨ (decide (x < 0) = true ∧ (x == -4611686018427387904) = true ∧ (9223372036854775807 : Int) = M)) := by
    refine ⟨N, rfl, ?_⟩
    rcases hcase with ⟨hx, e⟩ | ⟨hx, hm, e⟩ | ⟨hx, hm, e⟩
    · exact .inl ⟨by rw [decide_eq_false_iff_not]; exact hx, by rw [ha, e]⟩
    · exact .inr (.inl ⟨by rw [decide_eq_true_eq]; exact hx, by rw [beq_eq_false_iff_ne]; exact hm, by rw [hb hx, e]⟩)
    · exact .inr (.inr ⟨by rw [decide_eq_true_eq]; exact hx, by rw [beq_iff_eq]; exact hm, by rw [← hc, e]⟩)
  clear hcase hb hc ha
  obtain ⟨M, hMN, hcc⟩ := hcc
  rcases hcc with ⟨hd, hw⟩ | ⟨hd, hd3, hw⟩ | ⟨hd, hd3, hw⟩
  rotate_left
  · have hq : True := trivial
    refine cw (keepF Try.f14) Try.f14 false ?_
    repeat' first | refine g5 @hd1 @hd2 @hd @hd3 @hw ?_ | refine d5 @hd1 @hd2 @hd @hd3 @hw ?_ | refine j5 @hd1 @hd2 @hd @hd3 @hw (fun hg hgo => ?_) fun hg hgo => ?_ | refine ek_ret ?_ | refine ek_norm ?_ | refine ⟨by omega, ?_⟩ | rfl | trivial | intro _
    rw [hMN]
    refine pw_loop (fun m st => ∃ pre, pre ++ packL m = packL N ∧ m ≤ N ∧ st = [(4, .own 1 (bys pre)), (3, .fv (.int .u64 m))]) N [(4, .own 1 (bys [])), (3, .fv (.int .u64 N))] (sub_of ?_) ⟨[], by simp, Nat.le_refl _, rfl⟩ ?_
    · exact dn
    · rintro m st ⟨pre, hpre, hmN, rfl⟩
      have hlen : pre.length ≤ 10 := by
        have := congrArg List.length hpre
        rw [List.length_append] at this; omega
      by_cases hm : 127 < m
      · have hdm : decide ((m : Int) > 127) = true := by rw [decide_eq_true_eq]; omega
        obtain ⟨e1, e2, e3, e4⟩ := fin m hmN hm
        rw [loop_pack hm] at hpre
        repeat' first | refine g6 @hdm @e1 @e2 @e3 @e4 @bys_snoc ?_ | refine d6 @hdm @e1 @e2 @e3 @e4 @bys_snoc ?_ | refine j6 @hdm @e1 @e2 @e3 @e4 @bys_snoc (fun hg hgo => ?_) fun hg hgo => ?_ | refine ek_ret ?_ | refine ek_norm ?_ | refine ⟨by omega, ?_⟩ | rfl | trivial | intro _
        refine rd_norm [(4, .own 1 (bys (pre ++ [((m % 128 + 128 : Nat) : Int)]))), (3, .fv (.int .u64 (m / 128 : Nat)))] (sub_of ?_) (m / 128) (by omega) ⟨pre ++ [((m % 128 + 128 : Nat) : Int)], by rw [← hpre]; simp, by omega, rfl⟩
        exact dn
      · have hdm : decide ((m : Int) > 127) = false := by rw [decide_eq_false_iff_not]; omega
        have hb : IntKind.wrap .u8 (m : Int) = (m : Int) := wrapB (by omega) (by omega)
        rw [loop_pack_no hm] at hpre
        rw [← hpre]
        repeat' first | refine g3 @hdm @hb @bys_snoc ?_ | refine d3 @hdm @hb @bys_snoc ?_ | refine j3 @hdm @hb @bys_snoc (fun hg hgo => ?_) fun hg hgo => ?_ | refine ek_ret ?_ | refine ek_norm ?_ | refine ⟨by omega, ?_⟩ | rfl | trivial | intro _
  · refine cw (keepF Try.f14) Try.f14 false ?_
    repeat' first | refine g4 @hd1 @hd2 @hd @hd3 ?_ | refine d4 @hd1 @hd2 @hd @hd3 ?_ | refine j4 @hd1 @hd2 @hd @hd3 (fun hg hgo => ?_) fun hg hgo => ?_ | refine ek_ret ?_ | refine ek_norm ?_ | refine ⟨by omega, ?_⟩ | rfl | trivial | intro _
    rw [hw, hMN]
    refine pw_loop (fun m st => ∃ pre, pre ++ packL m = packL N ∧ m ≤ N ∧ st = [(4, .own 1 (bys pre)), (3, .fv (.int .u64 m))]) N [(4, .own 1 (bys [])), (3, .fv (.int .u64 N))] (sub_of ?_) ⟨[], by simp, Nat.le_refl _, rfl⟩ ?_
    · exact dn
    · rintro m st ⟨pre, hpre, hmN, rfl⟩
      have hlen : pre.length ≤ 10 := by
        have := congrArg List.length hpre
        rw [List.length_append] at this; omega
      by_cases hm : 127 < m
      · have hdm : decide ((m : Int) > 127) = true := by rw [decide_eq_true_eq]; omega
        obtain ⟨e1, e2, e3, e4⟩ := fin m hmN hm
        rw [loop_pack hm] at hpre
        repeat' first | refine g6 @hdm @e1 @e2 @e3 @e4 @bys_snoc ?_ | refine d6 @hdm @e1 @e2 @e3 @e4 @bys_snoc ?_ | refine j6 @hdm @e1 @e2 @e3 @e4 @bys_snoc (fun hg hgo => ?_) fun hg hgo => ?_ | refine ek_ret ?_ | refine ek_norm ?_ | refine ⟨by omega, ?_⟩ | rfl | trivial | intro _
        refine rd_norm [(4, .own 1 (bys (pre ++ [((m % 128 + 128 : Nat) : Int)]))), (3, .fv (.int .u64 (m / 128 : Nat)))] (sub_of ?_) (m / 128) (by omega) ⟨pre ++ [((m % 128 + 128 : Nat) : Int)], by rw [← hpre]; simp, by omega, rfl⟩
        exact dn
      · have hdm : decide ((m : Int) > 127) = false := by rw [decide_eq_false_iff_not]; omega
        have hb : IntKind.wrap .u8 (m : Int) = (m : Int) := wrapB (by omega) (by omega)
        rw [loop_pack_no hm] at hpre
        rw [← hpre]
        repeat' first | refine g3 @hdm @hb @bys_snoc ?_ | refine d3 @hdm @hb @bys_snoc ?_ | refine j3 @hdm @hb @bys_snoc (fun hg hgo => ?_) fun hg hgo => ?_ | refine ek_ret ?_ | refine ek_norm ?_ | refine ⟨by omega, ?_⟩ | rfl | trivial | intro _
  · refine cw (keepF Try.f14) Try.f14 false ?_
    repeat' first | refine g4 @hd1 @hd2 @hd @hw ?_ | refine d4 @hd1 @hd2 @hd @hw ?_ | refine j4 @hd1 @hd2 @hd @hw (fun hg hgo => ?_) fun hg hgo => ?_ | refine ek_ret ?_ | refine ek_norm ?_ | refine ⟨by omega, ?_⟩ | rfl | trivial | intro _
    rw [hMN]
    refine pw_loop (fun m st => ∃ pre, pre ++ packL m = packL N ∧ m ≤ N ∧ st = [(4, .own 1 (bys pre)), (3, .fv (.int .u64 m))]) N [(4, .own 1 (bys [])), (3, .fv (.int .u64 N))] (sub_of ?_) ⟨[], by simp, Nat.le_refl _, rfl⟩ ?_
    · exact dn
    · rintro m st ⟨pre, hpre, hmN, rfl⟩
      have hlen : pre.length ≤ 10 := by
        have := congrArg List.length hpre
        rw [List.length_append] at this; omega
      by_cases hm : 127 < m
      · have hdm : decide ((m : Int) > 127) = true := by rw [decide_eq_true_eq]; omega
        obtain ⟨e1, e2, e3, e4⟩ := fin m hmN hm
        rw [loop_pack hm] at hpre
        repeat' first | refine g6 @hdm @e1 @e2 @e3 @e4 @bys_snoc ?_ | refine d6 @hdm @e1 @e2 @e3 @e4 @bys_snoc ?_ | refine j6 @hdm @e1 @e2 @e3 @e4 @bys_snoc (fun hg hgo => ?_) fun hg hgo => ?_ | refine ek_ret ?_ | refine ek_norm ?_ | refine ⟨by omega, ?_⟩ | rfl | trivial | intro _
        refine rd_norm [(4, .own 1 (bys (pre ++ [((m % 128 + 128 : Nat) : Int)]))), (3, .fv (.int .u64 (m / 128 : Nat)))] (sub_of ?_) (m / 128) (by omega) ⟨pre ++ [((m % 128 + 128 : Nat) : Int)], by rw [← hpre]; simp, by omega, rfl⟩
        exact dn
      · have hdm : decide ((m : Int) > 127) = false := by rw [decide_eq_false_iff_not]; omega
        have hb : IntKind.wrap .u8 (m : Int) = (m : Int) := wrapB (by omega) (by omega)
        rw [loop_pack_no hm] at hpre
        rw [← hpre]
        repeat' first | refine g3 @hdm @hb @bys_snoc ?_ | refine d3 @hdm @hb @bys_snoc ?_ | refine j3 @hdm @hb @bys_snoc (fun hg hgo => ?_) fun hg hgo => ?_ | refine ek_ret ?_ | refine ek_norm ?_ | refine ⟨by omega, ?_⟩ | rfl | trivial | intro _
@[go_sem] theorem bin_shl {Γ : TypeId → Option TI} {E : TypeId → Nat} {t : TypeId} {k k' : IntKind} {a b : Int} (h : ¬ b < 0) : binV Γ E .shl t (.int k a) (.int k' b) = some (.int k (k.wrap (a * 2 ^ min b.toNat k.bits))) := by
  simp only [binV, if_neg h]
attribute [go_sem] bin_quo
def upk : Nat → List Int → Nat → Nat → Option (Nat × Nat)
  | 0, _, _, _ => none
  | _ + 1, [], _, _ => none
  | f + 1, d :: l, k, n => if d < 128 then (if d = 0 ∧ 0 < k then none else some (n + d.toNat % 128 * 128 ^ k, k + 1)) else upk f l (k + 1) (n + d.toNat % 128 * 128 ^ k)
def decN (n : Nat) : Int := if n % 2 = 1 then -((n / 2 : Nat) : Int) - 1 else ((n / 2 : Nat) : Int)
def unpackR (b : List Int) (at_ : Int) : Option (Nat × Nat) := if decide (at_ ≥ 0) && decide (at_ ≤ b.length) then upk 9 (b.drop at_.toNat) 0 0 else none
def unpackD (b : List Int) (at_ : Int) : DV := match unpackR b at_ with
  | some (n, k) => .tup [iv (decN n), iv (at_ + k), bv true]
  | none => .tup [iv 0, iv 0, bv false]
theorem i_and {n : Nat} (h : n < 18446744073709551616) : bits .and .i64 (n : Int) 127 = ((n % 128 : Nat) : Int) := by
  have e : bits .and .i64 (n : Int) 127 = IntKind.i64.wrap ((BitVec.ofInt 64 (n : Int) &&& BitVec.ofInt 64 ((127 : Nat) : Int)).toNat : Int) := rfl
  rw [e, BitVec.toNat_and, ofInt_nat h, ofInt_nat (by decide), show (127 : Nat) = 2 ^ 7 - 1 from rfl, Nat.and_two_pow_sub_one_eq_mod, wrapI (by omega) (by omega)]
theorem i_or {n a i : Nat} (h : n < 2 ^ i) (h2 : n + 2 ^ i * a < 9223372036854775808) : bits .or .i64 (n : Int) ((2 ^ i * a : Nat) : Int) = ((n + 2 ^ i * a : Nat) : Int) := by
  have e : bits .or .i64 (n : Int) ((2 ^ i * a : Nat) : Int) = IntKind.i64.wrap ((BitVec.ofInt 64 (n : Int) ||| BitVec.ofInt 64 ((2 ^ i * a : Nat) : Int)).toNat : Int) := rfl
  rw [e, BitVec.toNat_or, ofInt_nat (by omega), ofInt_nat (by omega), or_add h, wrapI (by omega) (by omega)]
theorem step_up {d k n : Nat} (hk : k ≤ 8) (hn : n < 128 ^ k) : IntKind.wrap .i64 (((d % 128 : Nat) : Int) * 2 ^ min (7 * k) 64) = ((d % 128 * 128 ^ k : Nat) : Int) ∧ bits .or .i64 (n : Int) ((d % 128 * 128 ^ k : Nat) : Int) = ((n + d % 128 * 128 ^ k : Nat) : Int) ∧ n + d % 128 * 128 ^ k < 128 ^ (k + 1) := by
  have hd : d % 128 < 128 := Nat.mod_lt _ (by decide)
  have hp : (128 : Nat) ^ k = 2 ^ (7 * k) := by rw [show (128 : Nat) = 2 ^ 7 from rfl, ← Nat.pow_mul]
  have hk2 : (128 : Nat) ^ k ≤ 128 ^ 8 := Nat.pow_le_pow_right (by decide) hk
  have hm : d % 128 * 128 ^ k ≤ 127 * 128 ^ k := Nat.mul_le_mul_right _ (by omega)
  have hlt : n + d % 128 * 128 ^ k < 128 ^ (k + 1) := by rw [Nat.pow_succ]; omega
  have h9 : (128 : Nat) ^ (k + 1) ≤ 128 ^ 9 := Nat.pow_le_pow_right (by decide) (by omega)
  refine ⟨?_, ?_, hlt⟩
  · rw [Nat.min_eq_left (by omega), show (((d % 128 : Nat) : Int) * 2 ^ (7 * k)) = ((d % 128 * 128 ^ k : Nat) : Int) by rw [hp]; simp]
    exact wrapI (by omega) (by omega)
  · have := i_or (n := n) (a := d % 128) (i := 7 * k) (by rw [← hp]; exact hn) (by rw [← hp, Nat.mul_comm]; omega)
    rw [← hp, Nat.mul_comm] at this
    exact this
theorem shl_up {d k n : Nat} {t : TypeId} (hk : k ≤ 8) (hn : n < 128 ^ k) : binV Γ E .shl t (.int .i64 ((d % 128 : Nat) : Int)) (.int .i64 (7 * (k : Int))) = some (.int .i64 ((d % 128 * 128 ^ k : Nat) : Int)) := by
  rw [bin_shl (by omega), show (7 * (k : Int)).toNat = 7 * k by omega]
  exact congrArg (fun x => some (Value.int .i64 x)) (step_up (d := d) hk hn).1
theorem half_up {n : Nat} {t : TypeId} (h : n < 9223372036854775808) : binV Γ E .rem t (.int .i64 (n : Int)) (.int .i64 2) = some (.int .i64 ((n % 2 : Nat) : Int)) ∧ binV Γ E .quo t (.int .i64 (n : Int)) (.int .i64 2) = some (.int .i64 ((n / 2 : Nat) : Int)) := by
  rw [bin_rem (by decide), bin_quo (by decide), Int.tmod_eq_emod_of_nonneg (by omega), Int.tdiv_eq_ediv_of_nonneg (by omega), wrapI (by omega) (by omega)]
  exact ⟨rfl, rfl⟩
def updR (A : Nat) : Option (Nat × Nat) → DV
  | some (n, k) => .tup [iv (decN n), iv ((A : Int) + k), bv true]
  | none => .tup [iv 0, iv 0, bv false]
theorem updR_some {A n k : Nat} : updR A (some (n, k)) = .tup [iv (decN n), iv ((A : Int) + k), bv true] := rfl
theorem v_UnpackNum (b : List Int) (at_ : Int) (hb : ∀ x ∈ b, 0 ≤ x ∧ x < 256) (hl : b.length ≤ 1073741824) : C2 CC F_impl_UnpackNum [.fv (.row 1 (b.map (.int .u8))), iv at_] (unpackD b at_) [] := by
  unfold unpackD unpackR
  rcases (show (decide (at_ ≥ 0) && decide (at_ ≤ (b.length : Int))) = false ∨ (decide (at_ ≥ 0) && decide (at_ ≤ (b.length : Int))) = true by cases (decide (at_ ≥ 0) && decide (at_ ≤ (b.length : Int))) <;> simp) with hin | hin
  · rw [hin]
    refine cw (keepF Try.f16) Try.f16 false ?_
    repeat' first | refine ck_intro (by first | exact v_in _ _ _) ?_ ?_ | refine g1 @hin ?_ | refine d1 @hin ?_ | refine j1 @hin (fun hg hgo => ?_) fun hg hgo => ?_ | refine ek_ret ?_ | refine ek_norm ?_ | refine ⟨by omega, ?_⟩ | rfl | trivial | intro _
  · rw [if_pos hin]
    have hin2 := hin
    rw [Bool.and_eq_true, decide_eq_true_eq, decide_eq_true_eq] at hin2
    obtain ⟨A, rfl⟩ := Int.eq_ofNat_of_zero_le hin2.1
    rw [Int.toNat_natCast]
    show C2 CC F_impl_UnpackNum _ (updR A (upk 9 (b.drop A) 0 0)) []
    refine cw (keepF Try.f16) Try.f16 false ?_
    repeat' first | refine ck_intro (by first | exact v_in _ _ _) ?_ ?_ | refine g1 @hin ?_ | refine d1 @hin ?_ | refine j1 @hin (fun hg hgo => ?_) fun hg hgo => ?_ | refine ek_ret ?_ | refine ek_norm ?_ | refine ⟨by omega, ?_⟩ | rfl | trivial | intro _
    refine pw_loop (fun m st => ∃ k n : Nat, k + m = 9 ∧ n < 128 ^ k ∧ A + k ≤ b.length ∧ upk 9 (b.drop A) 0 0 = upk m (b.drop (A + k)) k n ∧ st = [(0, .fv (.row 1 (b.map (.int .u8)))), (1, iv A), (7, iv n), (8, iv k)]) 9 [(0, .fv (.row 1 (b.map (.int .u8)))), (1, iv A), (7, iv (0 : Nat)), (8, iv (0 : Nat))] (sub_of ?_) ⟨0, 0, by omega, by simp, by omega, rfl, rfl⟩ ?_
    · exact dn
    · rintro m st ⟨k, n, hkm, hn, hA, hup, rfl⟩
      generalize upk 9 (b.drop A) 0 0 = r0 at hup ⊢
      have hak : ((A : Int) + (k : Int)) = ((A + k : Nat) : Int) := by omega
      by_cases h9 : k < 9
      · have hd9 : decide ((k : Int) < 9) = true := by rw [decide_eq_true_eq]; omega
        by_cases hlt : A + k < b.length
        · have hdl : decide (((A + k : Nat) : Int) < (b.length : Int)) = true := by rw [decide_eq_true_eq]; omega
          have hml : A + k < (b.map (FV.int .u8)).length := by rw [List.length_map]; omega
          have hx := hb b[A + k] (List.getElem_mem hlt)
          have hdr : b.drop (A + k) = b[A + k] :: b.drop (A + k + 1) := List.drop_eq_getElem_cons hlt
          obtain ⟨m', rfl⟩ : ∃ m', m = m' + 1 := ⟨m - 1, by omega⟩
          rw [hdr, upk] at hup
          generalize hdd : b[A + k] = dd at hx hup
          obtain ⟨d, rfl⟩ := Int.eq_ofNat_of_zero_le hx.1
          obtain ⟨-, s2, s3⟩ := step_up (d := d) (by omega : k ≤ 8) hn
          rw [Int.toNat_natCast] at hup
          have h63 : (128 : Nat) ^ (k + 1) ≤ 128 ^ 9 := Nat.pow_le_pow_right (by decide) (by omega)
          obtain ⟨q1, q2⟩ := half_up (n := n + d % 128 * 128 ^ k) (t := 3) (by omega)
          have hsh := shl_up (t := 3) (d := d) (by omega : k ≤ 8) hn
          have ea := i_and (n := d) (by omega)
          generalize hN : n + d % 128 * 128 ^ k = N at s2 s3 q1 q2 hup
          by_cases hd128 : d < 128
          · have hg1 : decide ((d : Int) > 127) = false := by rw [decide_eq_false_iff_not]; omega
            have hg2 : decide ((d : Int) < 128) = true := by rw [decide_eq_true_eq]; omega
            rw [if_pos (by omega)] at hup
            by_cases hz : d = 0 ∧ 0 < k
            · rw [if_pos ⟨by omega, hz.2⟩] at hup
              rw [hup]
              have hz1 : ((d : Int) == 0) = true := by rw [beq_iff_eq]; omega
              have hz2 : decide ((k : Int) > 0) = true := by rw [decide_eq_true_eq]; omega
              repeat' first | refine g11 @hd9 @hdl @hak @hdd @ea @hsh @s2 @hg1 @hg2 @hz1 @hz2 ?_ | refine d11 @hd9 @hdl @hak @hdd @ea @hsh @s2 @hg1 @hg2 @hz1 @hz2 ?_ | refine j11 @hd9 @hdl @hak @hdd @ea @hsh @s2 @hg1 @hg2 @hz1 @hz2 (fun hg hgo => ?_) fun hg hgo => ?_ | refine ek_ret ?_ | refine ek_norm ?_ | refine ⟨by omega, ?_⟩ | rfl | trivial | intro _
            · rw [if_neg (by omega)] at hup
              rw [hup]
              have hz1 : ((d : Int) == 0) = false ∨ (((d : Int) == 0) = true ∧ decide ((k : Int) > 0) = false) := by
                by_cases h0 : d = 0
                · right; rw [beq_iff_eq, decide_eq_false_iff_not]; omega
                · left; rw [beq_eq_false_iff_ne]; omega
              have hk1 : IntKind.wrap .i64 (((A + k : Nat) : Int) + 1) = (A : Int) + ((k + 1 : Nat) : Int) := by rw [wrapI (by omega) (by omega)]; omega
              by_cases hodd : N % 2 = 1
              · have hp : (((N % 2 : Nat) : Int) == 1) = true := by rw [beq_iff_eq]; omega
                have hdec : decN N = IntKind.wrap .i64 (IntKind.wrap .i64 (0 - ((N / 2 : Nat) : Int)) - 1) := by
                  rw [wrapI (n := 0 - _) (by omega) (by omega), wrapI (by omega) (by omega)]
                  unfold decN; rw [if_pos hodd]; omega
                rw [updR_some, hdec]
                rcases hz1 with hz1 | ⟨hz1, hz2⟩
                · repeat' first | refine g14 @hd9 @hdl @hak @hdd @ea @hsh @s2 @hg1 @hg2 @hz1 @q1 @q2 @hp @hk1 ?_ | refine d14 @hd9 @hdl @hak @hdd @ea @hsh @s2 @hg1 @hg2 @hz1 @q1 @q2 @hp @hk1 ?_ | refine j14 @hd9 @hdl @hak @hdd @ea @hsh @s2 @hg1 @hg2 @hz1 @q1 @q2 @hp @hk1 (fun hg hgo => ?_) fun hg hgo => ?_ | refine ek_ret ?_ | refine ek_norm ?_ | refine ⟨by omega, ?_⟩ | rfl | trivial | intro _
                · repeat' first | refine g15 @hd9 @hdl @hak @hdd @ea @hsh @s2 @hg1 @hg2 @hz1 @hz2 @q1 @q2 @hp @hk1 ?_ | refine d15 @hd9 @hdl @hak @hdd @ea @hsh @s2 @hg1 @hg2 @hz1 @hz2 @q1 @q2 @hp @hk1 ?_ | refine j15 @hd9 @hdl @hak @hdd @ea @hsh @s2 @hg1 @hg2 @hz1 @hz2 @q1 @q2 @hp @hk1 (fun hg hgo => ?_) fun hg hgo => ?_ | refine ek_ret ?_ | refine ek_norm ?_ | refine ⟨by omega, ?_⟩ | rfl | trivial | intro _
              · have hp : (((N % 2 : Nat) : Int) == 1) = false := by rw [beq_eq_false_iff_ne]; omega
                have hdec : decN N = ((N / 2 : Nat) : Int) := by unfold decN; rw [if_neg hodd]
                rw [updR_some, hdec]
                rcases hz1 with hz1 | ⟨hz1, hz2⟩
                · repeat' first | refine g14 @hd9 @hdl @hak @hdd @ea @hsh @s2 @hg1 @hg2 @hz1 @q1 @q2 @hp @hk1 ?_ | refine d14 @hd9 @hdl @hak @hdd @ea @hsh @s2 @hg1 @hg2 @hz1 @q1 @q2 @hp @hk1 ?_ | refine j14 @hd9 @hdl @hak @hdd @ea @hsh @s2 @hg1 @hg2 @hz1 @q1 @q2 @hp @hk1 (fun hg hgo => ?_) fun hg hgo => ?_ | refine ek_ret ?_ | refine ek_norm ?_ | refine ⟨by omega, ?_⟩ | rfl | trivial | intro _
                · repeat' first | refine g15 @hd9 @hdl @hak @hdd @ea @hsh @s2 @hg1 @hg2 @hz1 @hz2 @q1 @q2 @hp @hk1 ?_ | refine d15 @hd9 @hdl @hak @hdd @ea @hsh @s2 @hg1 @hg2 @hz1 @hz2 @q1 @q2 @hp @hk1 ?_ | refine j15 @hd9 @hdl @hak @hdd @ea @hsh @s2 @hg1 @hg2 @hz1 @hz2 @q1 @q2 @hp @hk1 (fun hg hgo => ?_) fun hg hgo => ?_ | refine ek_ret ?_ | refine ek_norm ?_ | refine ⟨by omega, ?_⟩ | rfl | trivial | intro _
          · have hg1 : decide ((d : Int) > 127) = true := by rw [decide_eq_true_eq]; omega
            have hg2 : decide ((d : Int) < 128) = false := by rw [decide_eq_false_iff_not]; omega
            rw [if_neg (by omega)] at hup
            repeat' first | refine g9 @hd9 @hdl @hak @hdd @ea @hsh @s2 @hg1 @hg2 ?_ | refine d9 @hd9 @hdl @hak @hdd @ea @hsh @s2 @hg1 @hg2 ?_ | refine j9 @hd9 @hdl @hak @hdd @ea @hsh @s2 @hg1 @hg2 (fun hg hgo => ?_) fun hg hgo => ?_ | refine ek_ret ?_ | refine ek_norm ?_ | refine ⟨by omega, ?_⟩ | rfl | trivial | intro _
            refine rd_norm [(0, .fv (.row 1 (b.map (.int .u8)))), (1, iv A), (7, iv N), (8, iv (k + 1 : Nat))] (sub_of ?_) m' (by omega) ⟨k + 1, N, by omega, s3, by omega, by rw [hup]; rfl, rfl⟩
            exact dn
        · have hdl : decide (((A + k : Nat) : Int) < (b.length : Int)) = false := by rw [decide_eq_false_iff_not]; omega
          have hnone : r0 = none := by
            rw [hup, List.drop_eq_nil_of_le (by omega)]
            cases m <;> rfl
          rw [hnone]
          repeat' first | refine g3 @hd9 @hdl @hak ?_ | refine d3 @hd9 @hdl @hak ?_ | refine j3 @hd9 @hdl @hak (fun hg hgo => ?_) fun hg hgo => ?_ | refine ek_ret ?_ | refine ek_norm ?_ | refine ⟨by omega, ?_⟩ | rfl | trivial | intro _
      · have hd9 : decide ((k : Int) < 9) = false := by rw [decide_eq_false_iff_not]; omega
        have hnone : r0 = none := by
          rw [hup, show m = 0 by omega]; rfl
        rw [hnone]
        repeat' first | refine g1 @hd9 ?_ | refine d1 @hd9 ?_ | refine j1 @hd9 (fun hg hgo => ?_) fun hg hgo => ?_ | refine ek_ret ?_ | refine ek_norm ?_ | refine ⟨by omega, ?_⟩ | rfl | trivial | intro _
theorem v_UnpackNum_spec (b : List Int) (at_ : Int) (hb : ∀ x ∈ b, 0 ≤ x ∧ x < 256) (hl : b.length ≤ 1073741824) : C2 CC F_spec_UnpackNum [.fv (.row 1 (b.map (.int .u8))), iv at_] (unpackD b at_) [] := by
  unfold unpackD unpackR
  by_cases hlen : at_ = (b.length : Int)
  · have hn : (if (decide (at_ ≥ 0) && decide (at_ ≤ (b.length : Int))) = true then upk 9 (b.drop at_.toNat) 0 0 else none) = none := by
      split
      · rw [List.drop_eq_nil_of_le (by omega)]; rfl
      · rfl
    rw [hn]
    have h1 : decide (at_ < 0) = false := by rw [decide_eq_false_iff_not]; omega
    have h2 : decide (at_ ≥ (b.length : Int)) = true := by rw [decide_eq_true_eq]; omega
    refine cw (keepF Try.f18) Try.f18 false ?_
    repeat' first | refine g2 @h1 @h2 ?_ | refine d2 @h1 @h2 ?_ | refine j2 @h1 @h2 (fun hg hgo => ?_) fun hg hgo => ?_ | refine ek_ret ?_ | refine ek_norm ?_ | refine ⟨by omega, ?_⟩ | rfl | trivial | intro _
  rcases (show (decide (at_ ≥ 0) && decide (at_ ≤ (b.length : Int))) = false ∨ (decide (at_ ≥ 0) && decide (at_ ≤ (b.length : Int))) = true by cases (decide (at_ ≥ 0) && decide (at_ ≤ (b.length : Int))) <;> simp) with hin | hin
  · rw [hin]
    rcases (show decide (at_ < 0) = true ∨ (decide (at_ < 0) = false ∧ decide (at_ ≥ (b.length : Int)) = true) by
      simp only [Bool.and_eq_false_iff, decide_eq_false_iff_not, decide_eq_true_eq] at hin ⊢; omega) with h1 | ⟨h1, h2⟩
    · refine cw (keepF Try.f18) Try.f18 false ?_
      repeat' first | refine g1 @h1 ?_ | refine d1 @h1 ?_ | refine j1 @h1 (fun hg hgo => ?_) fun hg hgo => ?_ | refine ek_ret ?_ | refine ek_norm ?_ | refine ⟨by omega, ?_⟩ | rfl | trivial | intro _
    · refine cw (keepF Try.f18) Try.f18 false ?_
      repeat' first | refine g2 @h1 @h2 ?_ | refine d2 @h1 @h2 ?_ | refine j2 @h1 @h2 (fun hg hgo => ?_) fun hg hgo => ?_ | refine ek_ret ?_ | refine ek_norm ?_ | refine ⟨by omega, ?_⟩ | rfl | trivial | intro _
  · rw [if_pos hin]
    have hin2 := hin
    rw [Bool.and_eq_true, decide_eq_true_eq, decide_eq_true_eq] at hin2
    obtain ⟨A, rfl⟩ := Int.eq_ofNat_of_zero_le hin2.1
    rw [Int.toNat_natCast]
    show C2 CC F_spec_UnpackNum _ (updR A (upk 9 (b.drop A) 0 0)) []
    have h1 : decide ((A : Int) < 0) = false := by rw [decide_eq_false_iff_not]; omega
    have h2 : decide ((A : Int) ≥ (b.length : Int)) = false := by rw [decide_eq_false_iff_not]; omega
    refine cw (keepF Try.f18) Try.f18 false ?_
    repeat' first | refine g2 @h1 @h2 ?_ | refine d2 @h1 @h2 ?_ | refine j2 @h1 @h2 (fun hg hgo => ?_) fun hg hgo => ?_ | refine ek_ret ?_ | refine ek_norm ?_ | refine ⟨by omega, ?_⟩ | rfl | trivial | intro _
    refine pw_loop (fun m st => ∃ k n : Nat, k + m = 9 ∧ n < 128 ^ k ∧ A + k ≤ b.length ∧ upk 9 (b.drop A) 0 0 = upk m (b.drop (A + k)) k n ∧ st = [(0, .fv (.row 1 (b.map (.int .u8)))), (1, iv A), (7, iv n), (8, iv k)]) 9 [(0, .fv (.row 1 (b.map (.int .u8)))), (1, iv A), (7, iv (0 : Nat)), (8, iv (0 : Nat))] (sub_of ?_) ⟨0, 0, by omega, by simp, by omega, rfl, rfl⟩ ?_
    · exact dn
    · rintro m st ⟨k, n, hkm, hn, hA, hup, rfl⟩
      generalize upk 9 (b.drop A) 0 0 = r0 at hup ⊢
      have hak : ((A : Int) + (k : Int)) = ((A + k : Nat) : Int) := by omega
      by_cases h9 : k < 9
      · have hd9 : decide ((k : Int) < 9) = true := by rw [decide_eq_true_eq]; omega
        by_cases hlt : A + k < b.length
        · have hdl : decide (((A + k : Nat) : Int) < (b.length : Int)) = true := by rw [decide_eq_true_eq]; omega
          have hml : A + k < (b.map (FV.int .u8)).length := by rw [List.length_map]; omega
          have hx := hb b[A + k] (List.getElem_mem hlt)
          have hdr : b.drop (A + k) = b[A + k] :: b.drop (A + k + 1) := List.drop_eq_getElem_cons hlt
          obtain ⟨m', rfl⟩ : ∃ m', m = m' + 1 := ⟨m - 1, by omega⟩
          rw [hdr, upk] at hup
          generalize hdd : b[A + k] = dd at hx hup
          obtain ⟨d, rfl⟩ := Int.eq_ofNat_of_zero_le hx.1
          obtain ⟨-, s2, s3⟩ := step_up (d := d) (by omega : k ≤ 8) hn
          rw [Int.toNat_natCast] at hup
          have h63 : (128 : Nat) ^ (k + 1) ≤ 128 ^ 9 := Nat.pow_le_pow_right (by decide) (by omega)
          obtain ⟨q1, q2⟩ := half_up (n := n + d % 128 * 128 ^ k) (t := 3) (by omega)
          have hsh := shl_up (t := 3) (d := d) (by omega : k ≤ 8) hn
          have ea : (d : Int).tmod 128 = ((d % 128 : Nat) : Int) := by rw [Int.tmod_eq_emod_of_nonneg (by omega)]; rfl
          generalize hN : n + d % 128 * 128 ^ k = N at s2 s3 q1 q2 hup
          by_cases hd128 : d < 128
          · have hg1 : decide ((d : Int) > 127) = false := by rw [decide_eq_false_iff_not]; omega
            have hg2 : decide ((d : Int) < 128) = true := by rw [decide_eq_true_eq]; omega
            rw [if_pos (by omega)] at hup
            by_cases hz : d = 0 ∧ 0 < k
            · rw [if_pos ⟨by omega, hz.2⟩] at hup
              rw [hup]
              have hz1 : ((d : Int) == 0) = true := by rw [beq_iff_eq]; omega
              have hz2 : decide ((k : Int) > 0) = true := by rw [decide_eq_true_eq]; omega
              repeat' first | refine g11 @hd9 @hdl @hak @hdd @ea @hsh @s2 @hg1 @hg2 @hz1 @hz2 ?_ | refine d11 @hd9 @hdl @hak @hdd @ea @hsh @s2 @hg1 @hg2 @hz1 @hz2 ?_ | refine j11 @hd9 @hdl @hak @hdd @ea @hsh @s2 @hg1 @hg2 @hz1 @hz2 (fun hg hgo => ?_) fun hg hgo => ?_ | refine ek_ret ?_ | refine ek_norm ?_ | refine ⟨by omega, ?_⟩ | rfl | trivial | intro _
            · rw [if_neg (by omega)] at hup
              rw [hup]
              have hz1 : ((d : Int) == 0) = false ∨ (((d : Int) == 0) = true ∧ decide ((k : Int) > 0) = false) := by
                by_cases h0 : d = 0
                · right; rw [beq_iff_eq, decide_eq_false_iff_not]; omega
                · left; rw [beq_eq_false_iff_ne]; omega
              have hk1 : IntKind.wrap .i64 (((A + k : Nat) : Int) + 1) = (A : Int) + ((k + 1 : Nat) : Int) := by rw [wrapI (by omega) (by omega)]; omega
              by_cases hodd : N % 2 = 1
              · have hp : (((N % 2 : Nat) : Int) == 1) = true := by rw [beq_iff_eq]; omega
                have hdec : decN N = IntKind.wrap .i64 (IntKind.wrap .i64 (0 - ((N / 2 : Nat) : Int)) - 1) := by
                  rw [wrapI (n := 0 - _) (by omega) (by omega), wrapI (by omega) (by omega)]
                  unfold decN; rw [if_pos hodd]; omega
                rw [updR_some, hdec]
                rcases hz1 with hz1 | ⟨hz1, hz2⟩
                · repeat' first | refine g14 @hd9 @hdl @hak @hdd @ea @hsh @s2 @hg1 @hg2 @hz1 @q1 @q2 @hp @hk1 ?_ | refine d14 @hd9 @hdl @hak @hdd @ea @hsh @s2 @hg1 @hg2 @hz1 @q1 @q2 @hp @hk1 ?_ | refine j14 @hd9 @hdl @hak @hdd @ea @hsh @s2 @hg1 @hg2 @hz1 @q1 @q2 @hp @hk1 (fun hg hgo => ?_) fun hg hgo => ?_ | refine ek_ret ?_ | refine ek_norm ?_ | refine ⟨by omega, ?_⟩ | rfl | trivial | intro _
                · repeat' first | refine g15 @hd9 @hdl @hak @hdd @ea @hsh @s2 @hg1 @hg2 @hz1 @hz2 @q1 @q2 @hp @hk1 ?_ | refine d15 @hd9 @hdl @hak @hdd @ea @hsh @s2 @hg1 @hg2 @hz1 @hz2 @q1 @q2 @hp @hk1 ?_ | refine j15 @hd9 @hdl @hak @hdd @ea @hsh @s2 @hg1 @hg2 @hz1 @hz2 @q1 @q2 @hp @hk1 (fun hg hgo => ?_) fun hg hgo => ?_ | refine ek_ret ?_ | refine ek_norm ?_ | refine ⟨by omega, ?_⟩ | rfl | trivial | intro _
              · have hp : (((N % 2 : Nat) : Int) == 1) = false := by rw [beq_eq_false_iff_ne]; omega
                have hdec : decN N = ((N / 2 : Nat) : Int) := by unfold decN; rw [if_neg hodd]
                rw [updR_some, hdec]
                rcases hz1 with hz1 | ⟨hz1, hz2⟩
                · repeat' first | refine g14 @hd9 @hdl @hak @hdd @ea @hsh @s2 @hg1 @hg2 @hz1 @q1 @q2 @hp @hk1 ?_ | refine d14 @hd9 @hdl @hak @hdd @ea @hsh @s2 @hg1 @hg2 @hz1 @q1 @q2 @hp @hk1 ?_ | refine j14 @hd9 @hdl @hak @hdd @ea @hsh @s2 @hg1 @hg2 @hz1 @q1 @q2 @hp @hk1 (fun hg hgo => ?_) fun hg hgo => ?_ | refine ek_ret ?_ | refine ek_norm ?_ | refine ⟨by omega, ?_⟩ | rfl | trivial | intro _
                · repeat' first | refine g15 @hd9 @hdl @hak @hdd @ea @hsh @s2 @hg1 @hg2 @hz1 @hz2 @q1 @q2 @hp @hk1 ?_ | refine d15 @hd9 @hdl @hak @hdd @ea @hsh @s2 @hg1 @hg2 @hz1 @hz2 @q1 @q2 @hp @hk1 ?_ | refine j15 @hd9 @hdl @hak @hdd @ea @hsh @s2 @hg1 @hg2 @hz1 @hz2 @q1 @q2 @hp @hk1 (fun hg hgo => ?_) fun hg hgo => ?_ | refine ek_ret ?_ | refine ek_norm ?_ | refine ⟨by omega, ?_⟩ | rfl | trivial | intro _
          · have hg1 : decide ((d : Int) > 127) = true := by rw [decide_eq_true_eq]; omega
            have hg2 : decide ((d : Int) < 128) = false := by rw [decide_eq_false_iff_not]; omega
            rw [if_neg (by omega)] at hup
            repeat' first | refine g9 @hd9 @hdl @hak @hdd @ea @hsh @s2 @hg1 @hg2 ?_ | refine d9 @hd9 @hdl @hak @hdd @ea @hsh @s2 @hg1 @hg2 ?_ | refine j9 @hd9 @hdl @hak @hdd @ea @hsh @s2 @hg1 @hg2 (fun hg hgo => ?_) fun hg hgo => ?_ | refine ek_ret ?_ | refine ek_norm ?_ | refine ⟨by omega, ?_⟩ | rfl | trivial | intro _
            refine rd_norm [(0, .fv (.row 1 (b.map (.int .u8)))), (1, iv A), (7, iv N), (8, iv (k + 1 : Nat))] (sub_of ?_) m' (by omega) ⟨k + 1, N, by omega, s3, by omega, by rw [hup]; rfl, rfl⟩
            exact dn
        · have hdl : decide (((A + k : Nat) : Int) < (b.length : Int)) = false := by rw [decide_eq_false_iff_not]; omega
          have hnone : r0 = none := by
            rw [hup, List.drop_eq_nil_of_le (by omega)]
            cases m <;> rfl
          rw [hnone]
          repeat' first | refine g3 @hd9 @hdl @hak ?_ | refine d3 @hd9 @hdl @hak ?_ | refine j3 @hd9 @hdl @hak (fun hg hgo => ?_) fun hg hgo => ?_ | refine ek_ret ?_ | refine ek_norm ?_ | refine ⟨by omega, ?_⟩ | rfl | trivial | intro _
      · have hd9 : decide ((k : Int) < 9) = false := by rw [decide_eq_false_iff_not]; omega
        have hnone : r0 = none := by
          rw [hup, show m = 0 by omega]; rfl
        rw [hnone]
        repeat' first | refine g1 @hd9 ?_ | refine d1 @hd9 ?_ | refine j1 @hd9 (fun hg hgo => ?_) fun hg hgo => ?_ | refine ek_ret ?_ | refine ek_norm ?_ | refine ⟨by omega, ?_⟩ | rfl | trivial | intro _
theorem upk_pack : ∀ (f n k acc : Nat) (rest : List Int), n < 128 ^ f → 0 < f → (0 < k → 0 < n) → upk f (packL n ++ rest) k acc = some (acc + n * 128 ^ k, k + (packL n).length)
  | 0, n, k, acc, rest, h, h0, hk => by omega
  | f + 1, n, k, acc, rest, h, _, hk => by
    by_cases hn : 127 < n
    · rw [loop_pack hn, List.cons_append, upk, if_neg (by omega)]
      have h1 : n / 128 < 128 ^ f := by rw [Nat.div_lt_iff_lt_mul (by decide), ← Nat.pow_succ]; exact h
      have h2 : 0 < f := by
        rcases Nat.eq_zero_or_pos f with rfl | h2
        · simp at h; omega
        · exact h2
      rw [upk_pack f (n / 128) (k + 1) _ rest h1 h2 (fun _ => by omega), Int.toNat_natCast, List.length_cons]
      have e1 : (n % 128 + 128) % 128 = n % 128 := by omega
      have e2 : n % 128 * 128 ^ k + n / 128 * 128 ^ (k + 1) = n * 128 ^ k := by
        rw [Nat.pow_succ, Nat.mul_comm (128 ^ k), ← Nat.mul_assoc, ← Nat.add_mul]
        congr 1; omega
      rw [e1, Nat.add_assoc, e2]
      congr 2; omega
    · rw [loop_pack_no hn, List.cons_append, upk, if_pos (by omega), if_neg (by omega), Int.toNat_natCast, Nat.mod_eq_of_lt (by omega)]
      rfl
theorem upk_inv : ∀ (f : Nat) (l : List Int) (k acc N k' : Nat), (∀ x ∈ l, 0 ≤ x ∧ x < 256) → upk f l k acc = some (N, k') → ∃ m, N = acc + m * 128 ^ k ∧ packL m = l.take (k' - k) ∧ k < k' ∧ k' ≤ k + l.length ∧ (0 < k → 0 < m) ∧ m < 128 ^ f
  | 0, l, k, acc, N, k', hb, h => by cases h
  | f + 1, [], k, acc, N, k', hb, h => by cases h
  | f + 1, d :: l, k, acc, N, k', hb, h => by
    obtain ⟨hd0, hd1⟩ := hb d (by simp)
    obtain ⟨d, rfl⟩ := Int.eq_ofNat_of_zero_le hd0
    rw [upk, Int.toNat_natCast] at h
    split at h
    · split at h
      · cases h
      · rename_i hlt hz
        injection h with h; injection h with h1 h2
        have hp : 0 < 128 ^ f := Nat.pow_pos (by decide)
        refine ⟨d, by rw [← h1, Nat.mod_eq_of_lt (by omega)], ?_, by omega, by rw [List.length_cons]; omega, fun hk => by omega, by rw [Nat.pow_succ]; omega⟩
        rw [loop_pack_no (by omega), show k' - k = 1 by omega]; rfl
    · rename_i hge
      obtain ⟨m, e1, e2, e3, e4, e5, e6⟩ := upk_inv f l (k + 1) _ N k' (fun x hx => hb x (by simp [hx])) h
      have hm := e5 (by omega)
      have hd2 : d % 128 = d - 128 := by omega
      refine ⟨m * 128 + d % 128, ?_, ?_, by omega, by rw [List.length_cons]; omega, fun _ => by omega, by rw [Nat.pow_succ]; omega⟩
      · rw [e1, Nat.pow_succ, Nat.add_mul, Nat.mul_comm (128 ^ k), ← Nat.mul_assoc]; omega
      · rw [loop_pack (by omega), show (m * 128 + d % 128) / 128 = m by omega, show (m * 128 + d % 128) % 128 = d % 128 by omega, e2, show k' - k = (k' - (k + 1)) + 1 by omega, List.take_succ_cons, show d % 128 + 128 = d by omega]
theorem dec_num {x : Int} (h : numOk x = true) : decN (numN x) = x := by
  unfold numOk at h
  rw [Bool.and_eq_true, decide_eq_true_eq, decide_eq_true_eq] at h
  unfold decN numN
  split
  · rename_i hx; rw [if_pos (by omega)]; omega
  · rename_i hx; rw [if_neg (by omega)]; omega
theorem num_dec {n : Nat} (h : n < 9223372036854775808) : numOk (decN n) = true ∧ numN (decN n) = n := by
  unfold numOk
  rw [Bool.and_eq_true, decide_eq_true_eq, decide_eq_true_eq]
  unfold decN numN
  by_cases ho : n % 2 = 1
  · rw [if_pos ho, if_pos (by omega)]; omega
  · rw [if_neg ho, if_neg (by omega)]; omega
theorem packL_bytes : ∀ (k n : Nat), n < 128 ^ (k + 1) → ∀ x ∈ packL n, 0 ≤ x ∧ x < 256
  | 0, n, h, x, hx => by rw [loop_pack_no (by omega)] at hx; simp at hx; omega
  | k + 1, n, h, x, hx => by
    by_cases hn : 127 < n
    · rw [loop_pack hn] at hx
      rcases List.mem_cons.1 hx with rfl | hx
      · omega
      · exact packL_bytes k (n / 128) (by rw [Nat.div_lt_iff_lt_mul (by decide), ← Nat.pow_succ]; exact h) x hx
    · rw [loop_pack_no hn] at hx; simp at hx; omega
theorem packI_ok {x : Int} (h : numOk x = true) : (packI x).length ≤ 10 ∧ 0 < (packI x).length ∧ ∀ y ∈ packI x, 0 ≤ y ∧ y < 256 := by
  have h1 := numN_lt h
  unfold packI
  refine ⟨packL_len 9 _ (by omega), ?_, packL_bytes 9 _ (by omega)⟩
  rw [packL]; split <;> simp
theorem unpack_pack {x : Int} (h : numOk x = true) : unpackD (packI x) 0 = .tup [iv x, iv (packI x).length, bv true] := by
  have h1 := numN_lt h
  have h2 := upk_pack 9 (numN x) 0 0 [] (by omega) (by decide) (by omega)
  unfold unpackD unpackR
  have h3 : (decide ((0 : Int) ≥ 0) && decide ((0 : Int) ≤ ((packI x).length : Int))) = true := by simp
  rw [if_pos h3]
  show (match upk 9 (packI x) 0 0 with | some (n, k) => DV.tup [iv (decN n), iv ((0 : Int) + k), bv true] | none => .tup [iv 0, iv 0, bv false]) = _
  unfold packI
  rw [List.append_nil] at h2
  rw [h2]
  simp only [Nat.zero_add, Nat.pow_zero, Nat.mul_one, dec_num h, Int.zero_add]
theorem pack_unpack {b : List Int} {at_ : Int} (hb : ∀ x ∈ b, 0 ≤ x ∧ x < 256) : unpackD b at_ = .tup [iv 0, iv 0, bv false] ∨ ∃ (x : Int) (A k : Nat), at_ = A ∧ unpackD b at_ = .tup [iv x, iv (A + k : Nat), bv true] ∧ 0 < k ∧ A + k ≤ b.length ∧ numOk x = true ∧ packI x = (b.drop A).take k := by
  unfold unpackD unpackR
  by_cases hin : (decide (at_ ≥ 0) && decide (at_ ≤ (b.length : Int))) = true
  · rw [if_pos hin]
    rw [Bool.and_eq_true, decide_eq_true_eq, decide_eq_true_eq] at hin
    obtain ⟨A, rfl⟩ := Int.eq_ofNat_of_zero_le hin.1
    rw [Int.toNat_natCast]
    cases hu : upk 9 (b.drop A) 0 0 with
    | none => exact .inl rfl
    | some r =>
      obtain ⟨N, k⟩ := r
      obtain ⟨m, e1, e2, e3, e4, e5, e6⟩ := upk_inv 9 (b.drop A) 0 0 N k (fun x hx => hb x (List.mem_of_mem_drop hx)) hu
      have hm : N = m := by omega
      subst hm
      obtain ⟨q1, q2⟩ := num_dec (n := N) (by omega)
      rw [List.length_drop] at e4
      exact .inr ⟨decN N, A, k, rfl, by simp only; rw [show ((A : Int) + (k : Int)) = ((A + k : Nat) : Int) by omega], by omega, by omega, q1, by unfold packI; rw [q2, e2]; rfl⟩
  · rw [if_neg hin]; exact .inl rfl
theorem x_PackNum (x : Int) : ∃ p, C2 CC F_spec_PackNum [iv x] (.own 1 (bys p)) [] ∧ p.length ≤ 10 ∧ ∀ y ∈ p, 0 ≤ y ∧ y < 256 := by
  cases h : numOk x with
  | false => exact ⟨[], v_PackNum_spec_no x h, by simp, by simp⟩
  | true => obtain ⟨h1, h2, h3⟩ := packI_ok h; exact ⟨packI x, v_PackNum_spec x h, h1, h3⟩
theorem v_big (l : List Int) : C2 CC F_laws_big [.fv (.row 1 (l.map (.int .u8)))] (bv (decide ((l.length : Int) > 1048576))) [] := by
  refine cw (keepF Try.f12) Try.f12 false ?_
  repeat' first | refine g0 ?_ | refine d0 ?_ | refine j0 (fun hg hgo => ?_) fun hg hgo => ?_ | refine ek_ret ?_ | refine ek_norm ?_ | refine ⟨by omega, ?_⟩ | rfl | trivial | intro _
structure BytesOk (l : List Int) : Prop where
  bytes : ∀ x ∈ l, 0 ≤ x ∧ x < 256
  len : l.length ≤ 1048576
theorem cur_new {l : List Int} (h : BytesOk l) {q : Int} : CurD.ok ⟨l, 0, q⟩ := ⟨h.bytes, by simp, h.len⟩
theorem x_DrawPackNum (l : List Int) (h : BytesOk l) : ∃ x, C2 CC F_spec_DrawPackNum [.fv (.row 1 (l.map (.int .u8)))] (iv x) [] ∧ I64 x := by
  have k0 := v_l1New l h.len h.bytes
  obtain ⟨b, c1, k1, o1⟩ := x_l1Once _ 4 (cur_new h (q := hN l (min l.length 4000))) (by decide)
  unfold rb at k0
  cases b with
  | true =>
    obtain ⟨x, c2, k2, hx, o2⟩ := x_l1PickInt c1 [4611686018427387903, 4611686018427387904, -4611686018427387904, -4611686018427387905, 63, 64, -64, -65] o1 (by simp) (by simp)
    refine ⟨x, ?_, by simp only [List.mem_cons, List.not_mem_nil, or_false] at hx; unfold I64; omega⟩
    refine cw (keepF Try.f13) Try.f13 false ?_
    repeat' first | refine ck_intro (by first | exact k0 | exact k1 | exact k2) ?_ ?_ | refine g0 ?_ | refine d0 ?_ | refine j0 (fun hg hgo => ?_) fun hg hgo => ?_ | refine ek_ret ?_ | refine ek_norm ?_ | refine ⟨by omega, ?_⟩ | rfl | trivial | intro _
  | false =>
    obtain ⟨x, c2, k2, hx, o2⟩ := x_l1DrawNum c1 o1
    refine ⟨x, ?_, hx⟩
    refine cw (keepF Try.f13) Try.f13 false ?_
    repeat' first | refine ck_intro (by first | exact k0 | exact k1 | exact k2) ?_ ?_ | refine g0 ?_ | refine d0 ?_ | refine j0 (fun hg hgo => ?_) fun hg hgo => ?_ | refine ek_ret ?_ | refine ek_norm ?_ | refine ⟨by omega, ?_⟩ | rfl | trivial | intro _
theorem byD_bys : ∀ l : List Int, byD (bys l) = some l
  | [] => rfl
  | x :: l => by
    have ih := byD_bys l
    unfold bys at ih ⊢
    rw [List.map_cons, byD, ih]; rfl
theorem byD_row (l : List Int) : byD ((l.map (FV.int .u8)).map DV.fv) = some l := by rw [map_bys, byD_bys]
theorem txI_nil : txI [] = ByteArray.empty := rfl
theorem str_neq {Γ : TypeId → Option TI} {E : TypeId → Nat} {t : TypeId} (s : ByteArray) : binV Γ E .neq t (.string s) (.string s) = some (.bool false) := by
  simp [binV, binS]
theorem str_eql {Γ : TypeId → Option TI} {E : TypeId → Nat} {t : TypeId} (s : ByteArray) : binV Γ E .eql t (.string s) (.string s) = some (.bool true) := by
  simp [binV, binS]
theorem x_DrawUnpackNum (l : List Int) (h : BytesOk l) : ∃ (raw : List Int) (k : Int), C2 CC F_spec_DrawUnpackNum [.fv (.row 1 (l.map (.int .u8)))] (.tup [.fv (.row 1 (raw.map (.int .u8))), iv k]) [] ∧ (∀ x ∈ raw, 0 ≤ x ∧ x < 256) ∧ raw.length ≤ 100 := by
  have k0 := v_l1New l h.len h.bytes
  unfold rb at k0
  obtain ⟨x1, c1, k1, r1, o1⟩ := x_l1Below _ 300 (cur_new h (q := hN l (min l.length 4000))) (by decide)
  obtain ⟨p1, kp1, lp1, bp1⟩ := x_PackNum (x1 - 100)
  obtain ⟨x2, c2, k2, r2, o2⟩ := x_l1DrawNum c1 o1
  obtain ⟨p2, kp2, lp2, bp2⟩ := x_PackNum x2
  obtain ⟨b3, c3, k3, o3⟩ := x_l1Once c2 4 o2 (by decide)
  have hw : IntKind.wrap .i64 (x1 - 100) = x1 - 100 := wrapI (by omega) (by omega)
  have app : ∀ a b : List Int, bys a ++ bys b = bys (a ++ b) := fun a b => by unfold bys; simp
  have fin : ∀ (raw : List Int) (c : CurD), raw.length ≤ 40 → c.ok → ∃ (x7 q : Int) (x8 : Int) (c7 c8 : CurD), C2 CC F_spec_l1Below [curO c, iv ((raw.length : Int) + 1)] (iv x7) [curO c7] ∧ C2 CC F_spec_l1Below [curO c7, iv 20] (iv x8) [curO c8] ∧ IntKind.wrap .i64 (x8.tdiv 19) = q ∧ (0 ≤ q ∧ q ≤ 1) ∧ 0 ≤ x7 ∧ x7 ≤ 41 := by
    intro raw c hl hc
    obtain ⟨x7, c7, k7, r7, o7⟩ := x_l1Below c ((raw.length : Int) + 1) hc (by omega)
    obtain ⟨x8, c8, k8, r8, o8⟩ := x_l1Below c7 20 o7 (by decide)
    have hq : x8.tdiv 19 = x8 / 19 := Int.tdiv_eq_ediv_of_nonneg (by omega)
    exact ⟨x7, x8 / 19, x8, c7, c8, k7, k8, by rw [hq, wrapI (by omega) (by omega)], by omega, by omega, by omega⟩
  have h12 : (p1 ++ p2).length ≤ 20 := by simp; omega
  have b12 : ∀ x ∈ p1 ++ p2, 0 ≤ x ∧ x < 256 := fun x hx => by rcases List.mem_append.1 hx with hx | hx; exact bp1 x hx; exact bp2 x hx
  have hap := app p1 p2
  have l12 : (p1 ++ p2).length = p1.length + p2.length := List.length_append
  generalize p1 ++ p2 = p at h12 b12 hap l12
  cases b3 with
  | false =>
    obtain ⟨b5, c5, k5, o5⟩ := x_l1Once c3 12 o3 (by decide)
    cases b5 with
    | false =>
      obtain ⟨x7, q, x8, c7, c8, k7, k8, hq, rq, r7, r7'⟩ := fin p c5 (by omega) o5
      refine ⟨p, x7 - q, ?_, b12, by omega⟩
      refine cw (keepF Try.f17) Try.f17 true ?_
      repeat' first | refine ck_intro (by first | exact k0 | exact k1 | exact k2 | exact k3 | exact k5 | exact k7 | exact k8 | exact kp1 | exact kp2) ?_ ?_ | refine g3 @hap @hw @hq ?_ | refine d3 @hap @hw @hq ?_ | refine j3 @hap @hw @hq (fun hg hgo => ?_) fun hg hgo => ?_ | refine ek_ret ?_ | refine ek_norm ?_ | refine ⟨by omega, ?_⟩ | rfl | trivial | intro _
    | true =>
      obtain ⟨y, c6, k6, hy, o6⟩ := x_l1PickInt c5 [127, 255, 0, 1] o5 (by simp) (by simp)
      have hy2 : 0 ≤ y ∧ y ≤ 255 := by simp only [List.mem_cons, List.not_mem_nil, or_false] at hy; omega
      have hyw : IntKind.wrap .u8 y = y := wrapB hy2.1 hy2.2
      obtain ⟨x7, q, x8, c7, c8, k7, k8, hq, rq, r7, r7'⟩ := fin [255, 255, 255, 255, 255, 255, 255, 255, y, 1] c6 (by simp) o6
      refine ⟨[255, 255, 255, 255, 255, 255, 255, 255, y, 1], x7 - q, ?_, fun x hx => by simp at hx; omega, by simp⟩
      refine cw (keepF Try.f17) Try.f17 true ?_
      repeat' first | refine ck_intro (by first | exact k0 | exact k1 | exact k2 | exact k3 | exact k5 | exact k6 | exact k7 | exact k8 | exact kp1 | exact kp2) ?_ ?_ | refine g4 @hap @hw @hq @hyw ?_ | refine d4 @hap @hw @hq @hyw ?_ | refine j4 @hap @hw @hq @hyw (fun hg hgo => ?_) fun hg hgo => ?_ | refine ek_ret ?_ | refine ek_norm ?_ | refine ⟨by omega, ?_⟩ | rfl | trivial | intro _
  | true =>
    obtain ⟨z, c4, k4, r4, o4⟩ := x_l1Byte c3 o3
    have hzw : IntKind.wrap .u8 z = z := wrapB r4.1 r4.2
    have hz3 : bys p ++ [.fv (.int .u8 128), .fv (.int .u8 128), .fv (.int .u8 z)] = bys (p ++ [128, 128, z]) := by unfold bys; simp
    obtain ⟨b5, c5, k5, o5⟩ := x_l1Once c4 12 o4 (by decide)
    have hl3 : (p ++ [128, 128, z]).length ≤ 23 := by simp; omega
    have bz3 : ∀ x ∈ p ++ [128, 128, z], 0 ≤ x ∧ x < 256 := fun x hx => by
      rcases List.mem_append.1 hx with hx | hx
      · exact b12 x hx
      · simp at hx; omega
    generalize p ++ [128, 128, z] = p3 at hz3 hl3 bz3
    cases b5 with
    | false =>
      obtain ⟨x7, q, x8, c7, c8, k7, k8, hq, rq, r7, r7'⟩ := fin p3 c5 (by omega) o5
      refine ⟨p3, x7 - q, ?_, bz3, by omega⟩
      refine cw (keepF Try.f17) Try.f17 true ?_
      repeat' first | refine ck_intro (by first | exact k0 | exact k1 | exact k2 | exact k3 | exact k4 | exact k5 | exact k7 | exact k8 | exact kp1 | exact kp2) ?_ ?_ | refine g5 @hap @hw @hq @hzw @hz3 ?_ | refine d5 @hap @hw @hq @hzw @hz3 ?_ | refine j5 @hap @hw @hq @hzw @hz3 (fun hg hgo => ?_) fun hg hgo => ?_ | refine ek_ret ?_ | refine ek_norm ?_ | refine ⟨by omega, ?_⟩ | rfl | trivial | intro _
    | true =>
      obtain ⟨y, c6, k6, hy, o6⟩ := x_l1PickInt c5 [127, 255, 0, 1] o5 (by simp) (by simp)
      have hy2 : 0 ≤ y ∧ y ≤ 255 := by simp only [List.mem_cons, List.not_mem_nil, or_false] at hy; omega
      have hyw : IntKind.wrap .u8 y = y := wrapB hy2.1 hy2.2
      obtain ⟨x7, q, x8, c7, c8, k7, k8, hq, rq, r7, r7'⟩ := fin [255, 255, 255, 255, 255, 255, 255, 255, y, 1] c6 (by simp) o6
      refine ⟨[255, 255, 255, 255, 255, 255, 255, 255, y, 1], x7 - q, ?_, fun x hx => by simp at hx; omega, by simp⟩
      refine cw (keepF Try.f17) Try.f17 true ?_
      repeat' first | refine ck_intro (by first | exact k0 | exact k1 | exact k2 | exact k3 | exact k4 | exact k5 | exact k6 | exact k7 | exact k8 | exact kp1 | exact kp2) ?_ ?_ | refine g6 @hap @hw @hq @hzw @hz3 @hyw ?_ | refine d6 @hap @hw @hq @hzw @hz3 @hyw ?_ | refine j6 @hap @hw @hq @hzw @hz3 @hyw (fun hg hgo => ?_) fun hg hgo => ?_ | refine ek_ret ?_ | refine ek_norm ?_ | refine ⟨by omega, ?_⟩ | rfl | trivial | intro _
theorem kn_row {z : Nat} {l : List FV} : knP (.fv (.row z l)) = (l ≠ []) := by unfold knP; rfl
theorem v_UnpackNum_nil : C2 CC F_impl_UnpackNum [.fv .nil, iv 0] (.tup [iv 0, iv 0, bv false]) [] := by
  refine cw (keepF Try.f16) Try.f16 false ?_
  repeat' first | refine ck_intro (by first | exact v_in _ _ _) ?_ ?_ | refine pw_unroll ?_ | refine g0 ?_ | refine d0 ?_ | refine j0 (fun hg hgo => ?_) fun hg hgo => ?_ | refine ek_ret ?_ | refine ek_norm ?_ | refine ⟨by omega, ?_⟩ | rfl | trivial | intro _
theorem v_FnNumBytes (l : List Int) (hb : ∀ x ∈ l, 0 ≤ x ∧ x < 256) (hl : l.length ≤ 9223372036854775807) : C2 CC F_laws_FnNumBytes [.fv (.row 1 (l.map (.int .u8)))] (bv true) [] := by
  have kb := v_big l
  cases hbig : decide ((l.length : Int) > 1048576) with
  | true =>
    rw [hbig] at kb
    refine cw (keepF Try.f3) Try.f3 false ?_
    repeat' first | refine ck_intro (by first | exact kb) ?_ ?_ | refine pdx 22 [0, 1, 0, 4, 12, 31] [0, 2, 0, 6, 1, 0] ?_ | refine pdx 80 [0, 1, 3, 7, 15, 31, 63, 127, 255, 511, 1023, 2047, 4095, 8191, 8191, 32767, 65535, 131071, 262143, 524287, 1048575, 262143, 262143, 262143, 14942207, 31719423, 67108863, 134217727, 268435455, 536870911] [0, 0, 0, 0, 0, 0, 0, 0, 0, 0, 0, 0, 0, 0, 0, 0, 0, 0, 0, 6, 1, 0, 0, 0, 0, 2, 0, 0, 0, 0] ?_ | refine g0 ?_ | refine d0 ?_ | refine j0 (fun hg hgo => ?_) fun hg hgo => ?_ | refine ek_ret ?_ | refine ek_norm ?_ | refine ⟨by omega, ?_⟩ | rfl | trivial | intro _
  | false =>
    rw [hbig] at kb
    rw [decide_eq_false_iff_not] at hbig
    have ok : BytesOk l := ⟨hb, by omega⟩
    obtain ⟨x, kx, hx⟩ := x_DrawPackNum l ok
    obtain ⟨raw, k, kr, hrb, hrl⟩ := x_DrawUnpackNum l ok
    have ku := v_UnpackNum raw k hrb (by omega)
    have ks := v_UnpackNum_spec raw k hrb (by omega)
    have bnn : ∀ b : Bool, (b != b) = false := fun b => by cases b <;> rfl
    have inn : ∀ n : Int, (n != n) = false := fun n => by simp
    have sn := @str_neq Γ E
    have se := @str_eql Γ E
    rcases pack_unpack (at_ := k) hrb with hu | ⟨z, A, q, rfl, hu, hq, hAq, hz, hzp⟩
    · rw [hu] at ku ks
      cases hn : numOk x with
      | false =>
        have i1 := v_PackNum_no x hn
        have s1 := v_PackNum_spec_no x hn
        have hbn : byD [] = some [] := rfl
        refine cw (keepF Try.f3) Try.f3 false ?_
        repeat' first | refine ck_intro (by first | exact kb | exact kx | exact kr | exact ku | exact ks | exact i1 | exact s1 | exact v_UnpackNum_nil) ?_ ?_ | refine pdx 22 [0, 1, 0, 4, 12, 31] [0, 2, 0, 6, 1, 0] ?_ | refine pdx 80 [0, 1, 3, 7, 15, 31, 63, 127, 255, 511, 1023, 2047, 4095, 8191, 8191, 32767, 65535, 131071, 262143, 524287, 1048575, 262143, 262143, 262143, 14942207, 31719423, 67108863, 134217727, 268435455, 536870911] [0, 0, 0, 0, 0, 0, 0, 0, 0, 0, 0, 0, 0, 0, 0, 0, 0, 0, 0, 6, 1, 0, 0, 0, 0, 2, 0, 0, 0, 0] ?_ | refine g5 @bnn @inn @sn @hbn @txI_nil ?_ | refine d5 @bnn @inn @sn @hbn @txI_nil ?_ | refine j5 @bnn @inn @sn @hbn @txI_nil (fun hg hgo => ?_) fun hg hgo => ?_ | refine ek_ret ?_ | refine ek_norm ?_ | refine ⟨by omega, ?_⟩ | rfl | trivial | intro _
      | true =>
        have i1 := v_PackNum x hn
        have s1 := v_PackNum_spec x hn
        obtain ⟨pl, pp, pb⟩ := packI_ok hn
        have u1 := v_UnpackNum (packI x) 0 pb (by omega)
        rw [unpack_pack hn] at u1
        have hpos : decide (((packI x).length : Int) > 0) = true := by rw [decide_eq_true_eq]; omega
        refine cw (keepF Try.f3) Try.f3 false ?_
        repeat' first | refine ck_intro (by first | exact kb | exact kx | exact kr | exact ku | exact ks | exact i1 | exact s1 | exact u1) ?_ ?_ | refine pdx 22 [0, 1, 0, 4, 12, 31] [0, 2, 0, 6, 1, 0] ?_ | refine pdx 80 [0, 1, 3, 7, 15, 31, 63, 127, 255, 511, 1023, 2047, 4095, 8191, 8191, 32767, 65535, 131071, 262143, 524287, 1048575, 262143, 262143, 262143, 14942207, 31719423, 67108863, 134217727, 268435455, 536870911] [0, 0, 0, 0, 0, 0, 0, 0, 0, 0, 0, 0, 0, 0, 0, 0, 0, 0, 0, 6, 1, 0, 0, 0, 0, 2, 0, 0, 0, 0] ?_ | refine g5 @bnn @inn @sn @byD_bys @hpos ?_ | refine d5 @bnn @inn @sn @byD_bys @hpos ?_ | refine j5 @bnn @inn @sn @byD_bys @hpos (fun hg hgo => ?_) fun hg hgo => ?_ | refine ek_ret ?_ | refine ek_norm ?_ | refine ⟨by omega, ?_⟩ | rfl | trivial | intro _
    · rw [hu] at ku ks
      have iz := v_PackNum z hz
      obtain ⟨zl, zp, zb⟩ := packI_ok hz
      have hgt : decide (((A + q : Nat) : Int) > (A : Int)) = true := by rw [decide_eq_true_eq]; omega
      have hsl : List.take (A + q - A) (List.drop A (raw.map (FV.int .u8))) = (packI z).map (FV.int .u8) := by
        rw [hzp, ← List.map_drop, ← List.map_take, Nat.add_sub_cancel_left]
      have hne : ¬ ((packI z).map (FV.int .u8) = []) := fun e => by have := congrArg List.length e; rw [List.length_map, List.length_nil] at this; omega
      have hle : A ≤ A + q := by omega
      have h0A : (0 : Int) ≤ (A : Int) := by omega
      have h0q : (0 : Int) ≤ ((A + q : Nat) : Int) := by omega
      have hAq2 : A + q ≤ (raw.map (FV.int .u8)).length := by rw [List.length_map]; exact hAq
      cases hn : numOk x with
      | false =>
        have i1 := v_PackNum_no x hn
        have s1 := v_PackNum_spec_no x hn
        have hbn : byD [] = some [] := rfl
        refine cw (keepF Try.f3) Try.f3 false ?_
        repeat' first | refine ck_intro (by first | exact kb | exact kx | exact kr | exact ku | exact ks | exact i1 | exact s1 | exact v_UnpackNum_nil | exact iz) ?_ ?_ | refine pdx 22 [0, 1, 0, 4, 12, 31] [0, 2, 0, 6, 1, 0] ?_ | refine pdx 80 [0, 1, 3, 7, 15, 31, 63, 127, 255, 511, 1023, 2047, 4095, 8191, 8191, 32767, 65535, 131071, 262143, 524287, 1048575, 262143, 262143, 262143, 14942207, 31719423, 67108863, 134217727, 268435455, 536870911] [0, 0, 0, 0, 0, 0, 0, 0, 0, 0, 0, 0, 0, 0, 0, 0, 0, 0, 0, 6, 1, 0, 0, 0, 0, 2, 0, 0, 0, 0] ?_ | refine g17 @bnn @inn @sn @se @hbn @txI_nil @byD_bys @byD_row @hgt @hsl @hne @hle @hAq @h0A @h0q @hAq2 @kn_row ?_ | refine d17 @bnn @inn @sn @se @hbn @txI_nil @byD_bys @byD_row @hgt @hsl @hne @hle @hAq @h0A @h0q @hAq2 @kn_row ?_ | refine j17 @bnn @inn @sn @se @hbn @txI_nil @byD_bys @byD_row @hgt @hsl @hne @hle @hAq @h0A @h0q @hAq2 @kn_row (fun hg hgo => ?_) fun hg hgo => ?_ | refine ek_ret ?_ | refine ek_norm ?_ | refine ⟨by omega, ?_⟩ | rfl | trivial | intro _
      | true =>
        have i1 := v_PackNum x hn
        have s1 := v_PackNum_spec x hn
        obtain ⟨pl, pp, pb⟩ := packI_ok hn
        have u1 := v_UnpackNum (packI x) 0 pb (by omega)
        rw [unpack_pack hn] at u1
        have hpos : decide (((packI x).length : Int) > 0) = true := by rw [decide_eq_true_eq]; omega
        refine cw (keepF Try.f3) Try.f3 false ?_
        repeat' first | refine ck_intro (by first | exact kb | exact kx | exact kr | exact ku | exact ks | exact i1 | exact s1 | exact u1 | exact iz) ?_ ?_ | refine pdx 22 [0, 1, 0, 4, 12, 31] [0, 2, 0, 6, 1, 0] ?_ | refine pdx 80 [0, 1, 3, 7, 15, 31, 63, 127, 255, 511, 1023, 2047, 4095, 8191, 8191, 32767, 65535, 131071, 262143, 524287, 1048575, 262143, 262143, 262143, 14942207, 31719423, 67108863, 134217727, 268435455, 536870911] [0, 0, 0, 0, 0, 0, 0, 0, 0, 0, 0, 0, 0, 0, 0, 0, 0, 0, 0, 6, 1, 0, 0, 0, 0, 2, 0, 0, 0, 0] ?_ | refine g16 @bnn @inn @sn @se @byD_bys @byD_row @hpos @hgt @hsl @hne @hle @hAq @h0A @h0q @hAq2 @kn_row ?_ | refine d16 @bnn @inn @sn @se @byD_bys @byD_row @hpos @hgt @hsl @hne @hle @hAq @h0A @h0q @hAq2 @kn_row ?_ | refine j16 @bnn @inn @sn @se @byD_bys @byD_row @hpos @hgt @hsl @hne @hle @hAq @h0A @h0q @hAq2 @kn_row (fun hg hgo => ?_) fun hg hgo => ?_ | refine ek_ret ?_ | refine ek_norm ?_ | refine ⟨by omega, ?_⟩ | rfl | trivial | intro _

theorem maxLen_eq7 : maxLen = 9223372036854775807 := by decide
theorem u8_wf {n : Int} (h : (Lit.int .u8 n).wf = true) : 0 ≤ n ∧ n < 256 := by
  simp [Lit.wf, IntKind.min, IntKind.max, IntKind.signed, IntKind.bits] at h; omega
theorem ty_bytes {Γ : TypeId → Option TI} {g : Nat} {t e : TypeId} {v : FV} {a b : Nat} {a' b' : Nat} {z z' : List Value} (hv : TyF Γ g t v) (ht : Γ t = some ⟨.slice e, a, b, z⟩) (he : Γ e = some ⟨.int .u8, a', b', z'⟩) (h1 : a' = 1) : ∃ l : List Int, v = .row 1 (l.map (.int .u8)) ∧ (∀ x ∈ l, 0 ≤ x ∧ x < 256) ∧ l.length ≤ 9223372036854775807 := by
  subst h1
  obtain ⟨l, rfl, q, m⟩ := tyF_row (f := FV.int .u8) (P := fun n => 0 ≤ n ∧ n < 256) hv ht he (fun g x hx => by obtain ⟨n, rfl, hw⟩ := tyF_int hx he; exact ⟨n, rfl, u8_wf hw⟩)
  exact ⟨l, rfl, q, by rw [maxLen_eq7] at m; exact m⟩
end Go.Proofs.YtgbaininmgdnoaaM
