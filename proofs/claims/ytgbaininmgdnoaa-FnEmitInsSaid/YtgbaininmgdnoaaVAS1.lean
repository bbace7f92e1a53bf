import Derived.Test.YtgbaininmgdnoaaVAV
import Derived.Test.YtgbaininmgdnoaaVAMvm
namespace Go.Proofs.YtgbaininmgdnoaaM
open Go
open Int renaming cast_ofNat_Int → Q0, reduceLT → Q1, reduceLE → Q2, reduceGT → Q3, reduceGE → Q4, reduceEq → Q5, reduceBEq → Q6, reduceAdd → Q7, reduceSub → Q8, reduceToNat → Q9
open Nat renaming reduceShiftRight → Z0, reduceMod → Z1, reduceLT → Z2, reduceEqDiff → Z3, reduceAdd → Z4, reduceMul → Z5, reduceLeDiff → Z6, reduceBEq → Z7
open List renaming getElem?_eq_getElem → L0, length_map → L1, length_cons → L2, length_nil → L3
open Bool renaming and_eq_true → B0, or_eq_false_iff → B1, or_eq_true → B2, and_eq_false_iff → B3, not_eq_true' → B4, not_eq_false' → B5
set_option linter.unusedVariables false
set_option linter.unusedSimpArgs false
set_option maxRecDepth 100000
set_option maxHeartbeats 4000000
attribute [local irreducible] PW CK EK C2 PXM XK LX axK rdK thK blK FK SK LK AK GK CD unK TT keK
def MU (f : FuncId) (i : Nat) : Nat := match f with
  | 16 => (if i = 0 then 1 else 0)
  | 18 => (if i = 0 then 1 else 0)
  | 21 => 1
  | 26 => (if i = 0 then 1 else (if i = 1 then 1 else 0))
  | 29 => (if i = 0 then 1 else (if i = 1 then 1 else 0))
  | 30 => 1
  | 31 => 1
  | 32 => (if i = 0 then 2 else 0)
  | 33 => (if i = 0 then 2 else 0)
  | 34 => (if i = 0 then 1 else 0)
  | 36 => 1
  | 38 => 1
  | 39 => 1
  | 40 => 1
  | 41 => (if i = 0 then 2 else 0)
  | 42 => (if i = 0 then 2 else 0)
  | 43 => (if i = 0 then 1 else 0)
  | 44 => 1
  | 45 => 1
  | 46 => 1
  | 48 => 1
  | 49 => (if i = 0 then 1 else 0)
  | 50 => (if i = 0 then 1 else 0)
  | 51 => (if i = 0 then 1 else 0)
  | 53 => 1
  | 55 => (if i = 0 then 1 else 0)
  | 56 => (if i = 0 then 1 else 0)
  | 58 => (if i = 0 then 2 else 0)
  | 59 => (if i = 0 then 2 else 0)
  | 60 => 2
  | 63 => (if i = 0 then 2 else 0)
  | 64 => 2
  | 65 => 2
  | 75 => (if i = 0 then 2 else 0)
  | 81 => 1
  | 84 => (if i = 0 then 2 else 0)
  | 86 => 1
  | 91 => 1
  | 94 => 1
  | 95 => (if i = 0 then 2 else (if i = 1 then 1 else 0))
  | 97 => (if i = 0 then 2 else 0)
  | 98 => 2
  | 100 => 2
  | 101 => 2
  | 102 => 2
  | 103 => (if i = 0 then 2 else 0)
  | 104 => 2
  | 108 => 1
  | 109 => 2
  | 110 => 1
  | 111 => 2
  | 113 => 1
  | 140 => (if i = 0 then 2 else 0)
  | 141 => (if i = 0 then 2 else 0)
  | 146 => 1
  | 149 => (if i = 3 then 1 else 0)
  | 150 => 1
  | 152 => (if i = 2 then 1 else 0)
  | 155 => 1
  | 156 => 1
  | 157 => 2
  | 158 => 2
  | 159 => (if i = 0 then 2 else 0)
  | 160 => (if i = 0 then 2 else 0)
  | 161 => (if i = 0 then 2 else 0)
  | 181 => (if i = 0 then 2 else 0)
  | 194 => (if i = 2 then 1 else 0)
  | 197 => 1
  | 202 => 1
  | 203 => (if i = 0 then 2 else 0)
  | 204 => (if i = 0 then 2 else 0)
  | 205 => (if i = 0 then 2 else 0)
  | 206 => (if i = 0 then 2 else 0)
  | 219 => (if i = 2 then 1 else 0)
  | _ => 0
@[go_sem] theorem mu_12 {i : Nat} : MU 12 i = 0 := nr rfl
@[go_sem] theorem mu_19 {i : Nat} : MU 19 i = 0 := nr rfl
@[go_sem] theorem mu_20 {i : Nat} : MU 20 i = 0 := nr rfl
@[go_sem] theorem mu_21 {i : Nat} : MU 21 i = 1 := nr rfl
@[go_sem] theorem mu_22 {i : Nat} : MU 22 i = 0 := nr rfl
@[go_sem] theorem mu_23 {i : Nat} : MU 23 i = 0 := nr rfl
@[go_sem] theorem mu_24 {i : Nat} : MU 24 i = 0 := nr rfl
@[go_sem] theorem mu_57 {i : Nat} : MU 57 i = 0 := nr rfl
@[go_sem] theorem mu_58 {i : Nat} : MU 58 i = (if i = 0 then 2 else 0) := nr rfl
@[go_sem] theorem mu_59 {i : Nat} : MU 59 i = (if i = 0 then 2 else 0) := nr rfl
@[go_sem] theorem mu_61 {i : Nat} : MU 61 i = 0 := nr rfl
@[go_sem] theorem mu_62 {i : Nat} : MU 62 i = 0 := nr rfl
@[go_sem] theorem mu_63 {i : Nat} : MU 63 i = (if i = 0 then 2 else 0) := nr rfl
@[go_sem] theorem mu_64 {i : Nat} : MU 64 i = 2 := nr rfl
@[go_sem] theorem mu_65 {i : Nat} : MU 65 i = 2 := nr rfl
@[go_sem] theorem mu_66 {i : Nat} : MU 66 i = 0 := nr rfl
@[go_sem] theorem mu_67 {i : Nat} : MU 67 i = 0 := nr rfl
@[go_sem] theorem mu_68 {i : Nat} : MU 68 i = 0 := nr rfl
@[go_sem] theorem mu_69 {i : Nat} : MU 69 i = 0 := nr rfl
@[go_sem] theorem mu_70 {i : Nat} : MU 70 i = 0 := nr rfl
@[go_sem] theorem mu_71 {i : Nat} : MU 71 i = 0 := nr rfl
@[go_sem] theorem mu_72 {i : Nat} : MU 72 i = 0 := nr rfl
@[go_sem] theorem mu_73 {i : Nat} : MU 73 i = 0 := nr rfl
@[go_sem] theorem mu_74 {i : Nat} : MU 74 i = 0 := nr rfl
@[go_sem] theorem mu_75 {i : Nat} : MU 75 i = (if i = 0 then 2 else 0) := nr rfl
@[go_sem] theorem mu_76 {i : Nat} : MU 76 i = 0 := nr rfl
@[go_sem] theorem mu_77 {i : Nat} : MU 77 i = 0 := nr rfl
@[go_sem] theorem mu_78 {i : Nat} : MU 78 i = 0 := nr rfl
@[go_sem] theorem mu_79 {i : Nat} : MU 79 i = 0 := nr rfl
@[go_sem] theorem mu_80 {i : Nat} : MU 80 i = 0 := nr rfl
@[go_sem] theorem mu_114 {i : Nat} : MU 114 i = 0 := nr rfl
@[go_sem] theorem mu_115 {i : Nat} : MU 115 i = 0 := nr rfl
@[go_sem] theorem mu_116 {i : Nat} : MU 116 i = 0 := nr rfl
@[go_sem] theorem mu_117 {i : Nat} : MU 117 i = 0 := nr rfl
theorem beqD {a b : Int} : (a == b) = decide (a = b) := by rw [Bool.eq_iff_iff]; simp
abbrev iv (n : Int) : DV := .fv (.int .i64 n)
abbrev bv (b : Bool) : DV := .fv (.bool b)
def I64 (n : Int) : Prop := -9223372036854775808 ≤ n ∧ n ≤ 9223372036854775807
theorem g0 { P Q : Prop} (h : Q) (e : P = Q := by simp (maxSteps := 1000000) only [go_sem, Int.cast_ofNat_Int, Int.reduceLT, Int.reduceLE, Int.reduceGT, Int.reduceGE, Int.reduceEq, Int.reduceBEq, Int.reduceAdd, Int.reduceSub, Int.reduceToNat, Nat.reduceShiftRight, Nat.reduceMod, Nat.reduceLT, Nat.reduceEqDiff, Nat.reduceAdd, Nat.reduceMul, Nat.reduceLeDiff, Nat.reduceBEq, reduceIte, List.getElem_map]; first | done | rfl) : P := (e).mpr h
theorem d0 { P Q : Prop} (h : Q) (e : P = Q := by simp (disch := first | omega | assumption) only [wrapI, ia3_hdrN, ia3_rowN, ia3_hdrI, ia3_rowI, List.getElem?_eq_getElem, List.length_map, List.length_cons, List.length_nil, List.getElem_map]; first | done | rfl) : P := (e).mpr h
theorem j0 {b : Bool} {B C D E R T : Prop} (h1 : b = true → R → D) (h2 : b = false → T → E) (r1 : b = true → R := by intro hg; (try simp only [Bool.and_eq_true, Bool.or_eq_false_iff, Bool.or_eq_true, Bool.and_eq_false_iff, Bool.not_eq_true', Bool.not_eq_false', decide_eq_true_eq, decide_eq_false_iff_not, beqT, beqF, bneT, bneF] at hg); exact hg) (r2 : b = false → T := by intro hg; (try simp only [Bool.and_eq_true, Bool.or_eq_false_iff, Bool.or_eq_true, Bool.and_eq_false_iff, Bool.not_eq_true', Bool.not_eq_false', decide_eq_true_eq, decide_eq_false_iff_not, beqT, beqF, bneT, bneF] at hg); exact hg) (e1 : b = true → B = D := by intro hg; (try simp (disch := first | omega | assumption) only [wrapI, ia3_hdrN, ia3_rowN, ia3_hdrI, ia3_rowI, List.getElem?_eq_getElem, List.length_map, List.length_cons, List.length_nil, List.getElem_map]); (try simp only [hg]); (first | simp only [eq_true (beq_iff_eq.1 hg)] | simp only [eq_false (beq_eq_false_iff_ne.1 hg)] | simp only [eq_true (of_decide_eq_true hg)] | simp only [eq_false (of_decide_eq_false hg)] | skip); (first | done | rfl)) (e2 : b = false → C = E := by intro hg; (try simp (disch := first | omega | assumption) only [wrapI, ia3_hdrN, ia3_rowN, ia3_hdrI, ia3_rowI, List.getElem?_eq_getElem, List.length_map, List.length_cons, List.length_nil, List.getElem_map]); (try simp only [hg]); (first | simp only [eq_true (beq_iff_eq.1 hg)] | simp only [eq_false (beq_eq_false_iff_ne.1 hg)] | simp only [eq_true (of_decide_eq_true hg)] | simp only [eq_false (of_decide_eq_false hg)] | skip); (first | done | rfl)) : TT b B C .mk .mk := tt_i (fun g => (e1 (tb_eq g)).mpr (h1 (tb_eq g) (r1 (tb_eq g)))) fun g => (e2 (tb_eq g)).mpr (h2 (tb_eq g) (r2 (tb_eq g)))
theorem g1 {A0 P Q : Prop} (a0 : A0) (h : Q) (e : A0 → P = Q := by intro a0; simp (maxSteps := 1000000) only [go_sem, Int.cast_ofNat_Int, Int.reduceLT, Int.reduceLE, Int.reduceGT, Int.reduceGE, Int.reduceEq, Int.reduceBEq, Int.reduceAdd, Int.reduceSub, Int.reduceToNat, Nat.reduceShiftRight, Nat.reduceMod, Nat.reduceLT, Nat.reduceEqDiff, Nat.reduceAdd, Nat.reduceMul, Nat.reduceLeDiff, Nat.reduceBEq, reduceIte, List.getElem_map, a0]; first | done | rfl) : P := (e a0).mpr h
theorem d1 {A0 P Q : Prop} (a0 : A0) (h : Q) (e : A0 → P = Q := by intro a0; simp (disch := first | omega | assumption) only [wrapI, ia3_hdrN, ia3_rowN, ia3_hdrI, ia3_rowI, List.getElem?_eq_getElem, List.length_map, List.length_cons, List.length_nil, List.getElem_map, a0]; first | done | rfl) : P := (e a0).mpr h
theorem j1 {b : Bool} {A0 B C D E R T : Prop} (a0 : A0) (h1 : b = true → R → D) (h2 : b = false → T → E) (r1 : b = true → R := by intro hg; (try simp only [Bool.and_eq_true, Bool.or_eq_false_iff, Bool.or_eq_true, Bool.and_eq_false_iff, Bool.not_eq_true', Bool.not_eq_false', decide_eq_true_eq, decide_eq_false_iff_not, beqT, beqF, bneT, bneF] at hg); exact hg) (r2 : b = false → T := by intro hg; (try simp only [Bool.and_eq_true, Bool.or_eq_false_iff, Bool.or_eq_true, Bool.and_eq_false_iff, Bool.not_eq_true', Bool.not_eq_false', decide_eq_true_eq, decide_eq_false_iff_not, beqT, beqF, bneT, bneF] at hg); exact hg) (e1 : A0 → b = true → B = D := by intro a0; intro hg; (try simp (disch := first | omega | assumption) only [wrapI, ia3_hdrN, ia3_rowN, ia3_hdrI, ia3_rowI, List.getElem?_eq_getElem, List.length_map, List.length_cons, List.length_nil, List.getElem_map, a0]); (try simp only [hg]); (first | simp only [eq_true (beq_iff_eq.1 hg)] | simp only [eq_false (beq_eq_false_iff_ne.1 hg)] | simp only [eq_true (of_decide_eq_true hg)] | simp only [eq_false (of_decide_eq_false hg)] | skip); (first | done | rfl)) (e2 : A0 → b = false → C = E := by intro a0; intro hg; (try simp (disch := first | omega | assumption) only [wrapI, ia3_hdrN, ia3_rowN, ia3_hdrI, ia3_rowI, List.getElem?_eq_getElem, List.length_map, List.length_cons, List.length_nil, List.getElem_map, a0]); (try simp only [hg]); (first | simp only [eq_true (beq_iff_eq.1 hg)] | simp only [eq_false (beq_eq_false_iff_ne.1 hg)] | simp only [eq_true (of_decide_eq_true hg)] | simp only [eq_false (of_decide_eq_false hg)] | skip); (first | done | rfl)) : TT b B C .mk .mk := tt_i (fun g => (e1 a0 (tb_eq g)).mpr (h1 (tb_eq g) (r1 (tb_eq g)))) fun g => (e2 a0 (tb_eq g)).mpr (h2 (tb_eq g) (r2 (tb_eq g)))
theorem g2 {A0 A1 P Q : Prop} (a0 : A0) (a1 : A1) (h : Q) (e : A0 → A1 → P = Q := by intro a0 a1; simp (maxSteps := 1000000) only [go_sem, Int.cast_ofNat_Int, Int.reduceLT, Int.reduceLE, Int.reduceGT, Int.reduceGE, Int.reduceEq, Int.reduceBEq, Int.reduceAdd, Int.reduceSub, Int.reduceToNat, Nat.reduceShiftRight, Nat.reduceMod, Nat.reduceLT, Nat.reduceEqDiff, Nat.reduceAdd, Nat.reduceMul, Nat.reduceLeDiff, Nat.reduceBEq, reduceIte, List.getElem_map, a0, a1]; first | done | rfl) : P := (e a0 a1).mpr h
theorem d2 {A0 A1 P Q : Prop} (a0 : A0) (a1 : A1) (h : Q) (e : A0 → A1 → P = Q := by intro a0 a1; simp (disch := first | omega | assumption) only [wrapI, ia3_hdrN, ia3_rowN, ia3_hdrI, ia3_rowI, List.getElem?_eq_getElem, List.length_map, List.length_cons, List.length_nil, List.getElem_map, a0, a1]; first | done | rfl) : P := (e a0 a1).mpr h
theorem j2 {b : Bool} {A0 A1 B C D E R T : Prop} (a0 : A0) (a1 : A1) (h1 : b = true → R → D) (h2 : b = false → T → E) (r1 : b = true → R := by intro hg; (try simp only [Bool.and_eq_true, Bool.or_eq_false_iff, Bool.or_eq_true, Bool.and_eq_false_iff, Bool.not_eq_true', Bool.not_eq_false', decide_eq_true_eq, decide_eq_false_iff_not, beqT, beqF, bneT, bneF] at hg); exact hg) (r2 : b = false → T := by intro hg; (try simp only [Bool.and_eq_true, Bool.or_eq_false_iff, Bool.or_eq_true, Bool.and_eq_false_iff, Bool.not_eq_true', Bool.not_eq_false', decide_eq_true_eq, decide_eq_false_iff_not, beqT, beqF, bneT, bneF] at hg); exact hg) (e1 : A0 → A1 → b = true → B = D := by intro a0 a1; intro hg; (try simp (disch := first | omega | assumption) only [wrapI, ia3_hdrN, ia3_rowN, ia3_hdrI, ia3_rowI, List.getElem?_eq_getElem, List.length_map, List.length_cons, List.length_nil, List.getElem_map, a0, a1]); (try simp only [hg]); (first | simp only [eq_true (beq_iff_eq.1 hg)] | simp only [eq_false (beq_eq_false_iff_ne.1 hg)] | simp only [eq_true (of_decide_eq_true hg)] | simp only [eq_false (of_decide_eq_false hg)] | skip); (first | done | rfl)) (e2 : A0 → A1 → b = false → C = E := by intro a0 a1; intro hg; (try simp (disch := first | omega | assumption) only [wrapI, ia3_hdrN, ia3_rowN, ia3_hdrI, ia3_rowI, List.getElem?_eq_getElem, List.length_map, List.length_cons, List.length_nil, List.getElem_map, a0, a1]); (try simp only [hg]); (first | simp only [eq_true (beq_iff_eq.1 hg)] | simp only [eq_false (beq_eq_false_iff_ne.1 hg)] | simp only [eq_true (of_decide_eq_true hg)] | simp only [eq_false (of_decide_eq_false hg)] | skip); (first | done | rfl)) : TT b B C .mk .mk := tt_i (fun g => (e1 a0 a1 (tb_eq g)).mpr (h1 (tb_eq g) (r1 (tb_eq g)))) fun g => (e2 a0 a1 (tb_eq g)).mpr (h2 (tb_eq g) (r2 (tb_eq g)))
theorem g3 {A0 A1 A2 P Q : Prop} (a0 : A0) (a1 : A1) (a2 : A2) (h : Q) (e : A0 → A1 → A2 → P = Q := by intro a0 a1 a2; simp (maxSteps := 1000000) only [go_sem, Int.cast_ofNat_Int, Int.reduceLT, Int.reduceLE, Int.reduceGT, Int.reduceGE, Int.reduceEq, Int.reduceBEq, Int.reduceAdd, Int.reduceSub, Int.reduceToNat, Nat.reduceShiftRight, Nat.reduceMod, Nat.reduceLT, Nat.reduceEqDiff, Nat.reduceAdd, Nat.reduceMul, Nat.reduceLeDiff, Nat.reduceBEq, reduceIte, List.getElem_map, a0, a1, a2]; first | done | rfl) : P := (e a0 a1 a2).mpr h
theorem d3 {A0 A1 A2 P Q : Prop} (a0 : A0) (a1 : A1) (a2 : A2) (h : Q) (e : A0 → A1 → A2 → P = Q := by intro a0 a1 a2; simp (disch := first | omega | assumption) only [wrapI, ia3_hdrN, ia3_rowN, ia3_hdrI, ia3_rowI, List.getElem?_eq_getElem, List.length_map, List.length_cons, List.length_nil, List.getElem_map, a0, a1, a2]; first | done | rfl) : P := (e a0 a1 a2).mpr h
theorem j3 {b : Bool} {A0 A1 A2 B C D E R T : Prop} (a0 : A0) (a1 : A1) (a2 : A2) (h1 : b = true → R → D) (h2 : b = false → T → E) (r1 : b = true → R := by intro hg; (try simp only [Bool.and_eq_true, Bool.or_eq_false_iff, Bool.or_eq_true, Bool.and_eq_false_iff, Bool.not_eq_true', Bool.not_eq_false', decide_eq_true_eq, decide_eq_false_iff_not, beqT, beqF, bneT, bneF] at hg); exact hg) (r2 : b = false → T := by intro hg; (try simp only [Bool.and_eq_true, Bool.or_eq_false_iff, Bool.or_eq_true, Bool.and_eq_false_iff, Bool.not_eq_true', Bool.not_eq_false', decide_eq_true_eq, decide_eq_false_iff_not, beqT, beqF, bneT, bneF] at hg); exact hg) (e1 : A0 → A1 → A2 → b = true → B = D := by intro a0 a1 a2; intro hg; (try simp (disch := first | omega | assumption) only [wrapI, ia3_hdrN, ia3_rowN, ia3_hdrI, ia3_rowI, List.getElem?_eq_getElem, List.length_map, List.length_cons, List.length_nil, List.getElem_map, a0, a1, a2]); (try simp only [hg]); (first | simp only [eq_true (beq_iff_eq.1 hg)] | simp only [eq_false (beq_eq_false_iff_ne.1 hg)] | simp only [eq_true (of_decide_eq_true hg)] | simp only [eq_false (of_decide_eq_false hg)] | skip); (first | done | rfl)) (e2 : A0 → A1 → A2 → b = false → C = E := by intro a0 a1 a2; intro hg; (try simp (disch := first | omega | assumption) only [wrapI, ia3_hdrN, ia3_rowN, ia3_hdrI, ia3_rowI, List.getElem?_eq_getElem, List.length_map, List.length_cons, List.length_nil, List.getElem_map, a0, a1, a2]); (try simp only [hg]); (first | simp only [eq_true (beq_iff_eq.1 hg)] | simp only [eq_false (beq_eq_false_iff_ne.1 hg)] | simp only [eq_true (of_decide_eq_true hg)] | simp only [eq_false (of_decide_eq_false hg)] | skip); (first | done | rfl)) : TT b B C .mk .mk := tt_i (fun g => (e1 a0 a1 a2 (tb_eq g)).mpr (h1 (tb_eq g) (r1 (tb_eq g)))) fun g => (e2 a0 a1 a2 (tb_eq g)).mpr (h2 (tb_eq g) (r2 (tb_eq g)))
theorem g4 {A0 A1 A2 A3 P Q : Prop} (a0 : A0) (a1 : A1) (a2 : A2) (a3 : A3) (h : Q) (e : A0 → A1 → A2 → A3 → P = Q := by intro a0 a1 a2 a3; simp (maxSteps := 1000000) only [go_sem, Int.cast_ofNat_Int, Int.reduceLT, Int.reduceLE, Int.reduceGT, Int.reduceGE, Int.reduceEq, Int.reduceBEq, Int.reduceAdd, Int.reduceSub, Int.reduceToNat, Nat.reduceShiftRight, Nat.reduceMod, Nat.reduceLT, Nat.reduceEqDiff, Nat.reduceAdd, Nat.reduceMul, Nat.reduceLeDiff, Nat.reduceBEq, reduceIte, List.getElem_map, a0, a1, a2, a3]; first | done | rfl) : P := (e a0 a1 a2 a3).mpr h
theorem d4 {A0 A1 A2 A3 P Q : Prop} (a0 : A0) (a1 : A1) (a2 : A2) (a3 : A3) (h : Q) (e : A0 → A1 → A2 → A3 → P = Q := by intro a0 a1 a2 a3; simp (disch := first | omega | assumption) only [wrapI, ia3_hdrN, ia3_rowN, ia3_hdrI, ia3_rowI, List.getElem?_eq_getElem, List.length_map, List.length_cons, List.length_nil, List.getElem_map, a0, a1, a2, a3]; first | done | rfl) : P := (e a0 a1 a2 a3).mpr h
theorem j4 {b : Bool} {A0 A1 A2 A3 B C D E R T : Prop} (a0 : A0) (a1 : A1) (a2 : A2) (a3 : A3) (h1 : b = true → R → D) (h2 : b = false → T → E) (r1 : b = true → R := by intro hg; (try simp only [Bool.and_eq_true, Bool.or_eq_false_iff, Bool.or_eq_true, Bool.and_eq_false_iff, Bool.not_eq_true', Bool.not_eq_false', decide_eq_true_eq, decide_eq_false_iff_not, beqT, beqF, bneT, bneF] at hg); exact hg) (r2 : b = false → T := by intro hg; (try simp only [Bool.and_eq_true, Bool.or_eq_false_iff, Bool.or_eq_true, Bool.and_eq_false_iff, Bool.not_eq_true', Bool.not_eq_false', decide_eq_true_eq, decide_eq_false_iff_not, beqT, beqF, bneT, bneF] at hg); exact hg) (e1 : A0 → A1 → A2 → A3 → b = true → B = D := by intro a0 a1 a2 a3; intro hg; (try simp (disch := first | omega | assumption) only [wrapI, ia3_hdrN, ia3_rowN, ia3_hdrI, ia3_rowI, List.getElem?_eq_getElem, List.length_map, List.length_cons, List.length_nil, List.getElem_map, a0, a1, a2, a3]); (try simp only [hg]); (first | simp only [eq_true (beq_iff_eq.1 hg)] | simp only [eq_false (beq_eq_false_iff_ne.1 hg)] | simp only [eq_true (of_decide_eq_true hg)] | simp only [eq_false (of_decide_eq_false hg)] | skip); (first | done | rfl)) (e2 : A0 → A1 → A2 → A3 → b = false → C = E := by intro a0 a1 a2 a3; intro hg; (try simp (disch := first | omega | assumption) only [wrapI, ia3_hdrN, ia3_rowN, ia3_hdrI, ia3_rowI, List.getElem?_eq_getElem, List.length_map, List.length_cons, List.length_nil, List.getElem_map, a0, a1, a2, a3]); (try simp only [hg]); (first | simp only [eq_true (beq_iff_eq.1 hg)] | simp only [eq_false (beq_eq_false_iff_ne.1 hg)] | simp only [eq_true (of_decide_eq_true hg)] | simp only [eq_false (of_decide_eq_false hg)] | skip); (first | done | rfl)) : TT b B C .mk .mk := tt_i (fun g => (e1 a0 a1 a2 a3 (tb_eq g)).mpr (h1 (tb_eq g) (r1 (tb_eq g)))) fun g => (e2 a0 a1 a2 a3 (tb_eq g)).mpr (h2 (tb_eq g) (r2 (tb_eq g)))
theorem g5 {A0 A1 A2 A3 A4 P Q : Prop} (a0 : A0) (a1 : A1) (a2 : A2) (a3 : A3) (a4 : A4) (h : Q) (e : A0 → A1 → A2 → A3 → A4 → P = Q := by intro a0 a1 a2 a3 a4; simp (maxSteps := 1000000) only [go_sem, Int.cast_ofNat_Int, Int.reduceLT, Int.reduceLE, Int.reduceGT, Int.reduceGE, Int.reduceEq, Int.reduceBEq, Int.reduceAdd, Int.reduceSub, Int.reduceToNat, Nat.reduceShiftRight, Nat.reduceMod, Nat.reduceLT, Nat.reduceEqDiff, Nat.reduceAdd, Nat.reduceMul, Nat.reduceLeDiff, Nat.reduceBEq, reduceIte, List.getElem_map, a0, a1, a2, a3, a4]; first | done | rfl) : P := (e a0 a1 a2 a3 a4).mpr h
theorem d5 {A0 A1 A2 A3 A4 P Q : Prop} (a0 : A0) (a1 : A1) (a2 : A2) (a3 : A3) (a4 : A4) (h : Q) (e : A0 → A1 → A2 → A3 → A4 → P = Q := by intro a0 a1 a2 a3 a4; simp (disch := first | omega | assumption) only [wrapI, ia3_hdrN, ia3_rowN, ia3_hdrI, ia3_rowI, List.getElem?_eq_getElem, List.length_map, List.length_cons, List.length_nil, List.getElem_map, a0, a1, a2, a3, a4]; first | done | rfl) : P := (e a0 a1 a2 a3 a4).mpr h
theorem j5 {b : Bool} {A0 A1 A2 A3 A4 B C D E R T : Prop} (a0 : A0) (a1 : A1) (a2 : A2) (a3 : A3) (a4 : A4) (h1 : b = true → R → D) (h2 : b = false → T → E) (r1 : b = true → R := by intro hg; (try simp only [Bool.and_eq_true, Bool.or_eq_false_iff, Bool.or_eq_true, Bool.and_eq_false_iff, Bool.not_eq_true', Bool.not_eq_false', decide_eq_true_eq, decide_eq_false_iff_not, beqT, beqF, bneT, bneF] at hg); exact hg) (r2 : b = false → T := by intro hg; (try simp only [Bool.and_eq_true, Bool.or_eq_false_iff, Bool.or_eq_true, Bool.and_eq_false_iff, Bool.not_eq_true', Bool.not_eq_false', decide_eq_true_eq, decide_eq_false_iff_not, beqT, beqF, bneT, bneF] at hg); exact hg) (e1 : A0 → A1 → A2 → A3 → A4 → b = true → B = D := by intro a0 a1 a2 a3 a4; intro hg; (try simp (disch := first | omega | assumption) only [wrapI, ia3_hdrN, ia3_rowN, ia3_hdrI, ia3_rowI, List.getElem?_eq_getElem, List.length_map, List.length_cons, List.length_nil, List.getElem_map, a0, a1, a2, a3, a4]); (try simp only [hg]); (first | simp only [eq_true (beq_iff_eq.1 hg)] | simp only [eq_false (beq_eq_false_iff_ne.1 hg)] | simp only [eq_true (of_decide_eq_true hg)] | simp only [eq_false (of_decide_eq_false hg)] | skip); (first | done | rfl)) (e2 : A0 → A1 → A2 → A3 → A4 → b = false → C = E := by intro a0 a1 a2 a3 a4; intro hg; (try simp (disch := first | omega | assumption) only [wrapI, ia3_hdrN, ia3_rowN, ia3_hdrI, ia3_rowI, List.getElem?_eq_getElem, List.length_map, List.length_cons, List.length_nil, List.getElem_map, a0, a1, a2, a3, a4]); (try simp only [hg]); (first | simp only [eq_true (beq_iff_eq.1 hg)] | simp only [eq_false (beq_eq_false_iff_ne.1 hg)] | simp only [eq_true (of_decide_eq_true hg)] | simp only [eq_false (of_decide_eq_false hg)] | skip); (first | done | rfl)) : TT b B C .mk .mk := tt_i (fun g => (e1 a0 a1 a2 a3 a4 (tb_eq g)).mpr (h1 (tb_eq g) (r1 (tb_eq g)))) fun g => (e2 a0 a1 a2 a3 a4 (tb_eq g)).mpr (h2 (tb_eq g) (r2 (tb_eq g)))
theorem g6 {A0 A1 A2 A3 A4 A5 P Q : Prop} (a0 : A0) (a1 : A1) (a2 : A2) (a3 : A3) (a4 : A4) (a5 : A5) (h : Q) (e : A0 → A1 → A2 → A3 → A4 → A5 → P = Q := by intro a0 a1 a2 a3 a4 a5; simp (maxSteps := 1000000) only [go_sem, Int.cast_ofNat_Int, Int.reduceLT, Int.reduceLE, Int.reduceGT, Int.reduceGE, Int.reduceEq, Int.reduceBEq, Int.reduceAdd, Int.reduceSub, Int.reduceToNat, Nat.reduceShiftRight, Nat.reduceMod, Nat.reduceLT, Nat.reduceEqDiff, Nat.reduceAdd, Nat.reduceMul, Nat.reduceLeDiff, Nat.reduceBEq, reduceIte, List.getElem_map, a0, a1, a2, a3, a4, a5]; first | done | rfl) : P := (e a0 a1 a2 a3 a4 a5).mpr h
theorem d6 {A0 A1 A2 A3 A4 A5 P Q : Prop} (a0 : A0) (a1 : A1) (a2 : A2) (a3 : A3) (a4 : A4) (a5 : A5) (h : Q) (e : A0 → A1 → A2 → A3 → A4 → A5 → P = Q := by intro a0 a1 a2 a3 a4 a5; simp (disch := first | omega | assumption) only [wrapI, ia3_hdrN, ia3_rowN, ia3_hdrI, ia3_rowI, List.getElem?_eq_getElem, List.length_map, List.length_cons, List.length_nil, List.getElem_map, a0, a1, a2, a3, a4, a5]; first | done | rfl) : P := (e a0 a1 a2 a3 a4 a5).mpr h
theorem j6 {b : Bool} {A0 A1 A2 A3 A4 A5 B C D E R T : Prop} (a0 : A0) (a1 : A1) (a2 : A2) (a3 : A3) (a4 : A4) (a5 : A5) (h1 : b = true → R → D) (h2 : b = false → T → E) (r1 : b = true → R := by intro hg; (try simp only [Bool.and_eq_true, Bool.or_eq_false_iff, Bool.or_eq_true, Bool.and_eq_false_iff, Bool.not_eq_true', Bool.not_eq_false', decide_eq_true_eq, decide_eq_false_iff_not, beqT, beqF, bneT, bneF] at hg); exact hg) (r2 : b = false → T := by intro hg; (try simp only [Bool.and_eq_true, Bool.or_eq_false_iff, Bool.or_eq_true, Bool.and_eq_false_iff, Bool.not_eq_true', Bool.not_eq_false', decide_eq_true_eq, decide_eq_false_iff_not, beqT, beqF, bneT, bneF] at hg); exact hg) (e1 : A0 → A1 → A2 → A3 → A4 → A5 → b = true → B = D := by intro a0 a1 a2 a3 a4 a5; intro hg; (try simp (disch := first | omega | assumption) only [wrapI, ia3_hdrN, ia3_rowN, ia3_hdrI, ia3_rowI, List.getElem?_eq_getElem, List.length_map, List.length_cons, List.length_nil, List.getElem_map, a0, a1, a2, a3, a4, a5]); (try simp only [hg]); (first | simp only [eq_true (beq_iff_eq.1 hg)] | simp only [eq_false (beq_eq_false_iff_ne.1 hg)] | simp only [eq_true (of_decide_eq_true hg)] | simp only [eq_false (of_decide_eq_false hg)] | skip); (first | done | rfl)) (e2 : A0 → A1 → A2 → A3 → A4 → A5 → b = false → C = E := by intro a0 a1 a2 a3 a4 a5; intro hg; (try simp (disch := first | omega | assumption) only [wrapI, ia3_hdrN, ia3_rowN, ia3_hdrI, ia3_rowI, List.getElem?_eq_getElem, List.length_map, List.length_cons, List.length_nil, List.getElem_map, a0, a1, a2, a3, a4, a5]); (try simp only [hg]); (first | simp only [eq_true (beq_iff_eq.1 hg)] | simp only [eq_false (beq_eq_false_iff_ne.1 hg)] | simp only [eq_true (of_decide_eq_true hg)] | simp only [eq_false (of_decide_eq_false hg)] | skip); (first | done | rfl)) : TT b B C .mk .mk := tt_i (fun g => (e1 a0 a1 a2 a3 a4 a5 (tb_eq g)).mpr (h1 (tb_eq g) (r1 (tb_eq g)))) fun g => (e2 a0 a1 a2 a3 a4 a5 (tb_eq g)).mpr (h2 (tb_eq g) (r2 (tb_eq g)))
theorem g7 {A0 A1 A2 A3 A4 A5 A6 P Q : Prop} (a0 : A0) (a1 : A1) (a2 : A2) (a3 : A3) (a4 : A4) (a5 : A5) (a6 : A6) (h : Q) (e : A0 → A1 → A2 → A3 → A4 → A5 → A6 → P = Q := by intro a0 a1 a2 a3 a4 a5 a6; simp (maxSteps := 1000000) only [go_sem, Int.cast_ofNat_Int, Int.reduceLT, Int.reduceLE, Int.reduceGT, Int.reduceGE, Int.reduceEq, Int.reduceBEq, Int.reduceAdd, Int.reduceSub, Int.reduceToNat, Nat.reduceShiftRight, Nat.reduceMod, Nat.reduceLT, Nat.reduceEqDiff, Nat.reduceAdd, Nat.reduceMul, Nat.reduceLeDiff, Nat.reduceBEq, reduceIte, List.getElem_map, a0, a1, a2, a3, a4, a5, a6]; first | done | rfl) : P := (e a0 a1 a2 a3 a4 a5 a6).mpr h
theorem d7 {A0 A1 A2 A3 A4 A5 A6 P Q : Prop} (a0 : A0) (a1 : A1) (a2 : A2) (a3 : A3) (a4 : A4) (a5 : A5) (a6 : A6) (h : Q) (e : A0 → A1 → A2 → A3 → A4 → A5 → A6 → P = Q := by intro a0 a1 a2 a3 a4 a5 a6; simp (disch := first | omega | assumption) only [wrapI, ia3_hdrN, ia3_rowN, ia3_hdrI, ia3_rowI, List.getElem?_eq_getElem, List.length_map, List.length_cons, List.length_nil, List.getElem_map, a0, a1, a2, a3, a4, a5, a6]; first | done | rfl) : P := (e a0 a1 a2 a3 a4 a5 a6).mpr h
theorem j7 {b : Bool} {A0 A1 A2 A3 A4 A5 A6 B C D E R T : Prop} (a0 : A0) (a1 : A1) (a2 : A2) (a3 : A3) (a4 : A4) (a5 : A5) (a6 : A6) (h1 : b = true → R → D) (h2 : b = false → T → E) (r1 : b = true → R := by intro hg; (try simp only [Bool.and_eq_true, Bool.or_eq_false_iff, Bool.or_eq_true, Bool.and_eq_false_iff, Bool.not_eq_true', Bool.not_eq_false', decide_eq_true_eq, decide_eq_false_iff_not, beqT, beqF, bneT, bneF] at hg); exact hg) (r2 : b = false → T := by intro hg; (try simp only [Bool.and_eq_true, Bool.or_eq_false_iff, Bool.or_eq_true, Bool.and_eq_false_iff, Bool.not_eq_true', Bool.not_eq_false', decide_eq_true_eq, decide_eq_false_iff_not, beqT, beqF, bneT, bneF] at hg); exact hg) (e1 : A0 → A1 → A2 → A3 → A4 → A5 → A6 → b = true → B = D := by intro a0 a1 a2 a3 a4 a5 a6; intro hg; (try simp (disch := first | omega | assumption) only [wrapI, ia3_hdrN, ia3_rowN, ia3_hdrI, ia3_rowI, List.getElem?_eq_getElem, List.length_map, List.length_cons, List.length_nil, List.getElem_map, a0, a1, a2, a3, a4, a5, a6]); (try simp only [hg]); (first | simp only [eq_true (beq_iff_eq.1 hg)] | simp only [eq_false (beq_eq_false_iff_ne.1 hg)] | simp only [eq_true (of_decide_eq_true hg)] | simp only [eq_false (of_decide_eq_false hg)] | skip); (first | done | rfl)) (e2 : A0 → A1 → A2 → A3 → A4 → A5 → A6 → b = false → C = E := by intro a0 a1 a2 a3 a4 a5 a6; intro hg; (try simp (disch := first | omega | assumption) only [wrapI, ia3_hdrN, ia3_rowN, ia3_hdrI, ia3_rowI, List.getElem?_eq_getElem, List.length_map, List.length_cons, List.length_nil, List.getElem_map, a0, a1, a2, a3, a4, a5, a6]); (try simp only [hg]); (first | simp only [eq_true (beq_iff_eq.1 hg)] | simp only [eq_false (beq_eq_false_iff_ne.1 hg)] | simp only [eq_true (of_decide_eq_true hg)] | simp only [eq_false (of_decide_eq_false hg)] | skip); (first | done | rfl)) : TT b B C .mk .mk := tt_i (fun g => (e1 a0 a1 a2 a3 a4 a5 a6 (tb_eq g)).mpr (h1 (tb_eq g) (r1 (tb_eq g)))) fun g => (e2 a0 a1 a2 a3 a4 a5 a6 (tb_eq g)).mpr (h2 (tb_eq g) (r2 (tb_eq g)))
theorem g8 {A0 A1 A2 A3 A4 A5 A6 A7 P Q : Prop} (a0 : A0) (a1 : A1) (a2 : A2) (a3 : A3) (a4 : A4) (a5 : A5) (a6 : A6) (a7 : A7) (h : Q) (e : A0 → A1 → A2 → A3 → A4 → A5 → A6 → A7 → P = Q := by intro a0 a1 a2 a3 a4 a5 a6 a7; simp (maxSteps := 1000000) only [go_sem, Int.cast_ofNat_Int, Int.reduceLT, Int.reduceLE, Int.reduceGT, Int.reduceGE, Int.reduceEq, Int.reduceBEq, Int.reduceAdd, Int.reduceSub, Int.reduceToNat, Nat.reduceShiftRight, Nat.reduceMod, Nat.reduceLT, Nat.reduceEqDiff, Nat.reduceAdd, Nat.reduceMul, Nat.reduceLeDiff, Nat.reduceBEq, reduceIte, List.getElem_map, a0, a1, a2, a3, a4, a5, a6, a7]; first | done | rfl) : P := (e a0 a1 a2 a3 a4 a5 a6 a7).mpr h
theorem g12 {A0 A1 A2 A3 A4 A5 A6 A7 A8 A9 A10 A11 P Q : Prop} (a0 : A0) (a1 : A1) (a2 : A2) (a3 : A3) (a4 : A4) (a5 : A5) (a6 : A6) (a7 : A7) (a8 : A8) (a9 : A9) (a10 : A10) (a11 : A11) (h : Q) (e : A0 → A1 → A2 → A3 → A4 → A5 → A6 → A7 → A8 → A9 → A10 → A11 → P = Q := by intro a0 a1 a2 a3 a4 a5 a6 a7 a8 a9 a10 a11; simp (maxSteps := 1000000) only [go_sem, Int.cast_ofNat_Int, Int.reduceLT, Int.reduceLE, Int.reduceGT, Int.reduceGE, Int.reduceEq, Int.reduceBEq, Int.reduceAdd, Int.reduceSub, Int.reduceToNat, Nat.reduceShiftRight, Nat.reduceMod, Nat.reduceLT, Nat.reduceEqDiff, Nat.reduceAdd, Nat.reduceMul, Nat.reduceLeDiff, Nat.reduceBEq, reduceIte, List.getElem_map, a0, a1, a2, a3, a4, a5, a6, a7, a8, a9, a10, a11]; first | done | rfl) : P := (e a0 a1 a2 a3 a4 a5 a6 a7 a8 a9 a10 a11).mpr h
theorem d12 {A0 A1 A2 A3 A4 A5 A6 A7 A8 A9 A10 A11 P Q : Prop} (a0 : A0) (a1 : A1) (a2 : A2) (a3 : A3) (a4 : A4) (a5 : A5) (a6 : A6) (a7 : A7) (a8 : A8) (a9 : A9) (a10 : A10) (a11 : A11) (h : Q) (e : A0 → A1 → A2 → A3 → A4 → A5 → A6 → A7 → A8 → A9 → A10 → A11 → P = Q := by intro a0 a1 a2 a3 a4 a5 a6 a7 a8 a9 a10 a11; simp (disch := first | omega | assumption) only [wrapI, ia3_hdrN, ia3_rowN, ia3_hdrI, ia3_rowI, List.getElem?_eq_getElem, List.length_map, List.length_cons, List.length_nil, List.getElem_map, a0, a1, a2, a3, a4, a5, a6, a7, a8, a9, a10, a11]; first | done | rfl) : P := (e a0 a1 a2 a3 a4 a5 a6 a7 a8 a9 a10 a11).mpr h
theorem j12 {b : Bool} {A0 A1 A2 A3 A4 A5 A6 A7 A8 A9 A10 A11 B C D E R T : Prop} (a0 : A0) (a1 : A1) (a2 : A2) (a3 : A3) (a4 : A4) (a5 : A5) (a6 : A6) (a7 : A7) (a8 : A8) (a9 : A9) (a10 : A10) (a11 : A11) (h1 : b = true → R → D) (h2 : b = false → T → E) (r1 : b = true → R := by intro hg; (try simp only [Bool.and_eq_true, Bool.or_eq_false_iff, Bool.or_eq_true, Bool.and_eq_false_iff, Bool.not_eq_true', Bool.not_eq_false', decide_eq_true_eq, decide_eq_false_iff_not, beqT, beqF, bneT, bneF] at hg); exact hg) (r2 : b = false → T := by intro hg; (try simp only [Bool.and_eq_true, Bool.or_eq_false_iff, Bool.or_eq_true, Bool.and_eq_false_iff, Bool.not_eq_true', Bool.not_eq_false', decide_eq_true_eq, decide_eq_false_iff_not, beqT, beqF, bneT, bneF] at hg); exact hg) (e1 : A0 → A1 → A2 → A3 → A4 → A5 → A6 → A7 → A8 → A9 → A10 → A11 → b = true → B = D := by intro a0 a1 a2 a3 a4 a5 a6 a7 a8 a9 a10 a11; intro hg; (try simp (disch := first | omega | assumption) only [wrapI, ia3_hdrN, ia3_rowN, ia3_hdrI, ia3_rowI, List.getElem?_eq_getElem, List.length_map, List.length_cons, List.length_nil, List.getElem_map, a0, a1, a2, a3, a4, a5, a6, a7, a8, a9, a10, a11]); (try simp only [hg]); (first | simp only [eq_true (beq_iff_eq.1 hg)] | simp only [eq_false (beq_eq_false_iff_ne.1 hg)] | simp only [eq_true (of_decide_eq_true hg)] | simp only [eq_false (of_decide_eq_false hg)] | skip); (first | done | rfl)) (e2 : A0 → A1 → A2 → A3 → A4 → A5 → A6 → A7 → A8 → A9 → A10 → A11 → b = false → C = E := by intro a0 a1 a2 a3 a4 a5 a6 a7 a8 a9 a10 a11; intro hg; (try simp (disch := first | omega | assumption) only [wrapI, ia3_hdrN, ia3_rowN, ia3_hdrI, ia3_rowI, List.getElem?_eq_getElem, List.length_map, List.length_cons, List.length_nil, List.getElem_map, a0, a1, a2, a3, a4, a5, a6, a7, a8, a9, a10, a11]); (try simp only [hg]); (first | simp only [eq_true (beq_iff_eq.1 hg)] | simp only [eq_false (beq_eq_false_iff_ne.1 hg)] | simp only [eq_true (of_decide_eq_true hg)] | simp only [eq_false (of_decide_eq_false hg)] | skip); (first | done | rfl)) : TT b B C .mk .mk := tt_i (fun g => (e1 a0 a1 a2 a3 a4 a5 a6 a7 a8 a9 a10 a11 (tb_eq g)).mpr (h1 (tb_eq g) (r1 (tb_eq g)))) fun g => (e2 a0 a1 a2 a3 a4 a5 a6 a7 a8 a9 a10 a11 (tb_eq g)).mpr (h2 (tb_eq g) (r2 (tb_eq g)))
theorem cw {f : FuncId} {ds : List DV} {d : DV} {outs : List DV} {kq : Nat} {q : PC} {rs : List ResultVar} (kp : Nat) (fn : Func) (fz : Bool) (h : PW Γ E MU CC kq q (ini 0 ds) (EK Γ fz rs (eqP d outs) (cst outs))) (hF : F f = some fn := by rfl) (hb : fn.body = some (fn.body.getD .skip) := by rfl) (hp : prep (fn.body.getD .skip) = some ((prep (fn.body.getD .skip)).getD .skip) := by rfl) (hn : ds.length ≤ fn.ntmps := by exact Nat.le_of_ble_eq_true rfl) (hl : ds.length ≤ 900000 := by exact Nat.le_of_ble_eq_true rfl) (e1 : kp = kq := by conv => lhs; cbv) (e2 : (prep (fn.body.getD .skip)).getD .skip = q := by conv => lhs; cbv) (e3 : fn.results.toList = rs := by conv => lhs; cbv) : C2 CC f ds d outs := by
  subst e1; subst e2
  exact c2_fn _ fz hF hb hp hn hl e3 h
section
variable {MU : FuncId → Nat → Nat} {C : Rel} {kp : Nat} {Q : Ex → St → Prop} {st : St}
theorem pdf (t q : Nat) {op : Op} {ty : TypeId} {pos : String} {af : Array Edge} {gd : Option (Tmp × Bool)} {rest : List Oper} (am kd : List Nat) {L : List POp} (h : fzX Γ E MU C L (keK kp Q) (frz st (q, []))) (h1 : drOk Γ ⟨⟨some t, op, ty, pos, af, gd⟩ :: rest⟩ am kd true = true := by kernel_rfl) (e : prepT kd ((prepO ⟨⟨some t, op, ty, pos, af, gd⟩ :: rest⟩ (⟨some t, op, ty, pos, af, gd⟩ :: rest)).getD []) = L := by conv => lhs; cbv) : PW Γ E MU C kp (.draw ⟨⟨some t, op, ty, pos, af, gd⟩ :: rest⟩) st Q := pw_drawXF (q, []) am kd h1 (e ▸ h)
theorem pd3 (t : Nat) {op : Op} {ty : TypeId} {pos : String} {af : Array Edge} {gd : Option (Tmp × Bool)} {rest : List Oper} (am kd : List Nat) (x : Bool) {L : List POp} (h : OW Γ E MU C x L st (keK kp Q)) (h1 : drOk Γ ⟨⟨some t, op, ty, pos, af, gd⟩ :: rest⟩ am kd x = true := by kernel_rfl) (e : prepT kd ((prepO ⟨⟨some t, op, ty, pos, af, gd⟩ :: rest⟩ (⟨some t, op, ty, pos, af, gd⟩ :: rest)).getD []) = L := by conv => lhs; cbv) : PW Γ E MU C kp (.draw ⟨⟨some t, op, ty, pos, af, gd⟩ :: rest⟩) st Q := pw_draw2 am kd x h1 (e ▸ h)
end
theorem dn {P : Prop} (h : P := by repeat' first | refine g0 ?_ | refine d0 ?_ | refine j0 (fun hg hgo => ?_) fun hg hgo => ?_ | refine ek_ret ?_ | refine ek_norm ?_ | refine ⟨by omega, ?_⟩ | rfl | trivial | intro _) : P := h
theorem v_in (n lo hi : Int) : C2 CC F_impl_in [iv n, iv lo, iv hi] (bv (decide (n ≥ lo) && decide (n ≤ hi))) [] := by
  refine cw (keepF Try.f62) Try.f62 false ?_
  repeat' first | refine g0 ?_ | refine d0 ?_ | refine j0 (fun hg hgo => ?_) fun hg hgo => ?_ | refine ek_ret ?_ | refine ek_norm ?_ | refine ⟨by omega, ?_⟩ | rfl | trivial | intro _
  all_goals simp_all
theorem v_l1In (n lo hi : Int) : C2 CC F_spec_l1In [iv n, iv lo, iv hi] (bv (decide (n ≥ lo) && decide (n ≤ hi))) [] := by
  refine cw (keepF Try.f61) Try.f61 false ?_
  repeat' first | refine g0 ?_ | refine d0 ?_ | refine j0 (fun hg hgo => ?_) fun hg hgo => ?_ | refine ek_ret ?_ | refine ek_norm ?_ | refine ⟨by omega, ?_⟩ | rfl | trivial | intro _
  all_goals simp_all
def wok (op : Int) : Bool := decide (op ≥ 1) && decide (op ≤ 10)
theorem v_WordOk (op : Int) : C2 CC F_impl_WordOk [iv op] (bv (wok op)) [] := by
  refine cw (keepF Try.f116) Try.f116 false ?_
  repeat' first | refine ck_intro (by first | exact v_in _ _ _) ?_ ?_ | refine g0 ?_ | refine d0 ?_ | refine j0 (fun hg hgo => ?_) fun hg hgo => ?_ | refine ek_ret ?_ | refine ek_norm ?_ | refine ⟨by omega, ?_⟩ | rfl | trivial | intro _
theorem s_WordOk (op : Int) : C2 CC F_spec_WordOk [iv op] (bv (wok op)) [] := by
  refine cw (keepF Try.f77) Try.f77 false ?_
  repeat' first | refine ck_intro (by first | exact v_l1In _ _ _) ?_ ?_ | refine g0 ?_ | refine d0 ?_ | refine j0 (fun hg hgo => ?_) fun hg hgo => ?_ | refine ek_ret ?_ | refine ek_norm ?_ | refine ⟨by omega, ?_⟩ | rfl | trivial | intro _
def rb (l : List Int) : FV := .row 1 (l.map (.int .u8))
def idxI (c : Int) : List Int → Int → Int
  | [], _ => -1
  | x :: l, j => if c = x then j else idxI c l (j + 1)
theorem idx_at (c : Int) : ∀ (l : List Int) (j : Nat) (k : Int), (∀ i (h : i < l.length), i < j → c ≠ l[i]) → idxI c l k = idxI c (l.drop j) (k + j)
  | l, 0, k, _ => by simp
  | [], j + 1, k, _ => by simp [idxI]
  | x :: l, j + 1, k, h => by
    have h0 := h 0 (by simp) (by omega)
    simp only [List.getElem_cons_zero] at h0
    rw [List.drop_succ_cons, idxI, if_neg h0, idx_at c l j (k + 1) (fun i hi hij => by have := h (i + 1) (by simpa using hi) (by omega); simpa using this)]
    congr 1; omega
theorem v_Index_byte (l : List Int) (c : Int) (hl : l.length < 4611686018427387904) : C2 CC F_slices_Index_byte [.fv (rb l), .fv (.int .u8 c)] (iv (idxI c l 0)) [] := by
  unfold rb
  refine cw (keepF Try.f117) Try.f117 false ?_
  repeat' first | refine g0 ?_ | refine d0 ?_ | refine j0 (fun hg hgo => ?_) fun hg hgo => ?_ | refine ek_ret ?_ | refine ek_norm ?_ | refine ⟨by omega, ?_⟩ | rfl | trivial | intro _
  refine pw_loop (fun m st => ∃ j : Nat, j + m = l.length ∧ (∀ i (h : i < l.length), i < j → c ≠ l[i]) ∧ st = [(0, .fv (rb l)), (1, .fv (.int .u8 c)), (7, iv l.length), (8, iv j)]) l.length [(0, .fv (rb l)), (1, .fv (.int .u8 c)), (7, iv l.length), (8, iv (0 : Nat))] (sub_of ?_) ⟨0, by omega, fun i _ hi => by omega, rfl⟩ ?_
  · unfold rb
    exact dn
  · rintro m st ⟨j, hj, hb, rfl⟩
    unfold rb
    have hidx := idx_at c l j 0 hb
    by_cases hlt : j < l.length
    · have hd : decide ((j : Int) < (l.length : Int)) = true := by rw [decide_eq_true_eq]; omega
      have hml : j < (l.map (FV.int .u8)).length := by rw [List.length_map]; exact hlt
      have hidx2 : idxI c l 0 = if c = l[j] then (j : Int) else idxI c (l.drop (j + 1)) (j + 1) := by
        rw [hidx, List.drop_eq_getElem_cons hlt, idxI]; simp
      repeat' first | refine g1 @hd ?_ | refine d1 @hd ?_ | refine j1 @hd (fun hg hgo => ?_) fun hg hgo => ?_ | refine ek_ret ?_ | refine ek_norm ?_ | refine ⟨by omega, ?_⟩ | rfl | trivial | intro _
      · rw [hidx2, if_pos (by simpa using hg)]
      · have hne : c ≠ l[j] := by simpa using hg
        refine rd_norm [(0, .fv (rb l)), (1, .fv (.int .u8 c)), (7, iv l.length), (8, iv (j + 1 : Nat))] (sub_of ?_) (m - 1) (by omega) ⟨j + 1, by omega, fun i hi h1 => ?_, rfl⟩
        · unfold rb
          exact dn
        · by_cases h2 : i = j
          · subst h2; exact hne
          · exact hb i hi (by omega)
    · have hd : decide ((j : Int) < (l.length : Int)) = false := by rw [decide_eq_false_iff_not]; omega
      have hidx2 : idxI c l 0 = -1 := by
        rw [hidx, List.drop_eq_nil_of_le (by omega)]; rfl
      repeat' first | refine g2 @hd @hidx2 ?_ | refine d2 @hd @hidx2 ?_ | refine j2 @hd @hidx2 (fun hg hgo => ?_) fun hg hgo => ?_ | refine ek_ret ?_ | refine ek_norm ?_ | refine ⟨by omega, ?_⟩ | rfl | trivial | intro _
def byI (b : ByteArray) : List Int := b.data.toList.map fun x => (x.toNat : Int)
theorem byI_len (b : ByteArray) : (byI b).length = b.size := by unfold byI; rw [List.length_map]; rfl
@[go_sem] theorem bytesF_eq (b : ByteArray) : bytesF b = (byI b).map fun n => .fv (.int .u8 n) := by
  unfold bytesF byI; rw [List.map_map]; rfl
def formB (op : Int) : ByteArray := if op = 20 then ⟨#[68, 78]⟩ else if op = 21 then ⟨#[68, 65]⟩ else if op = 25 then ⟨#[68, 65]⟩ else if op = 22 then ⟨#[65, 66]⟩ else if op = 23 then ⟨#[65]⟩ else if op = 24 then ⟨#[68]⟩ else ⟨#[68, 65, 66]⟩
def formK (op : Int) : Bool := if op = 20 then true else if op = 21 then true else if op = 25 then true else if op = 22 then true else if op = 23 then true else if op = 24 then true else wok op
theorem formB_len (op : Int) : (byI (formB op)).length < 4611686018427387904 := by
  rw [byI_len]; unfold formB; repeat' split
  all_goals decide
theorem v_formOf (op : Int) : C2 CC F_impl_formOf [iv op] (.tup [.fv (.str (formB op)), bv (formK op)]) [] := by
  refine cw (keepF Try.f114) Try.f114 false ?_
  repeat' first | refine ck_intro (by first | exact v_WordOk _) ?_ ?_ | refine g0 ?_ | refine d0 ?_ | refine j0 (fun hg hgo => ?_) fun hg hgo => ?_ | refine ek_ret ?_ | refine ek_norm ?_ | refine ⟨by omega, ?_⟩ | rfl | trivial | intro _
  all_goals simp_all [formB, formK]
def hasI (l : List Int) (c : Int) : Bool := decide (idxI c l 0 ≥ 0)
theorem v_Contains_byte (l : List Int) (c : Int) (hl : l.length < 4611686018427387904) : C2 CC F_slices_Contains_byte [.fv (rb l), .fv (.int .u8 c)] (bv (hasI l c)) [] := by
  refine cw (keepF Try.f80) Try.f80 false ?_
  repeat' first | refine ck_intro (by first | exact v_Index_byte _ _ hl) ?_ ?_ | refine g0 ?_ | refine d0 ?_ | refine j0 (fun hg hgo => ?_) fun hg hgo => ?_ | refine ek_ret ?_ | refine ek_norm ?_ | refine ⟨by omega, ?_⟩ | rfl | trivial | intro _
def hasP (op c : Int) : Bool := formK op && hasI (byI (formB op)) c
theorem v_has (op c : Int) : C2 CC F_impl_has [iv op, .fv (.int .u8 c)] (bv (hasP op c)) [] := by
  refine cw (keepF Try.f68) Try.f68 false ?_
  repeat' first | refine ck_intro (by first | exact v_formOf _ | exact v_Contains_byte _ _ (formB_len op)) ?_ ?_ | refine g0 ?_ | refine d0 ?_ | refine j0 (fun hg hgo => ?_) fun hg hgo => ?_ | refine ek_ret ?_ | refine ek_norm ?_ | refine ⟨by omega, ?_⟩ | rfl | trivial | intro _
  all_goals simp_all [hasP]
structure StepD where
  op : Int
  r : Int
  a : Int
  b : Int
  n : Int
  deriving DecidableEq
def StepD.wf (x : StepD) : Prop := I64 x.op ∧ I64 x.r ∧ I64 x.a ∧ I64 x.b ∧ I64 x.n
abbrev stF (s : StepD) : FV := .agg [.int .i64 s.op, .int .i64 s.r, .int .i64 s.a, .int .i64 s.b, .int .i64 s.n]
abbrev sF (s : StepD) : DV := .fv (stF s)
def steps (l : List StepD) : List DV := l.map fun s => .fv (stF s)
def ints (l : List Int) : List DV := l.map fun n => .fv (.int .i64 n)
@[go_sem] theorem nrs_steps {l : List StepD} : noRefs (steps l) = true := nrs_map
@[go_sem] theorem fvs_steps {l : List StepD} : fvs (steps l) = true := fvs_map
@[go_sem] theorem fzL_steps {l : List StepD} : fzL (steps l) = some (l.map stF) := fzL_map
@[go_sem] theorem clDs_steps {l : List StepD} : clDs (steps l) = true := clDs_map fun x => rfl
@[go_sem] theorem steps_len {l : List StepD} : (steps l).length = l.length := by unfold steps; simp
@[go_sem] theorem nrs_ints {l : List Int} : noRefs (ints l) = true := nrs_map
@[go_sem] theorem clDs_ints {l : List Int} : clDs (ints l) = true := clDs_map fun x => rfl
@[go_sem] theorem ints_len {l : List Int} : (ints l).length = l.length := by unfold ints; simp
theorem steps_nil : steps [] = [] := nr rfl
theorem steps_cons {s : StepD} {l : List StepD} : steps (s :: l) = .fv (stF s) :: steps l := nr rfl
theorem ints_nil : ints [] = [] := nr rfl
theorem ints_cons {s : Int} {l : List Int} : ints (s :: l) = .fv (.int .i64 s) :: ints l := nr rfl
abbrev stR (l : List StepD) : FV := .row 5 (l.map stF)
def sformB (op : Int) : ByteArray :=
  if op = 1 then ⟨#[82, 78]⟩ else if op = 2 then ⟨#[82, 65]⟩ else if op = 5 then ⟨#[82, 65]⟩ else if op = 3 then ⟨#[82, 83]⟩ else if op = 4 then ⟨#[83, 65]⟩ else if op = 6 then ⟨#[65, 66]⟩
  else if op = 7 then ⟨#[65]⟩ else if op = 11 then ⟨#[65]⟩ else if op = 8 then ⟨#[82]⟩ else if op = 9 then ⟨#[84]⟩ else if op = 10 then ⟨#[65, 84]⟩ else ⟨#[82, 65, 66]⟩
def sformK (op : Int) : Bool :=
  if op = 1 then true else if op = 2 then true else if op = 5 then true else if op = 3 then true else if op = 4 then true else if op = 6 then true
  else if op = 7 then true else if op = 11 then true else if op = 8 then true else if op = 9 then true else if op = 10 then true else wok (IntKind.wrap .i64 (op - 11))
theorem sformB_len (op : Int) : (byI (sformB op)).length < 4611686018427387904 := by
  rw [byI_len]; unfold sformB; repeat' split
  all_goals decide
theorem v_stepForm (op : Int) : C2 CC F_impl_stepForm [iv op] (.tup [.fv (.str (sformB op)), bv (sformK op)]) [] := by
  refine cw (keepF Try.f78) Try.f78 false ?_
  repeat' first | refine ck_intro (by first | exact v_WordOk _) ?_ ?_ | refine g0 ?_ | refine d0 ?_ | refine j0 (fun hg hgo => ?_) fun hg hgo => ?_ | refine ek_ret ?_ | refine ek_norm ?_ | refine ⟨by omega, ?_⟩ | rfl | trivial | intro _
  all_goals simp_all [sformB, sformK]
def sHas (op c : Int) : Bool := hasI (byI (sformB op)) c
def sPart (n : Int) (had : Bool) : Bool := if had = true then decide (n ≥ 0) && decide (n ≤ 7) else n == 0
theorem v_stepPart (n : Int) (had : Bool) : C2 CC F_impl_stepPart [iv n, bv had, iv 7] (bv (sPart n had)) [] := by
  cases had
  all_goals
    refine cw (keepF Try.f79) Try.f79 false ?_
    repeat' first | refine ck_intro (by first | exact v_in _ _ _) ?_ ?_ | refine g0 ?_ | refine d0 ?_ | refine j0 (fun hg hgo => ?_) fun hg hgo => ?_ | refine ek_ret ?_ | refine ek_norm ?_ | refine ⟨by omega, ?_⟩ | rfl | trivial | intro _
    all_goals first | rfl | (simp_all [beqD, sPart]; done) | ((try simp only [sPart]); (repeat' split) <;> first | omega | (simp_all [beqD]; done) | (simp_all [beqD]; omega)) | (simp_all [beqD, sPart]; (repeat' split) <;> first | rfl | omega | (simp_all; done))
theorem v_Contains_form (op c : Int) : C2 CC F_slices_Contains_byte [.fv (rb (byI (sformB op))), .fv (.int .u8 c)] (bv (sHas op c)) [] := v_Contains_byte _ _ (sformB_len op)
def stepB (x : StepD) (k : Int) : Bool :=
  !(decide (x.op < 1) || decide (x.op > 21)) && sformK x.op && (if sHas x.op 78 = true then true else if sHas x.op 83 = true then decide (x.n ≥ 0) && decide (x.n ≤ 39) else if sHas x.op 84 = true then decide (x.n ≥ 0) && decide (x.n < k) else x.n == 0)
    && (sPart x.r (sHas x.op 82) && sPart x.a (sHas x.op 65) && sPart x.b (sHas x.op 66))
theorem v_StepOk (x : StepD) (k : Int) (h1 : 1 ≤ x.op) (h2 : x.op ≤ 21) : C2 CC F_impl_StepOk [sF x, iv k] (bv (stepB x k)) [] := by
  obtain ⟨op, r, a, b, n⟩ := x
  simp only at h1 h2
  have t1 : decide (op < 1) = false := by rw [decide_eq_false_iff_not]; omega
  have t2 : decide (op > 21) = false := by rw [decide_eq_false_iff_not]; omega
  have e : stepB ⟨op, r, a, b, n⟩ k = (sformK op && (if sHas op 78 = true then true else if sHas op 83 = true then decide (n ≥ 0) && decide (n ≤ 39) else if sHas op 84 = true then decide (n ≥ 0) && decide (n < k) else n == 0)
    && (sPart r (sHas op 82) && sPart a (sHas op 65) && sPart b (sHas op 66))) := by simp [stepB, t1, t2]
  rw [e]
  have q := v_Contains_form op
  have p1 := v_stepPart r (sHas op 82)
  have p2 := v_stepPart a (sHas op 65)
  have p3 := v_stepPart b (sHas op 66)
  have f := v_stepForm op
  clear e
  generalize sPart r (sHas op 82) = u1 at p1 ⊢
  generalize sPart a (sHas op 65) = u2 at p2 ⊢
  generalize sPart b (sHas op 66) = u3 at p3 ⊢
  generalize sformK op = u4 at f ⊢
  generalize sHas op = H at q p1 p2 p3 ⊢
  cases u1 <;> cases u2 <;> cases u4
  all_goals
    refine cw (keepF Try.f23) Try.f23 false ?_
    repeat' first | refine ck_intro (by first | exact f | exact q 78 | exact q 83 | exact q 84 | exact q 82 | exact q 65 | exact q 66 | exact p1 | exact p2 | exact p3 | exact v_in _ _ _) ?_ ?_ | refine pdf 25 7 [0, 1, 0, 4, 15, 31, 63, 127, 63, 319, 1023, 2047, 4095, 8191, 16383, 8191, 40959, 131071, 262143, 524287] [0, 2, 0, 6, 5, 0, 0, 2, 0, 6, 5, 0, 0, 0, 2, 0, 6, 5, 0, 0] ?_ | refine g2 @t1 @t2 ?_ | refine d2 @t1 @t2 ?_ | refine j2 @t1 @t2 (fun hg hgo => ?_) fun hg hgo => ?_ | refine ek_ret ?_ | refine ek_norm ?_ | refine ⟨by omega, ?_⟩ | rfl | trivial | intro _
    all_goals first | rfl | (simp_all [beqD, ]; done) | ((try simp only []); (repeat' split) <;> first | omega | (simp_all [beqD]; done) | (simp_all [beqD]; omega)) | (simp_all [beqD, ]; (repeat' split) <;> first | rfl | omega | (simp_all; done))
def usesL (x : StepD) : List Int := if (wok x.op || x.op == 22) = true then [x.a, x.b] else if (x.op == 21 || x.op == 23 || x.op == 25) = true then [x.a] else []
theorem v_InsUses (x : StepD) : C2 CC F_spec_InsUses [sF x] (.own 1 (ints (usesL x))) [] := by
  refine cw (keepF Try.f71) Try.f71 false ?_
  repeat' first | refine ck_intro (by first | exact s_WordOk _) ?_ ?_ | refine g0 ?_ | refine d0 ?_ | refine j0 (fun hg hgo => ?_) fun hg hgo => ?_ | refine ek_ret ?_ | refine ek_norm ?_ | refine ⟨by omega, ?_⟩ | rfl | trivial | intro _
  all_goals first | rfl | (simp_all [beqD, usesL, ints]; done) | ((try simp only [usesL, ints]); (repeat' split) <;> first | omega | (simp_all [beqD]; done) | (simp_all [beqD]; omega)) | (simp_all [beqD, usesL, ints]; (repeat' split) <;> first | rfl | omega | (simp_all; done))
def makesB (op : Int) : Bool := wok op || op == 20 || op == 21 || op == 24 || op == 25
def hasA (op : Int) : Bool := wok op || op == 22 || op == 21 || op == 23 || op == 25
def hasBb (op : Int) : Bool := wok op || op == 22
theorem hasP_all (op : Int) : hasP op 65 = hasA op ∧ hasP op 66 = hasBb op ∧ hasP op 68 = makesB op := by
  by_cases h20 : op = 20
  · subst h20; decide
  by_cases h21 : op = 21
  · subst h21; decide
  by_cases h22 : op = 22
  · subst h22; decide
  by_cases h23 : op = 23
  · subst h23; decide
  by_cases h24 : op = 24
  · subst h24; decide
  by_cases h25 : op = 25
  · subst h25; decide
  have hb : formB op = ⟨#[68, 65, 66]⟩ := by simp [formB, h20, h21, h22, h23, h24, h25]
  have hk : formK op = wok op := by simp [formK, h20, h21, h22, h23, h24, h25]
  have i1 : hasI (byI ⟨#[68, 65, 66]⟩) 65 = true := by decide
  have i2 : hasI (byI ⟨#[68, 65, 66]⟩) 66 = true := by decide
  have i3 : hasI (byI ⟨#[68, 65, 66]⟩) 68 = true := by decide
  simp [hasP, hb, hk, i1, i2, i3, hasA, hasBb, makesB, beqD, h20, h21, h22, h23, h24, h25]
theorem v_hasA (op : Int) : C2 CC F_impl_has [iv op, .fv (.int .u8 65)] (bv (hasA op)) [] := by rw [← (hasP_all op).1]; exact v_has op 65
theorem v_hasB (op : Int) : C2 CC F_impl_has [iv op, .fv (.int .u8 66)] (bv (hasBb op)) [] := by rw [← (hasP_all op).2.1]; exact v_has op 66
theorem v_hasD (op : Int) : C2 CC F_impl_has [iv op, .fv (.int .u8 68)] (bv (makesB op)) [] := by rw [← (hasP_all op).2.2]; exact v_has op 68
theorem v_l2Makes (op : Int) : C2 CC F_spec_l2Makes [iv op] (bv (makesB op)) [] := by
  refine cw (keepF Try.f73) Try.f73 false ?_
  repeat' first | refine ck_intro (by first | exact s_WordOk _) ?_ ?_ | refine g0 ?_ | refine d0 ?_ | refine j0 (fun hg hgo => ?_) fun hg hgo => ?_ | refine ek_ret ?_ | refine ek_norm ?_ | refine ⟨by omega, ?_⟩ | rfl | trivial | intro _
  all_goals first | rfl | (simp_all [beqD, makesB]; done) | ((try simp only [makesB]); (repeat' split) <;> first | omega | (simp_all [beqD]; done) | (simp_all [beqD]; omega)) | (simp_all [beqD, makesB]; (repeat' split) <;> first | rfl | omega | (simp_all; done))
def homeB (n : Int) : Bool := decide (n ≥ 0) && decide (n ≤ 39)
def tkL (home by_ : Int) : List StepD := if home < 4 then [] else [⟨3, by_, 0, 0, home - 4⟩]
def tkR (home by_ : Int) : Int := if home < 4 then home else by_
theorem v_l15Take (home by_ : Int) (h1 : home ≤ 39) : C2 CC F_spec_l15Take [iv home, iv by_] (.tup [.own 5 (steps (tkL home by_)), iv (tkR home by_)]) [] := by
  refine cw (keepF Try.f74) Try.f74 false ?_
  repeat' first | refine g0 ?_ | refine d0 ?_ | refine j0 (fun hg hgo => ?_) fun hg hgo => ?_ | refine ek_ret ?_ | refine ek_norm ?_ | refine ⟨by omega, ?_⟩ | rfl | trivial | intro _
  all_goals first | rfl | (simp_all [beqD, tkL, tkR, steps]; done) | ((try simp only [tkL, tkR, steps]); (repeat' split) <;> first | omega | (simp_all [beqD]; done) | (simp_all [beqD]; omega)) | (simp_all [beqD, tkL, tkR, steps]; (repeat' split) <;> first | rfl | omega | (simp_all; done))
theorem v_l15Home (n : Int) : C2 CC F_spec_l15Home [iv n] (bv (homeB n)) [] := by
  refine cw (keepF Try.f72) Try.f72 false ?_
  repeat' first | refine ck_intro (by first | exact v_l1In _ _ _) ?_ ?_ | refine g0 ?_ | refine d0 ?_ | refine j0 (fun hg hgo => ?_) fun hg hgo => ?_ | refine ek_ret ?_ | refine ek_norm ?_ | refine ⟨by omega, ?_⟩ | rfl | trivial | intro _
theorem stepsA {l m : List StepD} : steps l ++ steps m = steps (l ++ m) := by unfold steps; simp
theorem stepsS {l : List StepD} {a b c d e : Int} : steps l ++ [.fv (.agg [.int .i64 a, .int .i64 b, .int .i64 c, .int .i64 d, .int .i64 e])] = steps (l ++ [⟨a, b, c, d, e⟩]) := by unfold steps; simp
theorem stepsS2 {l : List StepD} {a b c d e a' b' c' d' e' : Int} : steps l ++ [.fv (.agg [.int .i64 a, .int .i64 b, .int .i64 c, .int .i64 d, .int .i64 e]), .fv (.agg [.int .i64 a', .int .i64 b', .int .i64 c', .int .i64 d', .int .i64 e'])] = steps (l ++ [⟨a, b, c, d, e⟩, ⟨a', b', c', d', e'⟩]) := by unfold steps; simp
theorem homeB_le {n : Int} (h : homeB n = true) : n ≤ 39 := by unfold homeB at h; simp at h; exact h.2
theorem homeB_ge {n : Int} (h : homeB n = true) : 0 ≤ n := by unfold homeB at h; simp at h; exact h.1
def giveL (l : List StepD) (s : StepD) (home : Int) : List StepD := if home < 4 then l ++ [{ s with r := home }] else l ++ [{ s with r := 6 }, ⟨4, 0, 6, 0, home - 4⟩]
theorem v_l15Give (l : List StepD) (s : StepD) (home : Int) (h1 : home ≤ 39) (hl : l.length < 100000) : C2 CC F_spec_l15Give [.own 5 (steps l), sF s, iv home] (.own 5 (steps (giveL l s home))) [.junk 1] := by
  refine cw (keepF Try.f75) Try.f75 false ?_
  repeat' first | refine g2 @stepsS @stepsS2 ?_ | refine d2 @stepsS @stepsS2 ?_ | refine j2 @stepsS @stepsS2 (fun hg hgo => ?_) fun hg hgo => ?_ | refine ek_ret ?_ | refine ek_norm ?_ | refine ⟨by omega, ?_⟩ | rfl | trivial | intro _
  all_goals first | rfl | (simp_all [beqD, giveL]; done) | ((try simp only [giveL]); (repeat' split) <;> first | omega | (simp_all [beqD]; done) | (simp_all [beqD]; omega)) | (simp_all [beqD, giveL]; (repeat' split) <;> first | rfl | omega | (simp_all; done))
def copyL (x : StepD) : List StepD := if x.r < 4 ∧ x.a < 4 then [⟨2, x.r, x.a, 0, 0⟩] else if x.r < 4 then [⟨3, x.r, 0, 0, x.a - 4⟩] else tkL x.a 4 ++ [⟨4, 0, tkR x.a 4, 0, x.r - 4⟩]
theorem tkL_len (home by_ : Int) : (tkL home by_).length ≤ 1 := by unfold tkL; split <;> simp
theorem v_l15Copy (x : StepD) (h1 : x.r ≤ 39) (h2 : x.a ≤ 39) : C2 CC F_spec_l15Copy [sF x] (.own 5 (steps (copyL x))) [] := by
  obtain ⟨op, r, a, b, n⟩ := x
  simp only at h1 h2
  have l1 := tkL_len a 4
  refine cw (keepF Try.f76) Try.f76 false ?_
  repeat' first | refine ck_intro (by first | exact v_l15Take _ _ (by omega)) ?_ ?_ | refine g1 @stepsS ?_ | refine d1 @stepsS ?_ | refine j1 @stepsS (fun hg hgo => ?_) fun hg hgo => ?_ | refine ek_ret ?_ | refine ek_norm ?_ | refine ⟨by omega, ?_⟩ | rfl | trivial | intro _
  all_goals first | rfl | (simp_all [beqD, copyL, steps]; done) | ((try simp only [copyL, steps]); (repeat' split) <;> first | omega | (simp_all [beqD]; done) | (simp_all [beqD]; omega)) | (simp_all [beqD, copyL, steps]; (repeat' split) <;> first | rfl | omega | (simp_all; done))
def homedB (x : StepD) : Bool := (usesL x).all homeB && (!makesB x.op || homeB x.r)
def takenL (x : StepD) : List StepD := (if 0 < (usesL x).length then tkL x.a 4 else []) ++ (if 1 < (usesL x).length then tkL x.b 5 else [])
def regA (x : StepD) : Int := if 0 < (usesL x).length then tkR x.a 4 else 0
def regB (x : StepD) : Int := if 1 < (usesL x).length then tkR x.b 5 else 0
def emitL (x : StepD) : List StepD :=
  if homedB x = false then []
  else if x.op = 20 then giveL (takenL x) ⟨1, 0, 0, 0, x.n⟩ x.r
  else if x.op = 21 then giveL (takenL x) ⟨5, 0, regA x, 0, 0⟩ x.r
  else if x.op = 24 then giveL (takenL x) ⟨8, 0, 0, 0, 0⟩ x.r
  else if x.op = 22 then takenL x ++ [⟨6, 0, regA x, regB x, 0⟩]
  else if x.op = 23 then takenL x ++ [⟨7, 0, regA x, 0, 0⟩]
  else if x.op = 25 then copyL x
  else if wok x.op = true then giveL (takenL x) ⟨11 + x.op, 0, regA x, regB x, 0⟩ x.r
  else []
theorem wok_range {n : Int} (h : wok n = true) : 1 ≤ n ∧ n ≤ 10 := by unfold wok at h; simp at h; exact h
set_option maxHeartbeats 2000000 in
theorem emit_0 (op r a b n : Int) (hu : usesL ⟨op, r, a, b, n⟩ = []) : C2 CC F_spec_EmitIns [sF ⟨op, r, a, b, n⟩] (.own 5 (steps (emitL ⟨op, r, a, b, n⟩))) [] := by
  have k := v_InsUses ⟨op, r, a, b, n⟩
  rw [hu] at k
  have e0 : wok op = false := by cases hw : wok op with | false => rfl | true => simp [usesL, hw] at hu
  have e21 : (op == 21) = false := by cases hw : op == 21 with | false => rfl | true => simp_all [usesL]
  have e22 : (op == 22) = false := by cases hw : op == 22 with | false => rfl | true => simp_all [usesL]
  have e23 : (op == 23) = false := by cases hw : op == 23 with | false => rfl | true => simp_all [usesL]
  have e25 : (op == 25) = false := by cases hw : op == 25 with | false => rfl | true => simp_all [usesL]
  have hs : steps [] = [] := rfl
  refine cw (keepF Try.f22) Try.f22 false ?_
  repeat' first | refine ck_intro (by first | exact k | exact v_l15Home _ | exact v_l2Makes _ | exact s_WordOk _ | exact v_l15Give [] ⟨1, 0, 0, 0, n⟩ _ (homeB_le (by first | assumption | (simp_all [makesB]; done))) (by first | omega | (simp only [List.length_append, List.length_nil]; omega)) | exact v_l15Give [] ⟨8, 0, 0, 0, 0⟩ _ (homeB_le (by first | assumption | (simp_all [makesB]; done))) (by first | omega | (simp only [List.length_append, List.length_nil]; omega))) ?_ ?_ | refine pw_unroll ?_ | refine g5 @e0 @e21 @e22 @e23 @e25 ?_ | refine d5 @e0 @e21 @e22 @e23 @e25 ?_ | refine j5 @e0 @e21 @e22 @e23 @e25 (fun hg hgo => ?_) fun hg hgo => ?_ | refine ek_ret ?_ | refine ek_norm ?_ | refine ⟨by omega, ?_⟩ | rfl | trivial | intro _
  all_goals first | rfl | (simp_all [beqD, emitL, homedB, takenL, regA, regB, steps]; done) | (simp_all [beqD, emitL, homedB, takenL, regA, regB, makesB, steps]; done) | ((try simp only [emitL, homedB, takenL, regA, regB, steps]); (repeat' split) <;> first | omega | (simp_all [beqD]; done) | (simp_all [beqD]; omega)) | (simp_all [beqD, emitL, homedB, takenL, regA, regB, steps]; (repeat' split) <;> first | rfl | omega | (simp_all; done))
set_option maxHeartbeats 2000000 in
theorem emit_1 (op r a b n : Int) (e0 : wok op = false) (e22 : (op == 22) = false) (e1 : (op == 21 || op == 23 || op == 25) = true) : C2 CC F_spec_EmitIns [sF ⟨op, r, a, b, n⟩] (.own 5 (steps (emitL ⟨op, r, a, b, n⟩))) [] := by
  have k := v_InsUses ⟨op, r, a, b, n⟩
  have hu : usesL ⟨op, r, a, b, n⟩ = [a] := by simp_all [usesL]
  rw [hu] at k
  have e20 : (op == 20) = false := by simp_all [beqD]; omega
  have e24 : (op == 24) = false := by simp_all [beqD]; omega
  have l1 := tkL_len a 4
  clear e1
  refine cw (keepF Try.f22) Try.f22 false ?_
  repeat' first | refine ck_intro (by first | exact k | exact v_l15Home _ | exact v_l2Makes _ | exact s_WordOk _ | exact v_l15Take _ _ (homeB_le (by first | assumption | (simp_all [makesB]; done))) | exact v_l15Copy ⟨op, r, a, b, n⟩ (homeB_le (by first | assumption | (simp_all [makesB]; done))) (homeB_le (by first | assumption | (simp_all [makesB]; done))) | exact v_l15Give _ ⟨5, 0, tkR a 4, 0, 0⟩ _ (homeB_le (by first | assumption | (simp_all [makesB]; done))) (by first | omega | (simp only [List.length_append, List.length_nil]; omega))) ?_ ?_ | refine pw_unroll ?_ | refine g7 @e0 @e22 @e20 @e24 @ints_cons @ints_nil @stepsS ?_ | refine d7 @e0 @e22 @e20 @e24 @ints_cons @ints_nil @stepsS ?_ | refine j7 @e0 @e22 @e20 @e24 @ints_cons @ints_nil @stepsS (fun hg hgo => ?_) fun hg hgo => ?_ | refine ek_ret ?_ | refine ek_norm ?_ | refine ⟨by omega, ?_⟩ | rfl | trivial | intro _
  all_goals first | rfl | (simp_all [beqD, emitL, homedB, takenL, regA, regB, steps]; done) | (simp_all [beqD, emitL, homedB, takenL, regA, regB, makesB, steps]; done) | ((try simp only [emitL, homedB, takenL, regA, regB, steps]); (repeat' split) <;> first | omega | (simp_all [beqD]; done) | (simp_all [beqD]; omega)) | (simp_all [beqD, emitL, homedB, takenL, regA, regB, steps]; (repeat' split) <;> first | rfl | omega | (simp_all; done))
def goodS (s : StepD) : Prop := 1 ≤ s.op ∧ s.op ≤ 21 ∧ stepB s 900 = true
theorem gd1 {r n : Int} (h : 0 ≤ r ∧ r ≤ 7) : goodS ⟨1, r, 0, 0, n⟩ := by
  have f : sHas 1 78 = true ∧ sHas 1 82 = true ∧ sHas 1 65 = false ∧ sHas 1 66 = false ∧ sformK 1 = true := by decide
  refine ⟨by simp only; decide, by simp only; decide, ?_⟩
  simp [stepB, sPart, f, h.1, h.2]
theorem gd2 {r a : Int} (h : 0 ≤ r ∧ r ≤ 7) (g : 0 ≤ a ∧ a ≤ 7) : goodS ⟨2, r, a, 0, 0⟩ := by
  have f : sHas 2 78 = false ∧ sHas 2 83 = false ∧ sHas 2 84 = false ∧ sHas 2 82 = true ∧ sHas 2 65 = true ∧ sHas 2 66 = false ∧ sformK 2 = true := by decide
  refine ⟨by simp only; decide, by simp only; decide, ?_⟩
  simp [stepB, sPart, f, h.1, h.2, g.1, g.2]
theorem gd3 {r n : Int} (h : 0 ≤ r ∧ r ≤ 7) (g : 0 ≤ n ∧ n ≤ 39) : goodS ⟨3, r, 0, 0, n⟩ := by
  have f : sHas 3 78 = false ∧ sHas 3 83 = true ∧ sHas 3 82 = true ∧ sHas 3 65 = false ∧ sHas 3 66 = false ∧ sformK 3 = true := by decide
  refine ⟨by simp only; decide, by simp only; decide, ?_⟩
  simp [stepB, sPart, f, h.1, h.2, g.1, g.2]
theorem gd4 {a n : Int} (h : 0 ≤ a ∧ a ≤ 7) (g : 0 ≤ n ∧ n ≤ 39) : goodS ⟨4, 0, a, 0, n⟩ := by
  have f : sHas 4 78 = false ∧ sHas 4 83 = true ∧ sHas 4 82 = false ∧ sHas 4 65 = true ∧ sHas 4 66 = false ∧ sformK 4 = true := by decide
  refine ⟨by simp only; decide, by simp only; decide, ?_⟩
  simp [stepB, sPart, f, h.1, h.2, g.1, g.2]
theorem gd5 {r a : Int} (h : 0 ≤ r ∧ r ≤ 7) (g : 0 ≤ a ∧ a ≤ 7) : goodS ⟨5, r, a, 0, 0⟩ := by
  have f : sHas 5 78 = false ∧ sHas 5 83 = false ∧ sHas 5 84 = false ∧ sHas 5 82 = true ∧ sHas 5 65 = true ∧ sHas 5 66 = false ∧ sformK 5 = true := by decide
  refine ⟨by simp only; decide, by simp only; decide, ?_⟩
  simp [stepB, sPart, f, h.1, h.2, g.1, g.2]
theorem gd6 {a b : Int} (h : 0 ≤ a ∧ a ≤ 7) (g : 0 ≤ b ∧ b ≤ 7) : goodS ⟨6, 0, a, b, 0⟩ := by
  have f : sHas 6 78 = false ∧ sHas 6 83 = false ∧ sHas 6 84 = false ∧ sHas 6 82 = false ∧ sHas 6 65 = true ∧ sHas 6 66 = true ∧ sformK 6 = true := by decide
  refine ⟨by simp only; decide, by simp only; decide, ?_⟩
  simp [stepB, sPart, f, h.1, h.2, g.1, g.2]
theorem gd7 {a : Int} (h : 0 ≤ a ∧ a ≤ 7) : goodS ⟨7, 0, a, 0, 0⟩ := by
  have f : sHas 7 78 = false ∧ sHas 7 83 = false ∧ sHas 7 84 = false ∧ sHas 7 82 = false ∧ sHas 7 65 = true ∧ sHas 7 66 = false ∧ sformK 7 = true := by decide
  refine ⟨by simp only; decide, by simp only; decide, ?_⟩
  simp [stepB, sPart, f, h.1, h.2]
theorem gd8 {r : Int} (h : 0 ≤ r ∧ r ≤ 7) : goodS ⟨8, r, 0, 0, 0⟩ := by
  have f : sHas 8 78 = false ∧ sHas 8 83 = false ∧ sHas 8 84 = false ∧ sHas 8 82 = true ∧ sHas 8 65 = false ∧ sHas 8 66 = false ∧ sformK 8 = true := by decide
  refine ⟨by simp only; decide, by simp only; decide, ?_⟩
  simp [stepB, sPart, f, h.1, h.2]
theorem gdw {op r a b : Int} (hw : wok op = true) (h : 0 ≤ r ∧ r ≤ 7) (g : 0 ≤ a ∧ a ≤ 7) (q : 0 ≤ b ∧ b ≤ 7) : goodS ⟨11 + op, r, a, b, 0⟩ := by
  have ho : 1 ≤ op ∧ op ≤ 10 := by unfold wok at hw; simp at hw; exact hw
  have hs : sformB (11 + op) = ⟨#[82, 65, 66]⟩ := by
    unfold sformB
    rw [if_neg (by omega), if_neg (by omega), if_neg (by omega), if_neg (by omega), if_neg (by omega), if_neg (by omega), if_neg (by omega), if_neg (by omega), if_neg (by omega), if_neg (by omega), if_neg (by omega)]
  have hk : sformK (11 + op) = true := by
    unfold sformK
    rw [if_neg (by omega), if_neg (by omega), if_neg (by omega), if_neg (by omega), if_neg (by omega), if_neg (by omega), if_neg (by omega), if_neg (by omega), if_neg (by omega), if_neg (by omega), if_neg (by omega), wrapI (by omega) (by omega), show 11 + op - 11 = op by omega]
    exact hw
  have f : ∀ c, sHas (11 + op) c = hasI (byI ⟨#[82, 65, 66]⟩) c := fun c => by unfold sHas; rw [hs]
  have f0 : hasI (byI ⟨#[82, 65, 66]⟩) 78 = false ∧ hasI (byI ⟨#[82, 65, 66]⟩) 83 = false ∧ hasI (byI ⟨#[82, 65, 66]⟩) 84 = false ∧ hasI (byI ⟨#[82, 65, 66]⟩) 82 = true ∧ hasI (byI ⟨#[82, 65, 66]⟩) 65 = true ∧ hasI (byI ⟨#[82, 65, 66]⟩) 66 = true := by decide
  refine ⟨by simp only; omega, by simp only; omega, ?_⟩
  simp [stepB, sPart, f, f0, hk, h.1, h.2, g.1, g.2, q.1, q.2]
  omega
theorem tkR_in {a k : Int} (h : homeB a = true) (hk : 4 ≤ k ∧ k ≤ 5) : 0 ≤ tkR a k ∧ tkR a k ≤ 7 := by
  have := homeB_le h; have := homeB_ge h
  unfold tkR; split <;> omega
theorem tkL_ok {a k : Int} (h : homeB a = true) (hk : 4 ≤ k ∧ k ≤ 5) : ∀ s ∈ tkL a k, goodS s := by
  have := homeB_le h; have := homeB_ge h
  intro s hs
  unfold tkL at hs
  split at hs
  · cases hs
  · rw [List.mem_singleton] at hs; subst hs; exact gd3 (by omega) (by omega)
theorem giveL_ok {l : List StepD} {s : StepD} {h : Int} (hl : ∀ x ∈ l, goodS x) (hh : homeB h = true) (hs : ∀ r, 0 ≤ r ∧ r ≤ 7 → goodS { s with r := r }) : ∀ x ∈ giveL l s h, goodS x := by
  have := homeB_le hh; have := homeB_ge hh
  intro x hx
  unfold giveL at hx
  split at hx
  · rcases List.mem_append.1 hx with hx | hx
    · exact hl x hx
    · rw [List.mem_singleton] at hx; subst hx; exact hs _ (by omega)
  · rcases List.mem_append.1 hx with hx | hx
    · exact hl x hx
    · simp only [List.mem_cons, List.not_mem_nil, or_false] at hx
      rcases hx with rfl | rfl
      · exact hs 6 (by decide)
      · exact gd4 (by decide) (by omega)
theorem copyL_ok {x : StepD} (h1 : homeB x.r = true) (h2 : homeB x.a = true) : ∀ s ∈ copyL x, goodS s := by
  have := homeB_le h1; have := homeB_ge h1; have := homeB_le h2; have := homeB_ge h2
  intro s hs
  unfold copyL at hs
  split at hs
  · rw [List.mem_singleton] at hs; subst hs; exact gd2 (by omega) (by omega)
  split at hs
  · rw [List.mem_singleton] at hs; subst hs; exact gd3 (by omega) (by omega)
  · rcases List.mem_append.1 hs with hs | hs
    · exact tkL_ok h2 (by decide) s hs
    · rw [List.mem_singleton] at hs; subst hs; exact gd4 (tkR_in h2 (by decide)) (by omega)
theorem taken_ok {x : StepD} (h : homedB x = true) : (∀ s ∈ takenL x, goodS s) ∧ (0 ≤ regA x ∧ regA x ≤ 7) ∧ (0 ≤ regB x ∧ regB x ≤ 7) := by
  unfold homedB at h
  rw [Bool.and_eq_true, List.all_eq_true] at h
  have ha : 0 < (usesL x).length → homeB x.a = true := by
    intro hp; apply h.1; unfold usesL at hp ⊢
    repeat' split
    all_goals simp_all
  have hb : 1 < (usesL x).length → homeB x.b = true := by
    intro hp; apply h.1; unfold usesL at hp ⊢
    repeat' split
    all_goals simp_all
  refine ⟨?_, ?_, ?_⟩
  · intro s hs
    unfold takenL at hs
    rcases List.mem_append.1 hs with hs | hs
    · split at hs
      · exact tkL_ok (ha ‹_›) (by decide) s hs
      · cases hs
    · split at hs
      · exact tkL_ok (hb ‹_›) (by decide) s hs
      · cases hs
  · unfold regA; split
    · exact tkR_in (ha ‹_›) (by decide)
    · decide
  · unfold regB; split
    · exact tkR_in (hb ‹_›) (by decide)
    · decide
theorem emit_ok (x : StepD) : ∀ s ∈ emitL x, goodS s := by
  unfold emitL
  cases hh : homedB x with
  | false => rw [if_pos rfl]; intro s hs; cases hs
  | true =>
    rw [if_neg (by decide)]
    obtain ⟨ht, hA, hB⟩ := taken_ok hh
    have hr : makesB x.op = true → homeB x.r = true := by
      intro hm; unfold homedB at hh; rw [Bool.and_eq_true] at hh; simpa [hm] using hh.2
    split
    · rename_i e; exact giveL_ok ht (hr (by rw [e]; decide)) fun r h => gd1 h
    split
    · rename_i e; exact giveL_ok ht (hr (by rw [e]; decide)) fun r h => gd5 h hA
    split
    · rename_i e; exact giveL_ok ht (hr (by rw [e]; decide)) fun r h => gd8 h
    split
    · intro s hs
      rcases List.mem_append.1 hs with hs | hs
      · exact ht s hs
      · rw [List.mem_singleton] at hs; subst hs; exact gd6 hA hB
    split
    · intro s hs
      rcases List.mem_append.1 hs with hs | hs
      · exact ht s hs
      · rw [List.mem_singleton] at hs; subst hs; exact gd7 hA
    split
    · rename_i e
      have ha : homeB x.a = true := by
        unfold homedB at hh; rw [Bool.and_eq_true, List.all_eq_true] at hh
        exact hh.1 _ (by unfold usesL; simp [e, wok])
      exact copyL_ok (hr (by rw [e]; decide)) ha
    split
    · rename_i e; exact giveL_ok ht (hr (by simp [makesB, e])) fun r h => gdw e h hA hB
    · intro s hs; cases hs
def endB (x s : StepD) : Bool := if x.r < 4 then s.r == x.r && s.op != 4 else s.op == 4 && s.n == x.r - 4
theorem give_end {l : List StepD} {s x : StepD} (h4 : s.op ≠ 4) : ∃ l' e, giveL l s x.r = l' ++ [e] ∧ endB x e = true := by
  unfold giveL
  split
  · exact ⟨l, _, rfl, by unfold endB; rw [if_pos ‹_›]; simp [h4]⟩
  · exact ⟨l ++ [{ s with r := 6 }], _, by rw [List.append_assoc]; rfl, by unfold endB; rw [if_neg ‹_›]; simp⟩
theorem copy_end (x : StepD) : ∃ l' e, copyL x = l' ++ [e] ∧ endB x e = true := by
  unfold copyL
  split
  · rename_i h; exact ⟨[], _, rfl, by unfold endB; rw [if_pos h.1]; simp⟩
  split
  · rename_i h; exact ⟨[], _, rfl, by unfold endB; rw [if_pos h]; simp⟩
  · rename_i h; exact ⟨_, _, rfl, by unfold endB; rw [if_neg h]; simp⟩
theorem emit_end (x : StepD) (hm : makesB x.op = true) : emitL x = [] ∨ ∃ l' e, emitL x = l' ++ [e] ∧ endB x e = true := by
  unfold emitL
  split
  · exact .inl rfl
  split
  · exact .inr (give_end (by simp only; decide))
  split
  · exact .inr (give_end (by simp only; decide))
  split
  · exact .inr (give_end (by simp only; decide))
  split
  · rename_i e; rw [e] at hm; exact absurd hm (by decide)
  split
  · rename_i e; rw [e] at hm; exact absurd hm (by decide)
  split
  · exact .inr (copy_end x)
  split
  · rename_i e
    have ho : 1 ≤ x.op ∧ x.op ≤ 10 := by unfold wok at e; simp at e; exact e
    exact .inr (give_end (by simp only; omega))
  · exact .inl rfl
theorem tkL_len2 (a b : Int) : (tkL a 4 ++ tkL b 5).length ≤ 2 := by have := tkL_len a 4; have := tkL_len b 5; rw [List.length_append]; omega
set_option maxHeartbeats 2000000 in
theorem emit_w (op r a b n : Int) (e0 : wok op = true) : C2 CC F_spec_EmitIns [sF ⟨op, r, a, b, n⟩] (.own 5 (steps (emitL ⟨op, r, a, b, n⟩))) [] := by
  have k := v_InsUses ⟨op, r, a, b, n⟩
  have hu : usesL ⟨op, r, a, b, n⟩ = [a, b] := by simp_all [usesL]
  rw [hu] at k
  have hw := wok_range e0
  have e20 : (op == 20) = false := by rw [beq_eq_false_iff_ne]; omega
  have e21 : (op == 21) = false := by rw [beq_eq_false_iff_ne]; omega
  have e22 : (op == 22) = false := by rw [beq_eq_false_iff_ne]; omega
  have e23 : (op == 23) = false := by rw [beq_eq_false_iff_ne]; omega
  have e24 : (op == 24) = false := by rw [beq_eq_false_iff_ne]; omega
  have e25 : (op == 25) = false := by rw [beq_eq_false_iff_ne]; omega
  have hm : makesB op = true := by simp [makesB, e0]
  have l1 := tkL_len a 4
  have l2 := tkL_len b 5
  have l3 := tkL_len2 a b
  refine cw (keepF Try.f22) Try.f22 false ?_
  repeat' first | refine ck_intro (by first | exact k | exact v_l15Home _ | exact v_l2Makes _ | exact s_WordOk _ | exact v_l15Take _ _ (homeB_le (by first | assumption | (simp_all [makesB]; done))) | exact v_l15Give _ ⟨11 + op, 0, tkR a 4, tkR b 5, 0⟩ _ (homeB_le (by first | assumption | (simp_all [makesB]; done))) (by first | omega | (simp only [List.length_append, List.length_nil]; omega))) ?_ ?_ | refine pw_unroll ?_ | refine g12 @e0 @e20 @e21 @e22 @e23 @e24 @e25 @hm @ints_cons @ints_nil @stepsA @stepsS ?_ | refine d12 @e0 @e20 @e21 @e22 @e23 @e24 @e25 @hm @ints_cons @ints_nil @stepsA @stepsS ?_ | refine j12 @e0 @e20 @e21 @e22 @e23 @e24 @e25 @hm @ints_cons @ints_nil @stepsA @stepsS (fun hg hgo => ?_) fun hg hgo => ?_ | refine ek_ret ?_ | refine ek_norm ?_ | refine ⟨by omega, ?_⟩ | rfl | trivial | intro _
  all_goals first | rfl | (simp_all [beqD, emitL, homedB, takenL, regA, regB, steps]; done) | ((try simp only [emitL, homedB, takenL, regA, regB, steps]); (repeat' split) <;> first | omega | (simp_all [beqD]; done) | (simp_all [beqD]; omega)) | (simp_all [beqD, emitL, homedB, takenL, regA, regB, steps]; (repeat' split) <;> first | rfl | omega | (simp_all; done))
set_option maxHeartbeats 2000000 in
theorem emit_22 (r a b n : Int) : C2 CC F_spec_EmitIns [sF ⟨22, r, a, b, n⟩] (.own 5 (steps (emitL ⟨22, r, a, b, n⟩))) [] := by
  have k := v_InsUses ⟨22, r, a, b, n⟩
  have hu : usesL ⟨22, r, a, b, n⟩ = [a, b] := rfl
  rw [hu] at k
  have hm : makesB 22 = false := by decide
  have l1 := tkL_len a 4
  have l2 := tkL_len b 5
  have l3 := tkL_len2 a b
  refine cw (keepF Try.f22) Try.f22 false ?_
  repeat' first | refine ck_intro (by first | exact k | exact v_l15Home _ | exact v_l2Makes _ | exact s_WordOk _ | exact v_l15Take _ _ (homeB_le (by first | assumption | (simp_all [makesB]; done)))) ?_ ?_ | refine pw_unroll ?_ | refine g5 @hm @ints_cons @ints_nil @stepsA @stepsS ?_ | refine d5 @hm @ints_cons @ints_nil @stepsA @stepsS ?_ | refine j5 @hm @ints_cons @ints_nil @stepsA @stepsS (fun hg hgo => ?_) fun hg hgo => ?_ | refine ek_ret ?_ | refine ek_norm ?_ | refine ⟨by omega, ?_⟩ | rfl | trivial | intro _
  all_goals first | rfl | (simp_all [beqD, emitL, homedB, takenL, regA, regB, steps]; done) | ((try simp only [emitL, homedB, takenL, regA, regB, steps]); (repeat' split) <;> first | omega | (simp_all [beqD]; done) | (simp_all [beqD]; omega)) | (simp_all [beqD, emitL, homedB, takenL, regA, regB, steps]; (repeat' split) <;> first | rfl | omega | (simp_all; done))
theorem v_EmitIns (x : StepD) : C2 CC F_spec_EmitIns [sF x] (.own 5 (steps (emitL x))) [] := by
  obtain ⟨op, r, a, b, n⟩ := x
  cases hw : wok op with
  | true => exact emit_w op r a b n hw
  | false =>
    cases h22 : op == 22 with
    | true => have : op = 22 := by simpa using h22
              subst this; exact emit_22 r a b n
    | false =>
      cases h1 : (op == 21 || op == 23 || op == 25) with
      | true => exact emit_1 op r a b n hw h22 h1
      | false => exact emit_0 op r a b n (by simp [usesL, hw, h22, h1])
theorem v_isHome (n : Int) : C2 CC F_impl_isHome [iv n] (bv (homeB n)) [] := by
  refine cw (keepF Try.f115) Try.f115 false ?_
  repeat' first | refine ck_intro (by first | exact v_in _ _ _) ?_ ?_ | refine g0 ?_ | refine d0 ?_ | refine j0 (fun hg hgo => ?_) fun hg hgo => ?_ | refine ek_ret ?_ | refine ek_norm ?_ | refine ⟨by omega, ?_⟩ | rfl | trivial | intro _
def homedJ (x : StepD) : Bool := formK x.op && (!makesB x.op || homeB x.r) && (!hasA x.op || homeB x.a) && (!hasBb x.op || homeB x.b)
theorem v_homed (x : StepD) : C2 CC F_impl_homed [sF x] (bv (homedJ x)) [] := by
  obtain ⟨op, r, a, b, n⟩ := x
  refine cw (keepF Try.f66) Try.f66 false ?_
  repeat' first | refine ck_intro (by first | exact v_formOf _ | exact v_hasA _ | exact v_hasB _ | exact v_hasD _ | exact v_isHome _) ?_ ?_ | refine g0 ?_ | refine d0 ?_ | refine j0 (fun hg hgo => ?_) fun hg hgo => ?_ | refine ek_ret ?_ | refine ek_norm ?_ | refine ⟨by omega, ?_⟩ | rfl | trivial | intro _
  all_goals first | rfl | (simp_all [beqD, homedJ]; done) | ((try simp only [homedJ]); (repeat' split) <;> first | omega | (simp_all [beqD]; done) | (simp_all [beqD]; omega)) | (simp_all [beqD, homedJ]; (repeat' split) <;> first | rfl | omega | (simp_all; done))
theorem taken_lo (home by_ : Int) (h : home < 4) : C2 CC F_impl_taken [iv home, iv by_] (.tup [iv home, .fv .nil]) [] := by
  refine cw (keepF Try.f69) Try.f69 false ?_
  repeat' first | refine g0 ?_ | refine d0 ?_ | refine j0 (fun hg hgo => ?_) fun hg hgo => ?_ | refine ek_ret ?_ | refine ek_norm ?_ | refine ⟨by omega, ?_⟩ | rfl | trivial | intro _
  all_goals first | rfl | (simp_all [beqD, tkL]; done) | ((try simp only [tkL]); (repeat' split) <;> first | omega | (simp_all [beqD]; done) | (simp_all [beqD]; omega)) | (simp_all [beqD, tkL]; (repeat' split) <;> first | rfl | omega | (simp_all; done))
theorem taken_hi (home by_ : Int) (h : ¬ home < 4) (h1 : home ≤ 39) : C2 CC F_impl_taken [iv home, iv by_] (.tup [iv by_, .own 5 (steps [⟨3, by_, 0, 0, home - 4⟩])]) [] := by
  refine cw (keepF Try.f69) Try.f69 false ?_
  repeat' first | refine g0 ?_ | refine d0 ?_ | refine j0 (fun hg hgo => ?_) fun hg hgo => ?_ | refine ek_ret ?_ | refine ek_norm ?_ | refine ⟨by omega, ?_⟩ | rfl | trivial | intro _
  all_goals first | rfl | (simp_all [beqD, steps]; done) | ((try simp only [steps]); (repeat' split) <;> first | omega | (simp_all [beqD]; done) | (simp_all [beqD]; omega)) | (simp_all [beqD, steps]; (repeat' split) <;> first | rfl | omega | (simp_all; done))
def stepL (x : StepD) (r a b : Int) : StepD :=
  if x.op = 20 then ⟨1, r, 0, 0, x.n⟩ else if x.op = 21 then ⟨5, r, a, 0, 0⟩ else if x.op = 22 then ⟨6, 0, a, b, 0⟩
  else if x.op = 23 then ⟨7, 0, a, 0, 0⟩ else if x.op = 24 then ⟨8, r, 0, 0, 0⟩ else ⟨IntKind.wrap .i64 (x.op + 11), r, a, b, 0⟩
theorem v_stepOf (x : StepD) (r a b : Int) : C2 CC F_impl_stepOf [sF x, iv r, iv a, iv b] (sF (stepL x r a b)) [] := by
  obtain ⟨op, r0, a0, b0, n⟩ := x
  refine cw (keepF Try.f70) Try.f70 false ?_
  repeat' first | refine g0 ?_ | refine d0 ?_ | refine j0 (fun hg hgo => ?_) fun hg hgo => ?_ | refine ek_ret ?_ | refine ek_norm ?_ | refine ⟨by omega, ?_⟩ | rfl | trivial | intro _
  all_goals first | rfl | (simp_all [beqD, stepL]; done) | ((try simp only [stepL]); (repeat' split) <;> first | omega | (simp_all [beqD]; done) | (simp_all [beqD]; omega)) | (simp_all [beqD, stepL]; (repeat' split) <;> first | rfl | omega | (simp_all; done))
theorem v_emitCopy (x : StepD) (h1 : x.r ≤ 39) (h2 : x.a ≤ 39) : C2 CC F_impl_emitCopy [sF x] (.own 5 (steps (copyL x))) [] := by
  obtain ⟨op, r, a, b, n⟩ := x
  simp only at h1 h2
  by_cases ha : a < 4
  · refine cw (keepF Try.f67) Try.f67 false ?_
    repeat' first | refine ck_intro (by first | exact taken_lo _ _ (by omega)) ?_ ?_ | refine g2 @steps_len @stepsS ?_ | refine d2 @steps_len @stepsS ?_ | refine j2 @steps_len @stepsS (fun hg hgo => ?_) fun hg hgo => ?_ | refine ek_ret ?_ | refine ek_norm ?_ | refine ⟨by omega, ?_⟩ | rfl | trivial | intro _
    all_goals first | rfl | (simp_all [beqD, copyL, steps, tkL, tkR]; done) | ((try simp only [copyL, steps, tkL, tkR]); (repeat' split) <;> first | omega | (simp_all [beqD]; done) | (simp_all [beqD]; omega)) | (simp_all [beqD, copyL, steps, tkL, tkR]; (repeat' split) <;> first | rfl | omega | (simp_all; done))
  · refine cw (keepF Try.f67) Try.f67 false ?_
    repeat' first | refine ck_intro (by first | exact taken_hi _ _ (by omega) (by omega)) ?_ ?_ | refine g2 @steps_len @stepsS ?_ | refine d2 @steps_len @stepsS ?_ | refine j2 @steps_len @stepsS (fun hg hgo => ?_) fun hg hgo => ?_ | refine ek_ret ?_ | refine ek_norm ?_ | refine ⟨by omega, ?_⟩ | rfl | trivial | intro _
    all_goals first | rfl | (simp_all [beqD, copyL, steps, tkL, tkR]; done) | ((try simp only [copyL, steps, tkL, tkR]); (repeat' split) <;> first | omega | (simp_all [beqD]; done) | (simp_all [beqD]; omega)) | (simp_all [beqD, copyL, steps, tkL, tkR]; (repeat' split) <;> first | rfl | omega | (simp_all; done))
theorem i_none (x : StepD) (h : homedJ x = false) : C2 CC F_impl_EmitIns [sF x] (.fv .nil) [] := by
  have k := v_homed x
  rw [h] at k
  refine cw (keepF Try.f20) Try.f20 false ?_
  repeat' first | refine ck_intro (by first | exact k) ?_ ?_ | refine g0 ?_ | refine d0 ?_ | refine j0 (fun hg hgo => ?_) fun hg hgo => ?_ | refine ek_ret ?_ | refine ek_norm ?_ | refine ⟨by omega, ?_⟩ | rfl | trivial | intro _
theorem i_copy (r a b n : Int) (hr : homeB r = true) (ha : homeB a = true) : C2 CC F_impl_EmitIns [sF ⟨25, r, a, b, n⟩] (.own 5 (steps (emitL ⟨25, r, a, b, n⟩))) [] := by
  have k := v_homed ⟨25, r, a, b, n⟩
  have hk : homedJ ⟨25, r, a, b, n⟩ = true := by simp [homedJ, hr, ha, hasBb, wok, formK]
  rw [hk] at k
  have he : emitL ⟨25, r, a, b, n⟩ = copyL ⟨25, r, a, b, n⟩ := by simp [emitL, homedB, usesL, makesB, wok, hr, ha]
  rw [he]
  refine cw (keepF Try.f20) Try.f20 false ?_
  repeat' first | refine ck_intro (by first | exact k | exact v_emitCopy ⟨25, r, a, b, n⟩ (homeB_le hr) (homeB_le ha)) ?_ ?_ | refine g0 ?_ | refine d0 ?_ | refine j0 (fun hg hgo => ?_) fun hg hgo => ?_ | refine ek_ret ?_ | refine ek_norm ?_ | refine ⟨by omega, ?_⟩ | rfl | trivial | intro _
theorem i_const (r a b n : Int) (hr : homeB r = true) : C2 CC F_impl_EmitIns [sF ⟨20, r, a, b, n⟩] (.own 5 (steps (emitL ⟨20, r, a, b, n⟩))) [] := by
  have k := v_homed ⟨20, r, a, b, n⟩
  have hk : homedJ ⟨20, r, a, b, n⟩ = true := by simp [homedJ, hr, hasA, hasBb, wok, formK]
  rw [hk] at k
  have r1 := homeB_le hr
  have hA : hasA 20 = false := by decide
  have hB : hasBb 20 = false := by decide
  have hD : makesB 20 = true := by decide
  refine cw (keepF Try.f20) Try.f20 false ?_
  repeat' first | refine ck_intro (by first | exact k | exact v_hasA _ | exact v_hasB _ | exact v_hasD _ | exact v_stepOf ⟨20, r, a, b, n⟩ _ _ _) ?_ ?_ | refine g3 @hA @hB @hD ?_ | refine d3 @hA @hB @hD ?_ | refine j3 @hA @hB @hD (fun hg hgo => ?_) fun hg hgo => ?_ | refine ek_ret ?_ | refine ek_norm ?_ | refine ⟨by omega, ?_⟩ | rfl | trivial | intro _
  all_goals first | rfl | (simp_all [beqD, emitL, homedB, usesL, makesB, wok, takenL, regA, regB, giveL, stepL, steps]; done) | ((try simp only [emitL, homedB, usesL, makesB, wok, takenL, regA, regB, giveL, stepL, steps]); (repeat' split) <;> first | omega | (simp_all [beqD]; done) | (simp_all [beqD]; omega)) | (simp_all [beqD, emitL, homedB, usesL, makesB, wok, takenL, regA, regB, giveL, stepL, steps]; (repeat' split) <;> first | rfl | omega | (simp_all; done))
theorem i_read (r a b n : Int) (hr : homeB r = true) : C2 CC F_impl_EmitIns [sF ⟨24, r, a, b, n⟩] (.own 5 (steps (emitL ⟨24, r, a, b, n⟩))) [] := by
  have k := v_homed ⟨24, r, a, b, n⟩
  have hk : homedJ ⟨24, r, a, b, n⟩ = true := by simp [homedJ, hr, hasA, hasBb, wok, formK]
  rw [hk] at k
  have r1 := homeB_le hr
  have hA : hasA 24 = false := by decide
  have hB : hasBb 24 = false := by decide
  have hD : makesB 24 = true := by decide
  refine cw (keepF Try.f20) Try.f20 false ?_
  repeat' first | refine ck_intro (by first | exact k | exact v_hasA _ | exact v_hasB _ | exact v_hasD _ | exact v_stepOf ⟨24, r, a, b, n⟩ _ _ _) ?_ ?_ | refine g3 @hA @hB @hD ?_ | refine d3 @hA @hB @hD ?_ | refine j3 @hA @hB @hD (fun hg hgo => ?_) fun hg hgo => ?_ | refine ek_ret ?_ | refine ek_norm ?_ | refine ⟨by omega, ?_⟩ | rfl | trivial | intro _
  all_goals first | rfl | (simp_all [beqD, emitL, homedB, usesL, makesB, wok, takenL, regA, regB, giveL, stepL, steps]; done) | ((try simp only [emitL, homedB, usesL, makesB, wok, takenL, regA, regB, giveL, stepL, steps]); (repeat' split) <;> first | omega | (simp_all [beqD]; done) | (simp_all [beqD]; omega)) | (simp_all [beqD, emitL, homedB, usesL, makesB, wok, takenL, regA, regB, giveL, stepL, steps]; (repeat' split) <;> first | rfl | omega | (simp_all; done))
theorem i_out (r a b n : Int) (ha : homeB a = true) : C2 CC F_impl_EmitIns [sF ⟨23, r, a, b, n⟩] (.own 5 (steps (emitL ⟨23, r, a, b, n⟩))) [] := by
  have k := v_homed ⟨23, r, a, b, n⟩
  have hk : homedJ ⟨23, r, a, b, n⟩ = true := by simp [homedJ, ha, makesB, hasBb, wok, formK]
  rw [hk] at k
  have a1 := homeB_le ha
  have hA : hasA 23 = true := by decide
  have hB : hasBb 23 = false := by decide
  have hD : makesB 23 = false := by decide
  by_cases ca : a < 4
  all_goals
    refine cw (keepF Try.f20) Try.f20 false ?_
    repeat' first | refine ck_intro (by first | exact k | exact v_hasA _ | exact v_hasB _ | exact v_hasD _ | exact v_stepOf ⟨23, r, a, b, n⟩ _ _ _ | exact taken_lo _ _ (by omega) | exact taken_hi _ _ (by omega) (by omega)) ?_ ?_ | refine g3 @hA @hB @hD ?_ | refine d3 @hA @hB @hD ?_ | refine j3 @hA @hB @hD (fun hg hgo => ?_) fun hg hgo => ?_ | refine ek_ret ?_ | refine ek_norm ?_ | refine ⟨by omega, ?_⟩ | rfl | trivial | intro _
    all_goals first | rfl | (simp_all [beqD, emitL, homedB, usesL, makesB, wok, takenL, regA, regB, giveL, stepL, steps, tkL, tkR]; done) | ((try simp only [emitL, homedB, usesL, makesB, wok, takenL, regA, regB, giveL, stepL, steps, tkL, tkR]); (repeat' split) <;> first | omega | (simp_all [beqD]; done) | (simp_all [beqD]; omega)) | (simp_all [beqD, emitL, homedB, usesL, makesB, wok, takenL, regA, regB, giveL, stepL, steps, tkL, tkR]; (repeat' split) <;> first | rfl | omega | (simp_all; done))
theorem i_load (r a b n : Int) (hr : homeB r = true) (ha : homeB a = true) : C2 CC F_impl_EmitIns [sF ⟨21, r, a, b, n⟩] (.own 5 (steps (emitL ⟨21, r, a, b, n⟩))) [] := by
  have k := v_homed ⟨21, r, a, b, n⟩
  have hk : homedJ ⟨21, r, a, b, n⟩ = true := by simp [homedJ, hr, ha, hasBb, wok, formK]
  rw [hk] at k
  have r1 := homeB_le hr
  have a1 := homeB_le ha
  have hA : hasA 21 = true := by decide
  have hB : hasBb 21 = false := by decide
  have hD : makesB 21 = true := by decide
  by_cases ca : a < 4
  all_goals
    refine cw (keepF Try.f20) Try.f20 false ?_
    repeat' first | refine ck_intro (by first | exact k | exact v_hasA _ | exact v_hasB _ | exact v_hasD _ | exact v_stepOf ⟨21, r, a, b, n⟩ _ _ _ | exact taken_lo _ _ (by omega) | exact taken_hi _ _ (by omega) (by omega)) ?_ ?_ | refine g3 @hA @hB @hD ?_ | refine d3 @hA @hB @hD ?_ | refine j3 @hA @hB @hD (fun hg hgo => ?_) fun hg hgo => ?_ | refine ek_ret ?_ | refine ek_norm ?_ | refine ⟨by omega, ?_⟩ | rfl | trivial | intro _
    all_goals first | rfl | (simp_all [beqD, emitL, homedB, usesL, makesB, wok, takenL, regA, regB, giveL, stepL, steps, tkL, tkR]; done) | ((try simp only [emitL, homedB, usesL, makesB, wok, takenL, regA, regB, giveL, stepL, steps, tkL, tkR]); (repeat' split) <;> first | omega | (simp_all [beqD]; done) | (simp_all [beqD]; omega)) | (simp_all [beqD, emitL, homedB, usesL, makesB, wok, takenL, regA, regB, giveL, stepL, steps, tkL, tkR]; (repeat' split) <;> first | rfl | omega | (simp_all; done))
theorem i_store (r a b n : Int) (ha : homeB a = true) (hb : homeB b = true) : C2 CC F_impl_EmitIns [sF ⟨22, r, a, b, n⟩] (.own 5 (steps (emitL ⟨22, r, a, b, n⟩))) [] := by
  have k := v_homed ⟨22, r, a, b, n⟩
  have hk : homedJ ⟨22, r, a, b, n⟩ = true := by simp [homedJ, ha, hb, makesB, wok, formK]
  rw [hk] at k
  have a1 := homeB_le ha
  have b1 := homeB_le hb
  have hA : hasA 22 = true := by decide
  have hB : hasBb 22 = true := by decide
  have hD : makesB 22 = false := by decide
  by_cases ca : a < 4 <;> by_cases cb : b < 4
  all_goals
    refine cw (keepF Try.f20) Try.f20 false ?_
    repeat' first | refine ck_intro (by first | exact k | exact v_hasA _ | exact v_hasB _ | exact v_hasD _ | exact v_stepOf ⟨22, r, a, b, n⟩ _ _ _ | exact taken_lo _ _ (by omega) | exact taken_hi _ _ (by omega) (by omega)) ?_ ?_ | refine g3 @hA @hB @hD ?_ | refine d3 @hA @hB @hD ?_ | refine j3 @hA @hB @hD (fun hg hgo => ?_) fun hg hgo => ?_ | refine ek_ret ?_ | refine ek_norm ?_ | refine ⟨by omega, ?_⟩ | rfl | trivial | intro _
    all_goals first | rfl | (simp_all [beqD, emitL, homedB, usesL, makesB, wok, takenL, regA, regB, giveL, stepL, steps, tkL, tkR]; done) | ((try simp only [emitL, homedB, usesL, makesB, wok, takenL, regA, regB, giveL, stepL, steps, tkL, tkR]); (repeat' split) <;> first | omega | (simp_all [beqD]; done) | (simp_all [beqD]; omega)) | (simp_all [beqD, emitL, homedB, usesL, makesB, wok, takenL, regA, regB, giveL, stepL, steps, tkL, tkR]; (repeat' split) <;> first | rfl | omega | (simp_all; done))
theorem i_word (op r a b n : Int) (hw : wok op = true) (hr : homeB r = true) (ha : homeB a = true) (hb : homeB b = true) : C2 CC F_impl_EmitIns [sF ⟨op, r, a, b, n⟩] (.own 5 (steps (emitL ⟨op, r, a, b, n⟩))) [] := by
  have k := v_homed ⟨op, r, a, b, n⟩
  have hop := wok_range hw
  have hA : hasA op = true := by simp [hasA, hw]
  have hB : hasBb op = true := by simp [hasBb, hw]
  have hD : makesB op = true := by simp [makesB, hw]
  have e20 : ¬ op = 20 := by omega
  have e21 : ¬ op = 21 := by omega
  have e22 : ¬ op = 22 := by omega
  have e23 : ¬ op = 23 := by omega
  have e24 : ¬ op = 24 := by omega
  have e25 : ¬ op = 25 := by omega
  have hf : formK op = true := by simp [formK, hw, e20, e21, e22, e23, e24, e25]
  have hk : homedJ ⟨op, r, a, b, n⟩ = true := by simp [homedJ, hr, ha, hb, hf]
  rw [hk] at k
  have d25 : (op == 25) = false := by simp [e25]
  have r1 := homeB_le hr
  have a1 := homeB_le ha
  have b1 := homeB_le hb
  have hs : ∀ r' a' b', stepL ⟨op, r, a, b, n⟩ r' a' b' = ⟨11 + op, r', a', b', 0⟩ := by
    intro r' a' b'
    simp only [stepL, if_neg e20, if_neg e21, if_neg e22, if_neg e23, if_neg e24]
    rw [wrapI (by omega) (by omega), Int.add_comm]
  have he : emitL ⟨op, r, a, b, n⟩ = giveL (tkL a 4 ++ tkL b 5) ⟨11 + op, 0, tkR a 4, tkR b 5, 0⟩ r := by simp [emitL, homedB, usesL, takenL, regA, regB, hw, hD, hr, ha, hb, e20, e21, e22, e23, e24, e25]
  rw [he]
  clear he
  by_cases ca : a < 4 <;> by_cases cb : b < 4
  all_goals
    refine cw (keepF Try.f20) Try.f20 false ?_
    repeat' first | refine ck_intro (by first | exact k | exact v_hasA _ | exact v_hasB _ | exact v_hasD _ | exact v_stepOf ⟨op, r, a, b, n⟩ _ _ _ | exact taken_lo _ _ (by omega) | exact taken_hi _ _ (by omega) (by omega)) ?_ ?_ | refine g4 @hA @hB @hD @d25 ?_ | refine d4 @hA @hB @hD @d25 ?_ | refine j4 @hA @hB @hD @d25 (fun hg hgo => ?_) fun hg hgo => ?_ | refine ek_ret ?_ | refine ek_norm ?_ | refine ⟨by omega, ?_⟩ | rfl | trivial | intro _
    all_goals first | rfl | (simp_all [beqD, giveL, steps, tkL, tkR]; done) | ((try simp only [giveL, steps, tkL, tkR]); (repeat' split) <;> first | omega | (simp_all [beqD]; done) | (simp_all [beqD]; omega)) | (simp_all [beqD, giveL, steps, tkL, tkR]; (repeat' split) <;> first | rfl | omega | (simp_all; done))
theorem i_EmitIns (x : StepD) : C2 CC F_impl_EmitIns [sF x] (if homedJ x = true then .own 5 (steps (emitL x)) else .fv .nil) [] := by
  split
  · rename_i h
    obtain ⟨op, r, a, b, n⟩ := x
    simp only [homedJ, Bool.and_eq_true, Bool.or_eq_true, Bool.not_eq_true'] at h
    obtain ⟨⟨⟨h1, h2⟩, h3⟩, h4⟩ := h
    by_cases e20 : op = 20
    · subst e20; exact i_const r a b n (h2.resolve_left (by decide))
    by_cases e21 : op = 21
    · subst e21; exact i_load r a b n (h2.resolve_left (by decide)) (h3.resolve_left (by decide))
    by_cases e22 : op = 22
    · subst e22; exact i_store r a b n (h3.resolve_left (by decide)) (h4.resolve_left (by decide))
    by_cases e23 : op = 23
    · subst e23; exact i_out r a b n (h3.resolve_left (by decide))
    by_cases e24 : op = 24
    · subst e24; exact i_read r a b n (h2.resolve_left (by decide))
    by_cases e25 : op = 25
    · subst e25; exact i_copy r a b n (h2.resolve_left (by decide)) (h3.resolve_left (by decide))
    have hw : wok op = true := by simpa [formK, e20, e21, e22, e23, e24, e25] using h1
    exact i_word op r a b n hw (h2.resolve_left (by simp [makesB, hw])) (h3.resolve_left (by simp [hasA, hw])) (h4.resolve_left (by simp [hasBb, hw]))
  · rename_i h
    exact i_none x (by simpa using h)
theorem and_low (a b : Int) (hb : 0 ≤ b ∧ b ≤ 1099511627776) : 0 ≤ bits .and .i64 a b ∧ bits .and .i64 a b ≤ b := by
  have h : bits .and .i64 a b = IntKind.i64.wrap ((BitVec.ofInt 64 a &&& BitVec.ofInt 64 b).toNat : Int) := rfl
  have h1 : (BitVec.ofInt 64 b).toNat = b.toNat := by
    obtain ⟨n, rfl⟩ : ∃ n : Nat, b = n := ⟨b.toNat, by omega⟩
    rw [BitVec.ofInt_natCast, BitVec.toNat_ofNat, Nat.mod_eq_of_lt (by omega)]; rfl
  have h2 : (BitVec.ofInt 64 a).toNat &&& (BitVec.ofInt 64 b).toNat ≤ b.toNat := by rw [h1]; exact Nat.and_le_right
  rw [h, BitVec.toNat_and, wrapI (by omega) (by omega)]
  omega
@[go_sem] theorem bin_shr {Γ : TypeId → Option TI} {E : TypeId → Nat} {t : TypeId} {k k' : IntKind} {a b : Int} (h : ¬ b < 0) : binV Γ E .shr t (.int k a) (.int k' b) = some (.int k (a.fdiv (2 ^ min b.toNat k.bits))) := by
  simp only [binV, if_neg h]
attribute [go_sem] bin_rem bin_and bin_xor
structure CurD where
  b : List Int
  i : Int
  h : Int
structure CurD.ok (c : CurD) : Prop where
  bytes : ∀ x ∈ c.b, 0 ≤ x ∧ x < 256
  pos : 0 ≤ c.i ∧ c.i ≤ c.b.length
  len : c.b.length ≤ 1048576
abbrev curO (c : CurD) : DV := .box (.fv (.agg [.row 1 (c.b.map (.int .u8)), .int .i64 c.i, .int .i64 c.h]))
def hN (l : List Int) : Nat → Int
  | 0 => 17111 + l.length
  | j + 1 => bits .and .i64 (hN l j * 131 + (l[j]?).getD 0 + 7) 1073741823
theorem hN_in (l : List Int) (hl : l.length ≤ 1048576) : ∀ j, 0 ≤ hN l j ∧ hN l j ≤ 1073741823
  | 0 => by unfold hN; omega
  | j + 1 => by unfold hN; exact and_low _ _ (by decide)
theorem v_l1New (l : List Int) (hl : l.length ≤ 1048576) (hb : ∀ x ∈ l, 0 ≤ x ∧ x < 256) : C2 CC F_spec_l1New [.fv (rb l)] (curO ⟨l, 0, hN l (min l.length 4000)⟩) [] := by
  unfold rb
  refine cw (keepF Try.f57) Try.f57 false ?_
  repeat' first | refine g0 ?_ | refine d0 ?_ | refine j0 (fun hg hgo => ?_) fun hg hgo => ?_ | refine ek_ret ?_ | refine ek_norm ?_ | refine ⟨by omega, ?_⟩ | rfl | trivial | intro _
  refine pw_loop (fun m st => ∃ j : Nat, j + m = min l.length 4000 ∧ st = [(0, .fv (rb l)), (3, iv (hN l j)), (4, iv j)]) (min l.length 4000) [(0, .fv (rb l)), (3, iv (hN l 0)), (4, iv (0 : Nat))] (sub_of ?_) ⟨0, by omega, rfl⟩ ?_
  · unfold rb hN
    exact dn
  · rintro m st ⟨j, hj, rfl⟩
    unfold rb
    have hr := hN_in l hl j
    by_cases hlt : j < l.length
    · have hd : decide ((j : Int) < (l.length : Int)) = true := by rw [decide_eq_true_eq]; omega
      have hml : j < (l.map (FV.int .u8)).length := by rw [List.length_map]; exact hlt
      by_cases h4 : j < 4000
      · have hd4 : decide ((j : Int) < 4000) = true := by rw [decide_eq_true_eq]; omega
        have hx := hb l[j] (List.getElem_mem hlt)
        have hs : hN l (j + 1) = bits .and .i64 (hN l j * 131 + l[j] + 7) 1073741823 := by
          rw [hN, List.getElem?_eq_getElem hlt]; rfl
        generalize hN l j = q at hr hs
        repeat' first | refine g2 @hd @hd4 ?_ | refine d2 @hd @hd4 ?_ | refine j2 @hd @hd4 (fun hg hgo => ?_) fun hg hgo => ?_ | refine ek_ret ?_ | refine ek_norm ?_ | refine ⟨by omega, ?_⟩ | rfl | trivial | intro _
        refine rd_norm [(0, .fv (.row 1 (l.map (.int .u8)))), (3, iv (hN l (j + 1))), (4, iv (j + 1 : Nat))] (sub_of ?_) (m - 1) (by omega) ⟨j + 1, by omega, rfl⟩
        rw [hs]
        exact dn
      · have hd4 : decide ((j : Int) < 4000) = false := by rw [decide_eq_false_iff_not]; omega
        have hjm : min l.length 4000 = j := by omega
        rw [hjm]
        repeat' first | refine g2 @hd @hd4 ?_ | refine d2 @hd @hd4 ?_ | refine j2 @hd @hd4 (fun hg hgo => ?_) fun hg hgo => ?_ | refine ek_ret ?_ | refine ek_norm ?_ | refine ⟨by omega, ?_⟩ | rfl | trivial | intro _
    · have hd : decide ((j : Int) < (l.length : Int)) = false := by rw [decide_eq_false_iff_not]; omega
      have hjm : min l.length 4000 = j := by omega
      rw [hjm]
      repeat' first | refine g1 @hd ?_ | refine d1 @hd ?_ | refine j1 @hd (fun hg hgo => ?_) fun hg hgo => ?_ | refine ek_ret ?_ | refine ek_norm ?_ | refine ⟨by omega, ?_⟩ | rfl | trivial | intro _
def nxH (h : Int) : Int := IntKind.i64.wrap (IntKind.i64.wrap (h * 6364136223846793005) + 1442695040888963407)
def mixI (h : Int) : Int := bits .and .i64 (bits .xor .i64 ((nxH h).fdiv (2 ^ min 33 64)) ((nxH h).fdiv (2 ^ min 45 64))) 255
theorem x_l1Byte (c : CurD) (hc : c.ok) : ∃ x c', C2 CC F_spec_l1Byte [curO c] (iv x) [curO c'] ∧ (0 ≤ x ∧ x ≤ 255) ∧ c'.ok := by
  obtain ⟨b, i, h⟩ := c
  obtain ⟨hb, hi, hl⟩ := hc
  simp only at hb hi hl
  by_cases hlt : i < b.length
  · have hd : decide (i < (b.length : Int)) = true := by rw [decide_eq_true_eq]; exact hlt
    obtain ⟨j, rfl⟩ := Int.eq_ofNat_of_zero_le hi.1
    have hml : j < (b.map (FV.int .u8)).length := by rw [List.length_map]; omega
    have hjl : j < b.length := by omega
    have hx := hb b[j] (List.getElem_mem hjl)
    refine ⟨bits .and .i64 (IntKind.i64.wrap (mixI h + b[j])) 255, ⟨b, (j : Int) + 1, nxH h⟩, ?_, and_low _ _ (by decide), hb, by simp only; omega, hl⟩
    unfold mixI nxH
    refine cw (keepF Try.f64) Try.f64 false ?_
    repeat' first | refine pd3 13 [0, 1, 3, 7, 15, 0, 32, 96, 224, 480, 1023, 2047, 4095] [0, 0, 0, 1, 0, 0, 0, 0, 1, 0, 0, 0, 0] false ?_ | refine pd3 25 [0, 1, 3, 7, 0, 16, 48, 112, 240, 511] [0, 0, 0, 1, 0, 0, 0, 1, 0, 0] false ?_ | refine pd3 35 [0, 0, 2, 6, 14, 0, 32, 96, 224, 510, 1022, 2046, 4095, 8191, 16383] [0, 0, 0, 0, 1, 0, 0, 0, 1, 0, 1, 0, 0, 0, 0] false ?_ | refine g1 @hd ?_ | refine d1 @hd ?_ | refine j1 @hd (fun hg hgo => ?_) fun hg hgo => ?_ | refine ek_ret ?_ | refine ek_norm ?_ | refine ⟨by omega, ?_⟩ | rfl | trivial | intro _
  · have hd : decide (i < (b.length : Int)) = false := by rw [decide_eq_false_iff_not]; exact hlt
    refine ⟨mixI h, ⟨b, i, nxH h⟩, ?_, and_low _ _ (by decide), hb, hi, hl⟩
    unfold mixI nxH
    refine cw (keepF Try.f64) Try.f64 false ?_
    repeat' first | refine pd3 13 [0, 1, 3, 7, 15, 0, 32, 96, 224, 480, 1023, 2047, 4095] [0, 0, 0, 1, 0, 0, 0, 0, 1, 0, 0, 0, 0] false ?_ | refine pd3 25 [0, 1, 3, 7, 0, 16, 48, 112, 240, 511] [0, 0, 0, 1, 0, 0, 0, 1, 0, 0] false ?_ | refine pd3 35 [0, 0, 2, 6, 14, 0, 32, 96, 224, 510, 1022, 2046, 4095, 8191, 16383] [0, 0, 0, 0, 1, 0, 0, 0, 1, 0, 1, 0, 0, 0, 0] false ?_ | refine g1 @hd ?_ | refine d1 @hd ?_ | refine j1 @hd (fun hg hgo => ?_) fun hg hgo => ?_ | refine ek_ret ?_ | refine ek_norm ?_ | refine ⟨by omega, ?_⟩ | rfl | trivial | intro _
theorem tmod_in {x n : Int} (hx : 0 ≤ x) (hn : 0 < n) : 0 ≤ x.tmod n ∧ x.tmod n < n := ⟨Int.tmod_nonneg _ hx, Int.tmod_lt_of_pos _ hn⟩
theorem x_l1Below (c : CurD) (n : Int) (hc : c.ok) (hn : n ≤ 1099511627776) : ∃ x c', C2 CC F_spec_l1Below [curO c, iv n] (iv x) [curO c'] ∧ (0 ≤ x ∧ (x < n ∨ (n ≤ 0 ∧ x = 0))) ∧ c'.ok := by
  by_cases h0 : n ≤ 0
  · have hd : decide (n ≤ 0) = true := by rw [decide_eq_true_eq]; exact h0
    refine ⟨0, c, ?_, by omega, hc⟩
    refine cw (keepF Try.f63) Try.f63 false ?_
    repeat' first | refine g1 @hd ?_ | refine d1 @hd ?_ | refine j1 @hd (fun hg hgo => ?_) fun hg hgo => ?_ | refine ek_ret ?_ | refine ek_norm ?_ | refine ⟨by omega, ?_⟩ | rfl | trivial | intro _
  · have hd : decide (n ≤ 0) = false := by rw [decide_eq_false_iff_not]; exact h0
    have hnz : ¬ n = 0 := by omega
    obtain ⟨x1, c1, k1, r1, o1⟩ := x_l1Byte c hc
    by_cases h1 : n ≤ 256
    · have hd1 : decide (n ≤ 256) = true := by rw [decide_eq_true_eq]; exact h1
      have hr := tmod_in (x := x1) (n := n) r1.1 (by omega)
      refine ⟨x1.tmod n, c1, ?_, ⟨hr.1, .inl hr.2⟩, o1⟩
      refine cw (keepF Try.f63) Try.f63 false ?_
      repeat' first | refine ck_intro (by first | exact k1) ?_ ?_ | refine g3 @hd @hd1 @hnz ?_ | refine d3 @hd @hd1 @hnz ?_ | refine j3 @hd @hd1 @hnz (fun hg hgo => ?_) fun hg hgo => ?_ | refine ek_ret ?_ | refine ek_norm ?_ | refine ⟨by omega, ?_⟩ | rfl | trivial | intro _
    · have hd1 : decide (n ≤ 256) = false := by rw [decide_eq_false_iff_not]; exact h1
      obtain ⟨x2, c2, k2, r2, o2⟩ := x_l1Byte c1 o1
      obtain ⟨x3, c3, k3, r3, o3⟩ := x_l1Byte c2 o2
      obtain ⟨x4, c4, k4, r4, o4⟩ := x_l1Byte c3 o3
      have hr := tmod_in (x := x1 * 16777216 + x2 * 65536 + x3 * 256 + x4) (n := n) (by omega) (by omega)
      refine ⟨(x1 * 16777216 + x2 * 65536 + x3 * 256 + x4).tmod n, c4, ?_, ⟨hr.1, .inl hr.2⟩, o4⟩
      refine cw (keepF Try.f63) Try.f63 false ?_
      repeat' first | refine ck_intro (by first | exact k1 | exact k2 | exact k3 | exact k4) ?_ ?_ | refine g3 @hd @hd1 @hnz ?_ | refine d3 @hd @hd1 @hnz ?_ | refine j3 @hd @hd1 @hnz (fun hg hgo => ?_) fun hg hgo => ?_ | refine ek_ret ?_ | refine ek_norm ?_ | refine ⟨by omega, ?_⟩ | rfl | trivial | intro _
theorem x_l1Once (c : CurD) (n : Int) (hc : c.ok) (hn : n ≤ 1099511627776) : ∃ x c', C2 CC F_spec_l1Once [curO c, iv n] (bv x) [curO c'] ∧ c'.ok := by
  obtain ⟨x1, c1, k1, r1, o1⟩ := x_l1Below c n hc hn
  refine ⟨x1 == 0, c1, ?_, o1⟩
  refine cw (keepF Try.f58) Try.f58 false ?_
  repeat' first | refine ck_intro (by first | exact k1) ?_ ?_ | refine g0 ?_ | refine d0 ?_ | refine j0 (fun hg hgo => ?_) fun hg hgo => ?_ | refine ek_ret ?_ | refine ek_norm ?_ | refine ⟨by omega, ?_⟩ | rfl | trivial | intro _
theorem x_l1PickInt (c : CurD) (l : List Int) (hc : c.ok) (hl : l ≠ []) (hn : l.length ≤ 1048576) : ∃ x c', C2 CC F_spec_l1PickInt [curO c, .fv (.row 1 (l.map (.int .i64)))] (iv x) [curO c'] ∧ x ∈ l ∧ c'.ok := by
  obtain ⟨x1, c1, k1, r1, o1⟩ := x_l1Below c l.length hc (by omega)
  have hpos : 0 < l.length := List.length_pos_iff.2 hl
  obtain ⟨j, rfl⟩ := Int.eq_ofNat_of_zero_le r1.1
  have hj : j < l.length := by omega
  have hml : j < (l.map (FV.int .i64)).length := by rw [List.length_map]; exact hj
  refine ⟨l[j], c1, ?_, List.getElem_mem hj, o1⟩
  refine cw (keepF Try.f59) Try.f59 false ?_
  repeat' first | refine ck_intro (by first | exact k1) ?_ ?_ | refine g0 ?_ | refine d0 ?_ | refine j0 (fun hg hgo => ?_) fun hg hgo => ?_ | refine ek_ret ?_ | refine ek_norm ?_ | refine ⟨by omega, ?_⟩ | rfl | trivial | intro _


theorem v_big (l : List Int) : C2 CC F_laws_big [.fv (.row 1 (l.map (.int .u8)))] (bv (decide ((l.length : Int) > 1048576))) [] := by
  refine cw (keepF Try.f12) Try.f12 false ?_
  repeat' first | refine g0 ?_ | refine d0 ?_ | refine j0 (fun hg hgo => ?_) fun hg hgo => ?_ | refine ek_ret ?_ | refine ek_norm ?_ | refine ⟨by omega, ?_⟩ | rfl | trivial | intro _
structure BytesOk (l : List Int) : Prop where
  bytes : ∀ x ∈ l, 0 ≤ x ∧ x < 256
  len : l.length ≤ 1048576
theorem cur_new {l : List Int} (h : BytesOk l) {q : Int} : CurD.ok ⟨l, 0, q⟩ := ⟨h.bytes, by simp, h.len⟩
theorem emitL_no (x : StepD) (h : homedJ x = false) : emitL x = [] := by
  obtain ⟨op, r, a, b, n⟩ := x
  cases hw : wok op with
  | true =>
    have hr := wok_range hw
    have e20 : ¬ op = 20 := by omega
    have e21 : ¬ op = 21 := by omega
    have e22 : ¬ op = 22 := by omega
    have e23 : ¬ op = 23 := by omega
    have e24 : ¬ op = 24 := by omega
    have e25 : ¬ op = 25 := by omega
    simp_all [homedJ, homedB, usesL, emitL, formK, hasA, hasBb, makesB, beqD]
    intro h1 h2 h3
    have := h h3 h1
    simp_all
  | false =>
    by_cases e20 : op = 20
    · subst e20; simp_all [homedJ, homedB, usesL, emitL, formK, hasA, hasBb, makesB, beqD]
    by_cases e21 : op = 21
    · subst e21; simp_all [homedJ, homedB, usesL, emitL, formK, hasA, hasBb, makesB, beqD]
      all_goals (intro h1 h2; simp_all)
    by_cases e22 : op = 22
    · subst e22; simp_all [homedJ, homedB, usesL, emitL, formK, hasA, hasBb, makesB, beqD]
      all_goals (intro h1 h2; simp_all)
    by_cases e23 : op = 23
    · subst e23; simp_all [homedJ, homedB, usesL, emitL, formK, hasA, hasBb, makesB, beqD]
    by_cases e24 : op = 24
    · subst e24; simp_all [homedJ, homedB, usesL, emitL, formK, hasA, hasBb, makesB, beqD]
    by_cases e25 : op = 25
    · subst e25; simp_all [homedJ, homedB, usesL, emitL, formK, hasA, hasBb, makesB, beqD]
      all_goals (intro h1 h2; simp_all)
    simp_all [emitL]
theorem giveL_le (l : List StepD) (s : StepD) (h : Int) : (giveL l s h).length ≤ l.length + 2 := by unfold giveL; split <;> simp
theorem emitL_le (x : StepD) : (emitL x).length ≤ 4 := by
  have ht : (takenL x).length ≤ 2 := by
    have h1 := tkL_len x.a 4
    have h2 := tkL_len x.b 5
    unfold takenL; rw [List.length_append]
    split <;> split <;> simp <;> omega
  have hg := fun s h => giveL_le (takenL x) s h
  have hc : (copyL x).length ≤ 2 := by
    have h1 := tkL_len x.a 4
    unfold copyL; split; simp; split; simp; rw [List.length_append]; simp; omega
  unfold emitL
  repeat' split
  all_goals first | (simp; done) | exact Nat.le_trans (hg _ _) (by omega) | (simp; omega) | omega
theorem v_InsDefE (x : StepD) : C2 CC F_impl_InsDef [sF x] (iv (if makesB x.op = true then x.r else -1)) [] := by
  obtain ⟨op, r, a, b, n⟩ := x
  refine cw (keepF Try.f24) Try.f24 false ?_
  repeat' first | refine ck_intro (by first | exact v_hasD _) ?_ ?_ | refine g0 ?_ | refine d0 ?_ | refine j0 (fun hg hgo => ?_) fun hg hgo => ?_ | refine ek_ret ?_ | refine ek_norm ?_ | refine ⟨by omega, ?_⟩ | rfl | trivial | intro _
  all_goals simp_all
theorem x_l2DrawIns (c : CurD) (hc : c.ok) : ∃ x c', C2 CC F_spec_l2DrawIns [curO c] (sF x) [curO c'] ∧ (0 ≤ x.r ∧ x.r ≤ 8) ∧ c'.ok := by
  obtain ⟨x0, c0, k0, h0, o0⟩ := x_l1PickInt c [0, 1, 5, 10, 11, 20, 21, 22, 23, 24, 25, 26] hc (by simp) (by simp)
  obtain ⟨x1, c1, k1, r1, o1⟩ := x_l1Below c0 9 o0 (by decide)
  obtain ⟨x2, c2, k2, r2, o2⟩ := x_l1Below c1 9 o1 (by decide)
  obtain ⟨x3, c3, k3, r3, o3⟩ := x_l1Below c2 9 o2 (by decide)
  obtain ⟨x4, c4, k4, r4, o4⟩ := x_l1Below c3 3 o3 (by decide)
  refine ⟨⟨x0, x1, x2, x3, x4⟩, c4, ?_, ?_, o4⟩
  · refine cw (keepF Try.f65) Try.f65 false ?_
    repeat' first | refine ck_intro (by first | exact k0 | exact k1 | exact k2 | exact k3 | exact k4) ?_ ?_ | refine g0 ?_ | refine d0 ?_ | refine j0 (fun hg hgo => ?_) fun hg hgo => ?_ | refine ek_ret ?_ | refine ek_norm ?_ | refine ⟨by omega, ?_⟩ | rfl | trivial | intro _
  · simp only; omega
theorem x_DrawEmitIns (l : List Int) (h : BytesOk l) : ∃ x, C2 CC F_spec_DrawEmitIns [.fv (.row 1 (l.map (.int .u8)))] (sF x) [] ∧ -1 ≤ x.r ∧ x.r ≤ 100 := by
  have k0 := v_l1New l h.len h.bytes
  unfold rb at k0
  obtain ⟨⟨x0, x1, x2, x3, x4⟩, c1, k1, w1, o1⟩ := x_l2DrawIns _ (cur_new h (q := hN l (min l.length 4000)))
  simp only at w1
  obtain ⟨b1, c2, k2, o2⟩ := x_l1Once _ 8 o1 (by decide)
  cases b1 with
  | true =>
    obtain ⟨y, c3, k3, hy, o3⟩ := x_l1PickInt c2 [-1, 39, 40] o2 (by simp) (by simp)
    obtain ⟨b4, c4, k4, o4⟩ := x_l1Once _ 12 o3 (by decide)
    cases b4 with
    | true =>
      obtain ⟨z, c5, k5, hz, o5⟩ := x_l1PickInt c4 [-1, 39, 40] o4 (by simp) (by simp)
      refine ⟨⟨x0, z, y, x3, x4⟩, ?_, by simp only [List.mem_cons, List.not_mem_nil, or_false] at hz; simp only; omega⟩
      refine cw (keepF Try.f19) Try.f19 false ?_
      repeat' first | refine ck_intro (by first | exact k0 | exact k1 | exact k2 | exact k3 | exact k4 | exact k5) ?_ ?_ | refine g0 ?_ | refine d0 ?_ | refine j0 (fun hg hgo => ?_) fun hg hgo => ?_ | refine ek_ret ?_ | refine ek_norm ?_ | refine ⟨by omega, ?_⟩ | rfl | trivial | intro _
    | false =>
      refine ⟨⟨x0, x1, y, x3, x4⟩, ?_, by simp only; omega⟩
      refine cw (keepF Try.f19) Try.f19 false ?_
      repeat' first | refine ck_intro (by first | exact k0 | exact k1 | exact k2 | exact k3 | exact k4) ?_ ?_ | refine g0 ?_ | refine d0 ?_ | refine j0 (fun hg hgo => ?_) fun hg hgo => ?_ | refine ek_ret ?_ | refine ek_norm ?_ | refine ⟨by omega, ?_⟩ | rfl | trivial | intro _
  | false =>
    obtain ⟨b4, c4, k4, o4⟩ := x_l1Once _ 12 o2 (by decide)
    cases b4 with
    | true =>
      obtain ⟨z, c5, k5, hz, o5⟩ := x_l1PickInt c4 [-1, 39, 40] o4 (by simp) (by simp)
      refine ⟨⟨x0, z, x2, x3, x4⟩, ?_, by simp only [List.mem_cons, List.not_mem_nil, or_false] at hz; simp only; omega⟩
      refine cw (keepF Try.f19) Try.f19 false ?_
      repeat' first | refine ck_intro (by first | exact k0 | exact k1 | exact k2 | exact k4 | exact k5) ?_ ?_ | refine g0 ?_ | refine d0 ?_ | refine j0 (fun hg hgo => ?_) fun hg hgo => ?_ | refine ek_ret ?_ | refine ek_norm ?_ | refine ⟨by omega, ?_⟩ | rfl | trivial | intro _
    | false =>
      refine ⟨⟨x0, x1, x2, x3, x4⟩, ?_, by simp only; omega⟩
      refine cw (keepF Try.f19) Try.f19 false ?_
      repeat' first | refine ck_intro (by first | exact k0 | exact k1 | exact k2 | exact k4) ?_ ?_ | refine g0 ?_ | refine d0 ?_ | refine j0 (fun hg hgo => ?_) fun hg hgo => ?_ | refine ek_ret ?_ | refine ek_norm ?_ | refine ⟨by omega, ?_⟩ | rfl | trivial | intro _
theorem same_nil : C2 CC F_laws_sameSteps [.fv .nil, .fv (.row 5 [])] (bv true) [] := by
  refine cw (keepF Try.f21) Try.f21 false ?_
  repeat' first | refine pd3 17 [0, 0, 3, 7, 0, 0, 48, 112, 255] [0, 0, 0, 1, 0, 0, 0, 1, 0] false ?_ | refine pw_unroll ?_ | refine g0 ?_ | refine d0 ?_ | refine j0 (fun hg hgo => ?_) fun hg hgo => ?_ | refine ek_ret ?_ | refine ek_norm ?_ | refine ⟨by omega, ?_⟩ | rfl | trivial | intro _
  all_goals (exfalso; omega)
theorem st_neq (s : StepD) : bin2 Γ E .neq 38 (sF s) (sF s) = some (bv false) := by
  unfold bin2
  simp [nilC, sv, svL, binV, allI, numI, E, ofV]
theorem v_sameSteps (l : List StepD) (hn : l.length < 1073741824) : C2 CC F_laws_sameSteps [.fv (stR l), .fv (stR l)] (bv true) [] := by
  have hnn : ((l.length : Int) != (l.length : Int)) = false := by simp
  refine cw (keepF Try.f21) Try.f21 false ?_
  repeat' first | refine pd3 17 [0, 0, 3, 7, 0, 0, 48, 112, 255] [0, 0, 0, 1, 0, 0, 0, 1, 0] false ?_ | refine g1 @hnn ?_ | refine d1 @hnn ?_ | refine j1 @hnn (fun hg hgo => ?_) fun hg hgo => ?_ | refine ek_ret ?_ | refine ek_norm ?_ | refine ⟨by omega, ?_⟩ | rfl | trivial | intro _
  refine pw_loop (fun m st => ∃ j : Nat, j + m = l.length ∧ st = [(0, .fv (stR l)), (1, .fv (stR l)), (5, iv j)]) l.length [(0, .fv (stR l)), (1, .fv (stR l)), (5, iv (0 : Nat))] (sub_of ?_) ⟨0, by omega, rfl⟩ ?_
  · exact dn
  · rintro m st ⟨j, hj, rfl⟩
    by_cases hlt : j < l.length
    · have hd : decide ((j : Int) < (l.length : Int)) = true := by rw [decide_eq_true_eq]; omega
      have hm1 : j < (l.map stF).length := by rw [List.length_map]; exact hlt
      have hq := st_neq l[j]
      repeat' first | refine pd3 17 [0, 0, 3, 7, 0, 0, 48, 112, 255] [0, 0, 0, 1, 0, 0, 0, 1, 0] false ?_ | refine g2 @hd @hq ?_ | refine d2 @hd @hq ?_ | refine j2 @hd @hq (fun hg hgo => ?_) fun hg hgo => ?_ | refine ek_ret ?_ | refine ek_norm ?_ | refine ⟨by omega, ?_⟩ | rfl | trivial | intro _
      refine rd_norm [(0, .fv (stR l)), (1, .fv (stR l)), (5, iv (j + 1 : Nat))] (sub_of ?_) (m - 1) (by omega) ⟨j + 1, by omega, rfl⟩
      exact dn
    · have hd : decide ((j : Int) < (l.length : Int)) = false := by rw [decide_eq_false_iff_not]; omega
      repeat' first | refine pd3 17 [0, 0, 3, 7, 0, 0, 48, 112, 255] [0, 0, 0, 1, 0, 0, 0, 1, 0] false ?_ | refine g1 @hd ?_ | refine d1 @hd ?_ | refine j1 @hd (fun hg hgo => ?_) fun hg hgo => ?_ | refine ek_ret ?_ | refine ek_norm ?_ | refine ⟨by omega, ?_⟩ | rfl | trivial | intro _
theorem last_eq {r l' : List StepD} {e y : StepD} (h : r = l' ++ [e]) (hy : r.getLast? = some y) : e = y := by
  rw [h, List.getLast?_append] at hy; simpa using hy
theorem end_of {x y : StepD} {r : List StepD} (h : r = [] ∨ ∃ l' e, r = l' ++ [e] ∧ endB x e = true) (hy : r.getLast? = some y) : endB x y = true := by
  rcases h with h | ⟨l', e, h, he⟩
  · subst h; cases hy
  · rw [← last_eq h hy]; exact he
theorem v_good {s : StepD} (h : goodS s) : C2 CC F_impl_StepOk [sF s, iv 900] (bv true) [] := by
  have := v_StepOk s 900 h.1 h.2.1; rw [h.2.2] at this; exact this
theorem v_FnEmitIns (l : List Int) (hb : ∀ x ∈ l, 0 ≤ x ∧ x < 256) (hl : l.length ≤ 9223372036854775807) : C2 CC F_laws_FnEmitIns [.fv (.row 1 (l.map (.int .u8)))] (bv true) [] := by
  have kb := v_big l
  cases hbig : decide ((l.length : Int) > 1048576) with
  | true =>
    rw [hbig] at kb
    refine cw (keepF Try.f4) Try.f4 false ?_
    repeat' first | refine ck_intro (by first | exact kb) ?_ ?_ | refine g0 ?_ | refine d0 ?_ | refine j0 (fun hg hgo => ?_) fun hg hgo => ?_ | refine ek_ret ?_ | refine ek_norm ?_ | refine ⟨by omega, ?_⟩ | rfl | trivial | intro _
  | false =>
    rw [hbig] at kb
    rw [decide_eq_false_iff_not] at hbig
    have ok : BytesOk l := ⟨hb, by omega⟩
    obtain ⟨x, kx, hx1, hx2⟩ := x_DrawEmitIns l ok
    have ki := i_EmitIns x
    have ks := v_EmitIns x
    have kd := v_InsDefE x
    have hgood := emit_ok x
    have hle := emitL_le x
    have hend := emit_end x
    cases hh : homedJ x with
    | false =>
      rw [hh, if_neg (by decide)] at ki
      rw [emitL_no x hh] at ks
      have hm : steps [] = [] := rfl
      clear hend hgood hle
      refine cw (keepF Try.f4) Try.f4 false ?_
      repeat' first | refine ck_intro (by first | exact kb | exact kx | exact ki | exact ks | exact same_nil | exact kd) ?_ ?_ | refine pw_unroll ?_ | refine g0 ?_ | refine d0 ?_ | refine j0 (fun hg hgo => ?_) fun hg hgo => ?_ | refine ek_ret ?_ | refine ek_norm ?_ | refine ⟨by omega, ?_⟩ | rfl | trivial | intro _
    | true =>
      rw [hh, if_pos rfl] at ki
      generalize emitL x = r at ki ks hgood hle hend
      have ksm := v_sameSteps r (by omega)
      cases hm : makesB x.op with
      | false =>
        rw [hm, if_neg (by decide)] at kd
        clear hend
        rcases r with _ | ⟨a, _ | ⟨b, _ | ⟨c, _ | ⟨d, _ | ⟨e, t⟩⟩⟩⟩⟩
        · refine cw (keepF Try.f4) Try.f4 false ?_
          repeat' first | refine ck_intro (by first | exact kb | exact kx | exact ki | exact ks | exact ksm | exact kd) ?_ ?_ | refine pw_unroll ?_ | refine g1 @steps_nil ?_ | refine d1 @steps_nil ?_ | refine j1 @steps_nil (fun hg hgo => ?_) fun hg hgo => ?_ | refine ek_ret ?_ | refine ek_norm ?_ | refine ⟨by omega, ?_⟩ | rfl | trivial | intro _
        · have ka := v_good (hgood a (by simp))
          refine cw (keepF Try.f4) Try.f4 false ?_
          repeat' first | refine ck_intro (by first | exact kb | exact kx | exact ki | exact ks | exact ksm | exact kd | exact ka) ?_ ?_ | refine pw_unroll ?_ | refine g2 @steps_nil @steps_cons ?_ | refine d2 @steps_nil @steps_cons ?_ | refine j2 @steps_nil @steps_cons (fun hg hgo => ?_) fun hg hgo => ?_ | refine ek_ret ?_ | refine ek_norm ?_ | refine ⟨by omega, ?_⟩ | rfl | trivial | intro _
        · have ka := v_good (hgood a (by simp))
          have kb2 := v_good (hgood b (by simp))
          refine cw (keepF Try.f4) Try.f4 false ?_
          repeat' first | refine ck_intro (by first | exact kb | exact kx | exact ki | exact ks | exact ksm | exact kd | exact ka | exact kb2) ?_ ?_ | refine pw_unroll ?_ | refine g2 @steps_nil @steps_cons ?_ | refine d2 @steps_nil @steps_cons ?_ | refine j2 @steps_nil @steps_cons (fun hg hgo => ?_) fun hg hgo => ?_ | refine ek_ret ?_ | refine ek_norm ?_ | refine ⟨by omega, ?_⟩ | rfl | trivial | intro _
        · have ka := v_good (hgood a (by simp))
          have kb2 := v_good (hgood b (by simp))
          have kc := v_good (hgood c (by simp))
          refine cw (keepF Try.f4) Try.f4 false ?_
          repeat' first | refine ck_intro (by first | exact kb | exact kx | exact ki | exact ks | exact ksm | exact kd | exact ka | exact kb2 | exact kc) ?_ ?_ | refine pw_unroll ?_ | refine g2 @steps_nil @steps_cons ?_ | refine d2 @steps_nil @steps_cons ?_ | refine j2 @steps_nil @steps_cons (fun hg hgo => ?_) fun hg hgo => ?_ | refine ek_ret ?_ | refine ek_norm ?_ | refine ⟨by omega, ?_⟩ | rfl | trivial | intro _
        · have ka := v_good (hgood a (by simp))
          have kb2 := v_good (hgood b (by simp))
          have kc := v_good (hgood c (by simp))
          have kd2 := v_good (hgood d (by simp))
          refine cw (keepF Try.f4) Try.f4 false ?_
          repeat' first | refine ck_intro (by first | exact kb | exact kx | exact ki | exact ks | exact ksm | exact kd | exact ka | exact kb2 | exact kc | exact kd2) ?_ ?_ | refine pw_unroll ?_ | refine g2 @steps_nil @steps_cons ?_ | refine d2 @steps_nil @steps_cons ?_ | refine j2 @steps_nil @steps_cons (fun hg hgo => ?_) fun hg hgo => ?_ | refine ek_ret ?_ | refine ek_norm ?_ | refine ⟨by omega, ?_⟩ | rfl | trivial | intro _
        · simp at hle
      | true =>
        rw [hm, if_pos rfl] at kd
        have hend := hend hm
        cases hneg : decide (x.r < 0) with
        | true =>
          rcases r with _ | ⟨a, _ | ⟨b, _ | ⟨c, _ | ⟨d, _ | ⟨e, t⟩⟩⟩⟩⟩
          · refine cw (keepF Try.f4) Try.f4 false ?_
            repeat' first | refine ck_intro (by first | exact kb | exact kx | exact ki | exact ks | exact ksm | exact kd) ?_ ?_ | refine pw_unroll ?_ | refine g2 @steps_nil @hneg ?_ | refine d2 @steps_nil @hneg ?_ | refine j2 @steps_nil @hneg (fun hg hgo => ?_) fun hg hgo => ?_ | refine ek_ret ?_ | refine ek_norm ?_ | refine ⟨by omega, ?_⟩ | rfl | trivial | intro _
          · have ga := v_good (hgood a (by simp))
            refine cw (keepF Try.f4) Try.f4 false ?_
            repeat' first | refine ck_intro (by first | exact kb | exact kx | exact ki | exact ks | exact ksm | exact kd | exact ga) ?_ ?_ | refine pw_unroll ?_ | refine g3 @steps_nil @steps_cons @hneg ?_ | refine d3 @steps_nil @steps_cons @hneg ?_ | refine j3 @steps_nil @steps_cons @hneg (fun hg hgo => ?_) fun hg hgo => ?_ | refine ek_ret ?_ | refine ek_norm ?_ | refine ⟨by omega, ?_⟩ | rfl | trivial | intro _
          · have ga := v_good (hgood a (by simp))
            have gb := v_good (hgood b (by simp))
            refine cw (keepF Try.f4) Try.f4 false ?_
            repeat' first | refine ck_intro (by first | exact kb | exact kx | exact ki | exact ks | exact ksm | exact kd | exact ga | exact gb) ?_ ?_ | refine pw_unroll ?_ | refine g3 @steps_nil @steps_cons @hneg ?_ | refine d3 @steps_nil @steps_cons @hneg ?_ | refine j3 @steps_nil @steps_cons @hneg (fun hg hgo => ?_) fun hg hgo => ?_ | refine ek_ret ?_ | refine ek_norm ?_ | refine ⟨by omega, ?_⟩ | rfl | trivial | intro _
          · have ga := v_good (hgood a (by simp))
            have gb := v_good (hgood b (by simp))
            have gc := v_good (hgood c (by simp))
            refine cw (keepF Try.f4) Try.f4 false ?_
            repeat' first | refine ck_intro (by first | exact kb | exact kx | exact ki | exact ks | exact ksm | exact kd | exact ga | exact gb | exact gc) ?_ ?_ | refine pw_unroll ?_ | refine g3 @steps_nil @steps_cons @hneg ?_ | refine d3 @steps_nil @steps_cons @hneg ?_ | refine j3 @steps_nil @steps_cons @hneg (fun hg hgo => ?_) fun hg hgo => ?_ | refine ek_ret ?_ | refine ek_norm ?_ | refine ⟨by omega, ?_⟩ | rfl | trivial | intro _
          · have ga := v_good (hgood a (by simp))
            have gb := v_good (hgood b (by simp))
            have gc := v_good (hgood c (by simp))
            have gd := v_good (hgood d (by simp))
            refine cw (keepF Try.f4) Try.f4 false ?_
            repeat' first | refine ck_intro (by first | exact kb | exact kx | exact ki | exact ks | exact ksm | exact kd | exact ga | exact gb | exact gc | exact gd) ?_ ?_ | refine pw_unroll ?_ | refine g3 @steps_nil @steps_cons @hneg ?_ | refine d3 @steps_nil @steps_cons @hneg ?_ | refine j3 @steps_nil @steps_cons @hneg (fun hg hgo => ?_) fun hg hgo => ?_ | refine ek_ret ?_ | refine ek_norm ?_ | refine ⟨by omega, ?_⟩ | rfl | trivial | intro _
          · simp at hle
        | false =>
          cases h4 : decide (x.r < 4) with
          | true =>
            rcases r with _ | ⟨a, _ | ⟨b, _ | ⟨c, _ | ⟨d, _ | ⟨e, t⟩⟩⟩⟩⟩
            · refine cw (keepF Try.f4) Try.f4 false ?_
              repeat' first | refine ck_intro (by first | exact kb | exact kx | exact ki | exact ks | exact ksm | exact kd) ?_ ?_ | refine pw_unroll ?_ | refine g2 @steps_nil @hneg ?_ | refine d2 @steps_nil @hneg ?_ | refine j2 @steps_nil @hneg (fun hg hgo => ?_) fun hg hgo => ?_ | refine ek_ret ?_ | refine ek_norm ?_ | refine ⟨by omega, ?_⟩ | rfl | trivial | intro _
            · have ga := v_good (hgood a (by simp))
              have he := end_of hend (y := a) rfl
              unfold endB at he
              rw [if_pos (of_decide_eq_true h4), Bool.and_eq_true] at he
              obtain ⟨he1, he2⟩ := he
              refine cw (keepF Try.f4) Try.f4 false ?_
              repeat' first | refine ck_intro (by first | exact kb | exact kx | exact ki | exact ks | exact ksm | exact kd | exact ga) ?_ ?_ | refine pw_unroll ?_ | refine g6 @steps_nil @steps_cons @hneg @h4 @he1 @he2 ?_ | refine d6 @steps_nil @steps_cons @hneg @h4 @he1 @he2 ?_ | refine j6 @steps_nil @steps_cons @hneg @h4 @he1 @he2 (fun hg hgo => ?_) fun hg hgo => ?_ | refine ek_ret ?_ | refine ek_norm ?_ | refine ⟨by omega, ?_⟩ | rfl | trivial | intro _
            · have ga := v_good (hgood a (by simp))
              have gb := v_good (hgood b (by simp))
              have he := end_of hend (y := b) rfl
              unfold endB at he
              rw [if_pos (of_decide_eq_true h4), Bool.and_eq_true] at he
              obtain ⟨he1, he2⟩ := he
              refine cw (keepF Try.f4) Try.f4 false ?_
              repeat' first | refine ck_intro (by first | exact kb | exact kx | exact ki | exact ks | exact ksm | exact kd | exact ga | exact gb) ?_ ?_ | refine pw_unroll ?_ | refine g6 @steps_nil @steps_cons @hneg @h4 @he1 @he2 ?_ | refine d6 @steps_nil @steps_cons @hneg @h4 @he1 @he2 ?_ | refine j6 @steps_nil @steps_cons @hneg @h4 @he1 @he2 (fun hg hgo => ?_) fun hg hgo => ?_ | refine ek_ret ?_ | refine ek_norm ?_ | refine ⟨by omega, ?_⟩ | rfl | trivial | intro _
            · have ga := v_good (hgood a (by simp))
              have gb := v_good (hgood b (by simp))
              have gc := v_good (hgood c (by simp))
              have he := end_of hend (y := c) rfl
              unfold endB at he
              rw [if_pos (of_decide_eq_true h4), Bool.and_eq_true] at he
              obtain ⟨he1, he2⟩ := he
              refine cw (keepF Try.f4) Try.f4 false ?_
              repeat' first | refine ck_intro (by first | exact kb | exact kx | exact ki | exact ks | exact ksm | exact kd | exact ga | exact gb | exact gc) ?_ ?_ | refine pw_unroll ?_ | refine g6 @steps_nil @steps_cons @hneg @h4 @he1 @he2 ?_ | refine d6 @steps_nil @steps_cons @hneg @h4 @he1 @he2 ?_ | refine j6 @steps_nil @steps_cons @hneg @h4 @he1 @he2 (fun hg hgo => ?_) fun hg hgo => ?_ | refine ek_ret ?_ | refine ek_norm ?_ | refine ⟨by omega, ?_⟩ | rfl | trivial | intro _
            · have ga := v_good (hgood a (by simp))
              have gb := v_good (hgood b (by simp))
              have gc := v_good (hgood c (by simp))
              have gd := v_good (hgood d (by simp))
              have he := end_of hend (y := d) rfl
              unfold endB at he
              rw [if_pos (of_decide_eq_true h4), Bool.and_eq_true] at he
              obtain ⟨he1, he2⟩ := he
              refine cw (keepF Try.f4) Try.f4 false ?_
              repeat' first | refine ck_intro (by first | exact kb | exact kx | exact ki | exact ks | exact ksm | exact kd | exact ga | exact gb | exact gc | exact gd) ?_ ?_ | refine pw_unroll ?_ | refine g6 @steps_nil @steps_cons @hneg @h4 @he1 @he2 ?_ | refine d6 @steps_nil @steps_cons @hneg @h4 @he1 @he2 ?_ | refine j6 @steps_nil @steps_cons @hneg @h4 @he1 @he2 (fun hg hgo => ?_) fun hg hgo => ?_ | refine ek_ret ?_ | refine ek_norm ?_ | refine ⟨by omega, ?_⟩ | rfl | trivial | intro _
            · simp at hle
          | false =>
            rcases r with _ | ⟨a, _ | ⟨b, _ | ⟨c, _ | ⟨d, _ | ⟨e, t⟩⟩⟩⟩⟩
            · refine cw (keepF Try.f4) Try.f4 false ?_
              repeat' first | refine ck_intro (by first | exact kb | exact kx | exact ki | exact ks | exact ksm | exact kd) ?_ ?_ | refine pw_unroll ?_ | refine g2 @steps_nil @hneg ?_ | refine d2 @steps_nil @hneg ?_ | refine j2 @steps_nil @hneg (fun hg hgo => ?_) fun hg hgo => ?_ | refine ek_ret ?_ | refine ek_norm ?_ | refine ⟨by omega, ?_⟩ | rfl | trivial | intro _
            · have ga := v_good (hgood a (by simp))
              have he := end_of hend (y := a) rfl
              unfold endB at he
              rw [if_neg (of_decide_eq_false h4), Bool.and_eq_true] at he
              obtain ⟨he1, he2⟩ := he
              have hw : IntKind.wrap .i64 (x.r - 4) = x.r - 4 := wrapI (by omega) (by omega)
              refine cw (keepF Try.f4) Try.f4 false ?_
              repeat' first | refine ck_intro (by first | exact kb | exact kx | exact ki | exact ks | exact ksm | exact kd | exact ga) ?_ ?_ | refine pw_unroll ?_ | refine g7 @steps_nil @steps_cons @hneg @hw @h4 @he1 @he2 ?_ | refine d7 @steps_nil @steps_cons @hneg @hw @h4 @he1 @he2 ?_ | refine j7 @steps_nil @steps_cons @hneg @hw @h4 @he1 @he2 (fun hg hgo => ?_) fun hg hgo => ?_ | refine ek_ret ?_ | refine ek_norm ?_ | refine ⟨by omega, ?_⟩ | rfl | trivial | intro _
            · have ga := v_good (hgood a (by simp))
              have gb := v_good (hgood b (by simp))
              have he := end_of hend (y := b) rfl
              unfold endB at he
              rw [if_neg (of_decide_eq_false h4), Bool.and_eq_true] at he
              obtain ⟨he1, he2⟩ := he
              have hw : IntKind.wrap .i64 (x.r - 4) = x.r - 4 := wrapI (by omega) (by omega)
              refine cw (keepF Try.f4) Try.f4 false ?_
              repeat' first | refine ck_intro (by first | exact kb | exact kx | exact ki | exact ks | exact ksm | exact kd | exact ga | exact gb) ?_ ?_ | refine pw_unroll ?_ | refine g7 @steps_nil @steps_cons @hneg @hw @h4 @he1 @he2 ?_ | refine d7 @steps_nil @steps_cons @hneg @hw @h4 @he1 @he2 ?_ | refine j7 @steps_nil @steps_cons @hneg @hw @h4 @he1 @he2 (fun hg hgo => ?_) fun hg hgo => ?_ | refine ek_ret ?_ | refine ek_norm ?_ | refine ⟨by omega, ?_⟩ | rfl | trivial | intro _
            · have ga := v_good (hgood a (by simp))
              have gb := v_good (hgood b (by simp))
              have gc := v_good (hgood c (by simp))
              have he := end_of hend (y := c) rfl
              unfold endB at he
              rw [if_neg (of_decide_eq_false h4), Bool.and_eq_true] at he
              obtain ⟨he1, he2⟩ := he
              have hw : IntKind.wrap .i64 (x.r - 4) = x.r - 4 := wrapI (by omega) (by omega)
              refine cw (keepF Try.f4) Try.f4 false ?_
              repeat' first | refine ck_intro (by first | exact kb | exact kx | exact ki | exact ks | exact ksm | exact kd | exact ga | exact gb | exact gc) ?_ ?_ | refine pw_unroll ?_ | refine g7 @steps_nil @steps_cons @hneg @hw @h4 @he1 @he2 ?_ | refine d7 @steps_nil @steps_cons @hneg @hw @h4 @he1 @he2 ?_ | refine j7 @steps_nil @steps_cons @hneg @hw @h4 @he1 @he2 (fun hg hgo => ?_) fun hg hgo => ?_ | refine ek_ret ?_ | refine ek_norm ?_ | refine ⟨by omega, ?_⟩ | rfl | trivial | intro _
            · have ga := v_good (hgood a (by simp))
              have gb := v_good (hgood b (by simp))
              have gc := v_good (hgood c (by simp))
              have gd := v_good (hgood d (by simp))
              have he := end_of hend (y := d) rfl
              unfold endB at he
              rw [if_neg (of_decide_eq_false h4), Bool.and_eq_true] at he
              obtain ⟨he1, he2⟩ := he
              have hw : IntKind.wrap .i64 (x.r - 4) = x.r - 4 := wrapI (by omega) (by omega)
              refine cw (keepF Try.f4) Try.f4 false ?_
              repeat' first | refine ck_intro (by first | exact kb | exact kx | exact ki | exact ks | exact ksm | exact kd | exact ga | exact gb | exact gc | exact gd) ?_ ?_ | refine pw_unroll ?_ | refine g7 @steps_nil @steps_cons @hneg @hw @h4 @he1 @he2 ?_ | refine d7 @steps_nil @steps_cons @hneg @hw @h4 @he1 @he2 ?_ | refine j7 @steps_nil @steps_cons @hneg @hw @h4 @he1 @he2 (fun hg hgo => ?_) fun hg hgo => ?_ | refine ek_ret ?_ | refine ek_norm ?_ | refine ⟨by omega, ?_⟩ | rfl | trivial | intro _
            · simp at hle

theorem maxLen_eq7 : maxLen = 9223372036854775807 := by decide
theorem u8_wf {n : Int} (h : (Lit.int .u8 n).wf = true) : 0 ≤ n ∧ n < 256 := by
  simp [Lit.wf, IntKind.min, IntKind.max, IntKind.signed, IntKind.bits] at h; omega
theorem ty_bytes {Γ : TypeId → Option TI} {g : Nat} {t e : TypeId} {v : FV} {a b : Nat} {a' b' : Nat} {z z' : List Value} (hv : TyF Γ g t v) (ht : Γ t = some ⟨.slice e, a, b, z⟩) (he : Γ e = some ⟨.int .u8, a', b', z'⟩) (h1 : a' = 1) : ∃ l : List Int, v = .row 1 (l.map (.int .u8)) ∧ (∀ x ∈ l, 0 ≤ x ∧ x < 256) ∧ l.length ≤ 9223372036854775807 := by
  subst h1
  obtain ⟨l, rfl, q, m⟩ := tyF_row (f := FV.int .u8) (P := fun n => 0 ≤ n ∧ n < 256) hv ht he (fun g x hx => by obtain ⟨n, rfl, hw⟩ := tyF_int hx he; exact ⟨n, rfl, u8_wf hw⟩)
  exact ⟨l, rfl, q, by rw [maxLen_eq7] at m; exact m⟩
end Go.Proofs.YtgbaininmgdnoaaM
