import Derived.Test.YtpinapckafbkiaaVBV
namespace Go.Proofs.YtpinapckafbkiaaM
open Go
open Int renaming cast_ofNat_Int → Q0, reduceLT → Q1, reduceLE → Q2, reduceGT → Q3, reduceGE → Q4, reduceEq → Q5, reduceBEq → Q6, reduceAdd → Q7, reduceSub → Q8, reduceToNat → Q9
open Nat renaming reduceShiftRight → Z0, reduceMod → Z1, reduceLT → Z2, reduceEqDiff → Z3, reduceAdd → Z4, reduceMul → Z5, reduceLeDiff → Z6, reduceBEq → Z7
open List renaming getElem?_eq_getElem → L0, length_map → L1, length_cons → L2, length_nil → L3
open Bool renaming and_eq_true → B0, or_eq_false_iff → B1, or_eq_true → B2, and_eq_false_iff → B3, not_eq_true' → B4, not_eq_false' → B5
set_option linter.unusedVariables false
set_option linter.unusedSimpArgs false
set_option maxRecDepth 100000
set_option maxHeartbeats 4000000
attribute [local irreducible] PW CK EK C2 PXM XK LX axK rdK thK blK FK SK LK AK GK CD unK TT keK
def MU (f : FuncId) (i : Nat) : Nat := match f with
  | 8 => 1
  | 10 => 1
  | 11 => 1
  | 12 => 1
  | 13 => (if i = 0 then 2 else 0)
  | 14 => (if i = 0 then 2 else 0)
  | 15 => (if i = 0 then 1 else 0)
  | 16 => 1
  | 18 => 1
  | 19 => (if i = 0 then 1 else 0)
  | 22 => 1
  | 25 => 1
  | 27 => 1
  | 28 => 1
  | 29 => 1
  | 30 => (if i = 0 then 2 else 0)
  | 31 => (if i = 0 then 2 else 0)
  | 32 => (if i = 0 then 1 else 0)
  | 34 => 1
  | 38 => 1
  | 39 => (if i = 0 then 2 else (if i = 1 then 1 else 0))
  | 41 => (if i = 0 then 2 else 0)
  | 42 => 2
  | 43 => 2
  | 44 => 2
  | 45 => (if i = 0 then 2 else 0)
  | 46 => 2
  | 49 => 2
  | 50 => (if i = 0 then 2 else 0)
  | 51 => (if i = 0 then 2 else 0)
  | 52 => 1
  | 53 => 2
  | 54 => (if i = 0 then 2 else 0)
  | 55 => 1
  | 57 => 1
  | 58 => 2
  | 79 => (if i = 0 then 2 else 0)
  | 80 => (if i = 0 then 2 else 0)
  | 81 => (if i = 0 then 1 else 0)
  | 82 => (if i = 0 then 1 else 0)
  | 86 => 1
  | 87 => 1
  | 88 => 2
  | 89 => 2
  | 90 => (if i = 0 then 2 else 0)
  | 91 => (if i = 0 then 2 else 0)
  | 92 => (if i = 0 then 2 else 0)
  | 93 => 2
  | 118 => (if i = 0 then 2 else 0)
  | 120 => 1
  | 121 => (if i = 0 then 2 else 0)
  | 122 => (if i = 0 then 2 else 0)
  | 123 => (if i = 0 then 2 else 0)
  | 124 => (if i = 0 then 2 else 0)
  | 148 => 2
  | _ => 0
@[go_sem] theorem mu_7 {i : Nat} : MU 7 i = 0 := nr rfl
@[go_sem] theorem mu_8 {i : Nat} : MU 8 i = 1 := nr rfl
@[go_sem] theorem mu_9 {i : Nat} : MU 9 i = 0 := nr rfl
@[go_sem] theorem mu_10 {i : Nat} : MU 10 i = 1 := nr rfl
@[go_sem] theorem mu_11 {i : Nat} : MU 11 i = 1 := nr rfl
@[go_sem] theorem mu_12 {i : Nat} : MU 12 i = 1 := nr rfl
@[go_sem] theorem mu_13 {i : Nat} : MU 13 i = (if i = 0 then 2 else 0) := nr rfl
@[go_sem] theorem mu_14 {i : Nat} : MU 14 i = (if i = 0 then 2 else 0) := nr rfl
@[go_sem] theorem mu_15 {i : Nat} : MU 15 i = (if i = 0 then 1 else 0) := nr rfl
@[go_sem] theorem mu_33 {i : Nat} : MU 33 i = 0 := nr rfl
@[go_sem] theorem mu_34 {i : Nat} : MU 34 i = 1 := nr rfl
@[go_sem] theorem mu_35 {i : Nat} : MU 35 i = 0 := nr rfl
@[go_sem] theorem mu_36 {i : Nat} : MU 36 i = 0 := nr rfl
@[go_sem] theorem mu_37 {i : Nat} : MU 37 i = 0 := nr rfl
@[go_sem] theorem mu_38 {i : Nat} : MU 38 i = 1 := nr rfl
@[go_sem] theorem mu_39 {i : Nat} : MU 39 i = (if i = 0 then 2 else (if i = 1 then 1 else 0)) := nr rfl
@[go_sem] theorem mu_40 {i : Nat} : MU 40 i = 0 := nr rfl
@[go_sem] theorem mu_41 {i : Nat} : MU 41 i = (if i = 0 then 2 else 0) := nr rfl
@[go_sem] theorem mu_61 {i : Nat} : MU 61 i = 0 := nr rfl
@[go_sem] theorem mu_62 {i : Nat} : MU 62 i = 0 := nr rfl
@[go_sem] theorem mu_63 {i : Nat} : MU 63 i = 0 := nr rfl
@[go_sem] theorem mu_64 {i : Nat} : MU 64 i = 0 := nr rfl
@[go_sem] theorem mu_65 {i : Nat} : MU 65 i = 0 := nr rfl
@[go_sem] theorem mu_66 {i : Nat} : MU 66 i = 0 := nr rfl
@[go_sem] theorem mu_67 {i : Nat} : MU 67 i = 0 := nr rfl
@[go_sem] theorem mu_68 {i : Nat} : MU 68 i = 0 := nr rfl
@[go_sem] theorem mu_70 {i : Nat} : MU 70 i = 0 := nr rfl
@[go_sem] theorem mu_71 {i : Nat} : MU 71 i = 0 := nr rfl
@[go_sem] theorem mu_73 {i : Nat} : MU 73 i = 0 := nr rfl
@[go_sem] theorem mu_74 {i : Nat} : MU 74 i = 0 := nr rfl
@[go_sem] theorem mu_76 {i : Nat} : MU 76 i = 0 := nr rfl
@[go_sem] theorem mu_77 {i : Nat} : MU 77 i = 0 := nr rfl
@[go_sem] theorem mu_78 {i : Nat} : MU 78 i = 0 := nr rfl
@[go_sem] theorem mu_79 {i : Nat} : MU 79 i = (if i = 0 then 2 else 0) := nr rfl
@[go_sem] theorem mu_80 {i : Nat} : MU 80 i = (if i = 0 then 2 else 0) := nr rfl
@[go_sem] theorem mu_100 {i : Nat} : MU 100 i = 0 := nr rfl
@[go_sem] theorem mu_101 {i : Nat} : MU 101 i = 0 := nr rfl
@[go_sem] theorem mu_102 {i : Nat} : MU 102 i = 0 := nr rfl
@[go_sem] theorem mu_103 {i : Nat} : MU 103 i = 0 := nr rfl
@[go_sem] theorem mu_104 {i : Nat} : MU 104 i = 0 := nr rfl
@[go_sem] theorem mu_105 {i : Nat} : MU 105 i = 0 := nr rfl
@[go_sem] theorem mu_106 {i : Nat} : MU 106 i = 0 := nr rfl
@[go_sem] theorem mu_107 {i : Nat} : MU 107 i = 0 := nr rfl
@[go_sem] theorem mu_108 {i : Nat} : MU 108 i = 0 := nr rfl
@[go_sem] theorem mu_109 {i : Nat} : MU 109 i = 0 := nr rfl
@[go_sem] theorem mu_110 {i : Nat} : MU 110 i = 0 := nr rfl
@[go_sem] theorem mu_112 {i : Nat} : MU 112 i = 0 := nr rfl
@[go_sem] theorem mu_113 {i : Nat} : MU 113 i = 0 := nr rfl
@[go_sem] theorem mu_114 {i : Nat} : MU 114 i = 0 := nr rfl
@[go_sem] theorem mu_115 {i : Nat} : MU 115 i = 0 := nr rfl
@[go_sem] theorem mu_116 {i : Nat} : MU 116 i = 0 := nr rfl
@[go_sem] theorem mu_117 {i : Nat} : MU 117 i = 0 := nr rfl
@[go_sem] theorem mu_118 {i : Nat} : MU 118 i = (if i = 0 then 2 else 0) := nr rfl
@[go_sem] theorem mu_129 {i : Nat} : MU 129 i = 0 := nr rfl
@[go_sem] theorem mu_141 {i : Nat} : MU 141 i = 0 := nr rfl
@[go_sem] theorem mu_142 {i : Nat} : MU 142 i = 0 := nr rfl
@[go_sem] theorem mu_143 {i : Nat} : MU 143 i = 0 := nr rfl
@[go_sem] theorem mu_144 {i : Nat} : MU 144 i = 0 := nr rfl
@[go_sem] theorem mu_145 {i : Nat} : MU 145 i = 0 := nr rfl
@[go_sem] theorem mu_146 {i : Nat} : MU 146 i = 0 := nr rfl
@[go_sem] theorem mu_147 {i : Nat} : MU 147 i = 0 := nr rfl
@[go_sem] theorem mu_149 {i : Nat} : MU 149 i = 0 := nr rfl
@[go_sem] theorem mu_156 {i : Nat} : MU 156 i = 0 := nr rfl
@[go_sem] theorem mu_157 {i : Nat} : MU 157 i = 0 := nr rfl
@[go_sem] theorem mu_158 {i : Nat} : MU 158 i = 0 := nr rfl
@[go_sem] theorem mu_160 {i : Nat} : MU 160 i = 0 := nr rfl
@[go_sem] theorem mu_161 {i : Nat} : MU 161 i = 0 := nr rfl
theorem beqD {a b : Int} : (a == b) = decide (a = b) := by rw [Bool.eq_iff_iff]; simp
abbrev iv (n : Int) : DV := .fv (.int .i64 n)
abbrev bv (b : Bool) : DV := .fv (.bool b)
def I64 (n : Int) : Prop := -9223372036854775808 ≤ n ∧ n ≤ 9223372036854775807
theorem g0 { P Q : Prop} (h : Q) (e : P = Q := by simp (maxSteps := 1000000) only [go_sem, Int.cast_ofNat_Int, Int.reduceLT, Int.reduceLE, Int.reduceGT, Int.reduceGE, Int.reduceEq, Int.reduceBEq, Int.reduceAdd, Int.reduceSub, Int.reduceToNat, Nat.reduceShiftRight, Nat.reduceMod, Nat.reduceLT, Nat.reduceEqDiff, Nat.reduceAdd, Nat.reduceMul, Nat.reduceLeDiff, Nat.reduceBEq, reduceIte, List.getElem_map]; first | done | rfl) : P := (e).mpr h
theorem d0 { P Q : Prop} (h : Q) (e : P = Q := by simp (disch := first | omega | assumption) only [wrapI, ia3_hdrN, ia3_rowN, ia3_hdrI, ia3_rowI, List.getElem?_eq_getElem, List.length_map, List.length_cons, List.length_nil, List.getElem_map]; first | done | rfl) : P := (e).mpr h
theorem j0 {b : Bool} {B C D E R T : Prop} (h1 : b = true → R → D) (h2 : b = false → T → E) (r1 : b = true → R := by intro hg; (try simp only [Bool.and_eq_true, Bool.or_eq_false_iff, Bool.or_eq_true, Bool.and_eq_false_iff, Bool.not_eq_true', Bool.not_eq_false', decide_eq_true_eq, decide_eq_false_iff_not, beqT, beqF, bneT, bneF] at hg); exact hg) (r2 : b = false → T := by intro hg; (try simp only [Bool.and_eq_true, Bool.or_eq_false_iff, Bool.or_eq_true, Bool.and_eq_false_iff, Bool.not_eq_true', Bool.not_eq_false', decide_eq_true_eq, decide_eq_false_iff_not, beqT, beqF, bneT, bneF] at hg); exact hg) (e1 : b = true → B = D := by intro hg; (try simp (disch := first | omega | assumption) only [wrapI, ia3_hdrN, ia3_rowN, ia3_hdrI, ia3_rowI, List.getElem?_eq_getElem, List.length_map, List.length_cons, List.length_nil, List.getElem_map]); (try simp only [hg]); (first | simp only [eq_true (beq_iff_eq.1 hg)] | simp only [eq_false (beq_eq_false_iff_ne.1 hg)] | simp only [eq_true (of_decide_eq_true hg)] | simp only [eq_false (of_decide_eq_false hg)] | skip); (first | done | rfl)) (e2 : b = false → C = E := by intro hg; (try simp (disch := first | omega | assumption) only [wrapI, ia3_hdrN, ia3_rowN, ia3_hdrI, ia3_rowI, List.getElem?_eq_getElem, List.length_map, List.length_cons, List.length_nil, List.getElem_map]); (try simp only [hg]); (first | simp only [eq_true (beq_iff_eq.1 hg)] | simp only [eq_false (beq_eq_false_iff_ne.1 hg)] | simp only [eq_true (of_decide_eq_true hg)] | simp only [eq_false (of_decide_eq_false hg)] | skip); (first | done | rfl)) : TT b B C .mk .mk := tt_i (fun g => (e1 (tb_eq g)).mpr (h1 (tb_eq g) (r1 (tb_eq g)))) fun g => (e2 (tb_eq g)).mpr (h2 (tb_eq g) (r2 (tb_eq g)))
theorem g1 {A0 P Q : Prop} (a0 : A0) (h : Q) (e : A0 → P = Q := by intro a0; simp (maxSteps := 1000000) only [go_sem, Int.cast_ofNat_Int, Int.reduceLT, Int.reduceLE, Int.reduceGT, Int.reduceGE, Int.reduceEq, Int.reduceBEq, Int.reduceAdd, Int.reduceSub, Int.reduceToNat, Nat.reduceShiftRight, Nat.reduceMod, Nat.reduceLT, Nat.reduceEqDiff, Nat.reduceAdd, Nat.reduceMul, Nat.reduceLeDiff, Nat.reduceBEq, reduceIte, List.getElem_map, a0]; first | done | rfl) : P := (e a0).mpr h
theorem d1 {A0 P Q : Prop} (a0 : A0) (h : Q) (e : A0 → P = Q := by intro a0; simp (disch := first | omega | assumption) only [wrapI, ia3_hdrN, ia3_rowN, ia3_hdrI, ia3_rowI, List.getElem?_eq_getElem, List.length_map, List.length_cons, List.length_nil, List.getElem_map, a0]; first | done | rfl) : P := (e a0).mpr h
theorem j1 {b : Bool} {A0 B C D E R T : Prop} (a0 : A0) (h1 : b = true → R → D) (h2 : b = false → T → E) (r1 : b = true → R := by intro hg; (try simp only [Bool.and_eq_true, Bool.or_eq_false_iff, Bool.or_eq_true, Bool.and_eq_false_iff, Bool.not_eq_true', Bool.not_eq_false', decide_eq_true_eq, decide_eq_false_iff_not, beqT, beqF, bneT, bneF] at hg); exact hg) (r2 : b = false → T := by intro hg; (try simp only [Bool.and_eq_true, Bool.or_eq_false_iff, Bool.or_eq_true, Bool.and_eq_false_iff, Bool.not_eq_true', Bool.not_eq_false', decide_eq_true_eq, decide_eq_false_iff_not, beqT, beqF, bneT, bneF] at hg); exact hg) (e1 : A0 → b = true → B = D := by intro a0; intro hg; (try simp (disch := first | omega | assumption) only [wrapI, ia3_hdrN, ia3_rowN, ia3_hdrI, ia3_rowI, List.getElem?_eq_getElem, List.length_map, List.length_cons, List.length_nil, List.getElem_map, a0]); (try simp only [hg]); (first | simp only [eq_true (beq_iff_eq.1 hg)] | simp only [eq_false (beq_eq_false_iff_ne.1 hg)] | simp only [eq_true (of_decide_eq_true hg)] | simp only [eq_false (of_decide_eq_false hg)] | skip); (first | done | rfl)) (e2 : A0 → b = false → C = E := by intro a0; intro hg; (try simp (disch := first | omega | assumption) only [wrapI, ia3_hdrN, ia3_rowN, ia3_hdrI, ia3_rowI, List.getElem?_eq_getElem, List.length_map, List.length_cons, List.length_nil, List.getElem_map, a0]); (try simp only [hg]); (first | simp only [eq_true (beq_iff_eq.1 hg)] | simp only [eq_false (beq_eq_false_iff_ne.1 hg)] | simp only [eq_true (of_decide_eq_true hg)] | simp only [eq_false (of_decide_eq_false hg)] | skip); (first | done | rfl)) : TT b B C .mk .mk := tt_i (fun g => (e1 a0 (tb_eq g)).mpr (h1 (tb_eq g) (r1 (tb_eq g)))) fun g => (e2 a0 (tb_eq g)).mpr (h2 (tb_eq g) (r2 (tb_eq g)))
theorem g2 {A0 A1 P Q : Prop} (a0 : A0) (a1 : A1) (h : Q) (e : A0 → A1 → P = Q := by intro a0 a1; simp (maxSteps := 1000000) only [go_sem, Int.cast_ofNat_Int, Int.reduceLT, Int.reduceLE, Int.reduceGT, Int.reduceGE, Int.reduceEq, Int.reduceBEq, Int.reduceAdd, Int.reduceSub, Int.reduceToNat, Nat.reduceShiftRight, Nat.reduceMod, Nat.reduceLT, Nat.reduceEqDiff, Nat.reduceAdd, Nat.reduceMul, Nat.reduceLeDiff, Nat.reduceBEq, reduceIte, List.getElem_map, a0, a1]; first | done | rfl) : P := (e a0 a1).mpr h
theorem d2 {A0 A1 P Q : Prop} (a0 : A0) (a1 : A1) (h : Q) (e : A0 → A1 → P = Q := by intro a0 a1; simp (disch := first | omega | assumption) only [wrapI, ia3_hdrN, ia3_rowN, ia3_hdrI, ia3_rowI, List.getElem?_eq_getElem, List.length_map, List.length_cons, List.length_nil, List.getElem_map, a0, a1]; first | done | rfl) : P := (e a0 a1).mpr h
theorem j2 {b : Bool} {A0 A1 B C D E R T : Prop} (a0 : A0) (a1 : A1) (h1 : b = true → R → D) (h2 : b = false → T → E) (r1 : b = true → R := by intro hg; (try simp only [Bool.and_eq_true, Bool.or_eq_false_iff, Bool.or_eq_true, Bool.and_eq_false_iff, Bool.not_eq_true', Bool.not_eq_false', decide_eq_true_eq, decide_eq_false_iff_not, beqT, beqF, bneT, bneF] at hg); exact hg) (r2 : b = false → T := by intro hg; (try simp only [Bool.and_eq_true, Bool.or_eq_false_iff, Bool.or_eq_true, Bool.and_eq_false_iff, Bool.not_eq_true', Bool.not_eq_false', decide_eq_true_eq, decide_eq_false_iff_not, beqT, beqF, bneT, bneF] at hg); exact hg) (e1 : A0 → A1 → b = true → B = D := by intro a0 a1; intro hg; (try simp (disch := first | omega | assumption) only [wrapI, ia3_hdrN, ia3_rowN, ia3_hdrI, ia3_rowI, List.getElem?_eq_getElem, List.length_map, List.length_cons, List.length_nil, List.getElem_map, a0, a1]); (try simp only [hg]); (first | simp only [eq_true (beq_iff_eq.1 hg)] | simp only [eq_false (beq_eq_false_iff_ne.1 hg)] | simp only [eq_true (of_decide_eq_true hg)] | simp only [eq_false (of_decide_eq_false hg)] | skip); (first | done | rfl)) (e2 : A0 → A1 → b = false → C = E := by intro a0 a1; intro hg; (try simp (disch := first | omega | assumption) only [wrapI, ia3_hdrN, ia3_rowN, ia3_hdrI, ia3_rowI, List.getElem?_eq_getElem, List.length_map, List.length_cons, List.length_nil, List.getElem_map, a0, a1]); (try simp only [hg]); (first | simp only [eq_true (beq_iff_eq.1 hg)] | simp only [eq_false (beq_eq_false_iff_ne.1 hg)] | simp only [eq_true (of_decide_eq_true hg)] | simp only [eq_false (of_decide_eq_false hg)] | skip); (first | done | rfl)) : TT b B C .mk .mk := tt_i (fun g => (e1 a0 a1 (tb_eq g)).mpr (h1 (tb_eq g) (r1 (tb_eq g)))) fun g => (e2 a0 a1 (tb_eq g)).mpr (h2 (tb_eq g) (r2 (tb_eq g)))
theorem g3 {A0 A1 A2 P Q : Prop} (a0 : A0) (a1 : A1) (a2 : A2) (h : Q) (e : A0 → A1 → A2 → P = Q := by intro a0 a1 a2; simp (maxSteps := 1000000) only [go_sem, Int.cast_ofNat_Int, Int.reduceLT, Int.reduceLE, Int.reduceGT, Int.reduceGE, Int.reduceEq, Int.reduceBEq, Int.reduceAdd, Int.reduceSub, Int.reduceToNat, Nat.reduceShiftRight, Nat.reduceMod, Nat.reduceLT, Nat.reduceEqDiff, Nat.reduceAdd, Nat.reduceMul, Nat.reduceLeDiff, Nat.reduceBEq, reduceIte, List.getElem_map, a0, a1, a2]; first | done | rfl) : P := (e a0 a1 a2).mpr h
theorem d3 {A0 A1 A2 P Q : Prop} (a0 : A0) (a1 : A1) (a2 : A2) (h : Q) (e : A0 → A1 → A2 → P = Q := by intro a0 a1 a2; simp (disch := first | omega | assumption) only [wrapI, ia3_hdrN, ia3_rowN, ia3_hdrI, ia3_rowI, List.getElem?_eq_getElem, List.length_map, List.length_cons, List.length_nil, List.getElem_map, a0, a1, a2]; first | done | rfl) : P := (e a0 a1 a2).mpr h
theorem j3 {b : Bool} {A0 A1 A2 B C D E R T : Prop} (a0 : A0) (a1 : A1) (a2 : A2) (h1 : b = true → R → D) (h2 : b = false → T → E) (r1 : b = true → R := by intro hg; (try simp only [Bool.and_eq_true, Bool.or_eq_false_iff, Bool.or_eq_true, Bool.and_eq_false_iff, Bool.not_eq_true', Bool.not_eq_false', decide_eq_true_eq, decide_eq_false_iff_not, beqT, beqF, bneT, bneF] at hg); exact hg) (r2 : b = false → T := by intro hg; (try simp only [Bool.and_eq_true, Bool.or_eq_false_iff, Bool.or_eq_true, Bool.and_eq_false_iff, Bool.not_eq_true', Bool.not_eq_false', decide_eq_true_eq, decide_eq_false_iff_not, beqT, beqF, bneT, bneF] at hg); exact hg) (e1 : A0 → A1 → A2 → b = true → B = D := by intro a0 a1 a2; intro hg; (try simp (disch := first | omega | assumption) only [wrapI, ia3_hdrN, ia3_rowN, ia3_hdrI, ia3_rowI, List.getElem?_eq_getElem, List.length_map, List.length_cons, List.length_nil, List.getElem_map, a0, a1, a2]); (try simp only [hg]); (first | simp only [eq_true (beq_iff_eq.1 hg)] | simp only [eq_false (beq_eq_false_iff_ne.1 hg)] | simp only [eq_true (of_decide_eq_true hg)] | simp only [eq_false (of_decide_eq_false hg)] | skip); (first | done | rfl)) (e2 : A0 → A1 → A2 → b = false → C = E := by intro a0 a1 a2; intro hg; (try simp (disch := first | omega | assumption) only [wrapI, ia3_hdrN, ia3_rowN, ia3_hdrI, ia3_rowI, List.getElem?_eq_getElem, List.length_map, List.length_cons, List.length_nil, List.getElem_map, a0, a1, a2]); (try simp only [hg]); (first | simp only [eq_true (beq_iff_eq.1 hg)] | simp only [eq_false (beq_eq_false_iff_ne.1 hg)] | simp only [eq_true (of_decide_eq_true hg)] | simp only [eq_false (of_decide_eq_false hg)] | skip); (first | done | rfl)) : TT b B C .mk .mk := tt_i (fun g => (e1 a0 a1 a2 (tb_eq g)).mpr (h1 (tb_eq g) (r1 (tb_eq g)))) fun g => (e2 a0 a1 a2 (tb_eq g)).mpr (h2 (tb_eq g) (r2 (tb_eq g)))
theorem g4 {A0 A1 A2 A3 P Q : Prop} (a0 : A0) (a1 : A1) (a2 : A2) (a3 : A3) (h : Q) (e : A0 → A1 → A2 → A3 → P = Q := by intro a0 a1 a2 a3; simp (maxSteps := 1000000) only [go_sem, Int.cast_ofNat_Int, Int.reduceLT, Int.reduceLE, Int.reduceGT, Int.reduceGE, Int.reduceEq, Int.reduceBEq, Int.reduceAdd, Int.reduceSub, Int.reduceToNat, Nat.reduceShiftRight, Nat.reduceMod, Nat.reduceLT, Nat.reduceEqDiff, Nat.reduceAdd, Nat.reduceMul, Nat.reduceLeDiff, Nat.reduceBEq, reduceIte, List.getElem_map, a0, a1, a2, a3]; first | done | rfl) : P := (e a0 a1 a2 a3).mpr h
theorem d4 {A0 A1 A2 A3 P Q : Prop} (a0 : A0) (a1 : A1) (a2 : A2) (a3 : A3) (h : Q) (e : A0 → A1 → A2 → A3 → P = Q := by intro a0 a1 a2 a3; simp (disch := first | omega | assumption) only [wrapI, ia3_hdrN, ia3_rowN, ia3_hdrI, ia3_rowI, List.getElem?_eq_getElem, List.length_map, List.length_cons, List.length_nil, List.getElem_map, a0, a1, a2, a3]; first | done | rfl) : P := (e a0 a1 a2 a3).mpr h
theorem j4 {b : Bool} {A0 A1 A2 A3 B C D E R T : Prop} (a0 : A0) (a1 : A1) (a2 : A2) (a3 : A3) (h1 : b = true → R → D) (h2 : b = false → T → E) (r1 : b = true → R := by intro hg; (try simp only [Bool.and_eq_true, Bool.or_eq_false_iff, Bool.or_eq_true, Bool.and_eq_false_iff, Bool.not_eq_true', Bool.not_eq_false', decide_eq_true_eq, decide_eq_false_iff_not, beqT, beqF, bneT, bneF] at hg); exact hg) (r2 : b = false → T := by intro hg; (try simp only [Bool.and_eq_true, Bool.or_eq_false_iff, Bool.or_eq_true, Bool.and_eq_false_iff, Bool.not_eq_true', Bool.not_eq_false', decide_eq_true_eq, decide_eq_false_iff_not, beqT, beqF, bneT, bneF] at hg); exact hg) (e1 : A0 → A1 → A2 → A3 → b = true → B = D := by intro a0 a1 a2 a3; intro hg; (try simp (disch := first | omega | assumption) only [wrapI, ia3_hdrN, ia3_rowN, ia3_hdrI, ia3_rowI, List.getElem?_eq_getElem, List.length_map, List.length_cons, List.length_nil, List.getElem_map, a0, a1, a2, a3]); (try simp only [hg]); (first | simp only [eq_true (beq_iff_eq.1 hg)] | simp only [eq_false (beq_eq_false_iff_ne.1 hg)] | simp only [eq_true (of_decide_eq_true hg)] | simp only [eq_false (of_decide_eq_false hg)] | skip); (first | done | rfl)) (e2 : A0 → A1 → A2 → A3 → b = false → C = E := by intro a0 a1 a2 a3; intro hg; (try simp (disch := first | omega | assumption) only [wrapI, ia3_hdrN, ia3_rowN, ia3_hdrI, ia3_rowI, List.getElem?_eq_getElem, List.length_map, List.length_cons, List.length_nil, List.getElem_map, a0, a1, a2, a3]); (try simp only [hg]); (first | simp only [eq_true (beq_iff_eq.1 hg)] | simp only [eq_false (beq_eq_false_iff_ne.1 hg)] | simp only [eq_true (of_decide_eq_true hg)] | simp only [eq_false (of_decide_eq_false hg)] | skip); (first | done | rfl)) : TT b B C .mk .mk := tt_i (fun g => (e1 a0 a1 a2 a3 (tb_eq g)).mpr (h1 (tb_eq g) (r1 (tb_eq g)))) fun g => (e2 a0 a1 a2 a3 (tb_eq g)).mpr (h2 (tb_eq g) (r2 (tb_eq g)))
theorem g5 {A0 A1 A2 A3 A4 P Q : Prop} (a0 : A0) (a1 : A1) (a2 : A2) (a3 : A3) (a4 : A4) (h : Q) (e : A0 → A1 → A2 → A3 → A4 → P = Q := by intro a0 a1 a2 a3 a4; simp (maxSteps := 1000000) only [go_sem, Int.cast_ofNat_Int, Int.reduceLT, Int.reduceLE, Int.reduceGT, Int.reduceGE, Int.reduceEq, Int.reduceBEq, Int.reduceAdd, Int.reduceSub, Int.reduceToNat, Nat.reduceShiftRight, Nat.reduceMod, Nat.reduceLT, Nat.reduceEqDiff, Nat.reduceAdd, Nat.reduceMul, Nat.reduceLeDiff, Nat.reduceBEq, reduceIte, List.getElem_map, a0, a1, a2, a3, a4]; first | done | rfl) : P := (e a0 a1 a2 a3 a4).mpr h
theorem d5 {A0 A1 A2 A3 A4 P Q : Prop} (a0 : A0) (a1 : A1) (a2 : A2) (a3 : A3) (a4 : A4) (h : Q) (e : A0 → A1 → A2 → A3 → A4 → P = Q := by intro a0 a1 a2 a3 a4; simp (disch := first | omega | assumption) only [wrapI, ia3_hdrN, ia3_rowN, ia3_hdrI, ia3_rowI, List.getElem?_eq_getElem, List.length_map, List.length_cons, List.length_nil, List.getElem_map, a0, a1, a2, a3, a4]; first | done | rfl) : P := (e a0 a1 a2 a3 a4).mpr h
theorem j5 {b : Bool} {A0 A1 A2 A3 A4 B C D E R T : Prop} (a0 : A0) (a1 : A1) (a2 : A2) (a3 : A3) (a4 : A4) (h1 : b = true → R → D) (h2 : b = false → T → E) (r1 : b = true → R := by intro hg; (try simp only [Bool.and_eq_true, Bool.or_eq_false_iff, Bool.or_eq_true, Bool.and_eq_false_iff, Bool.not_eq_true', Bool.not_eq_false', decide_eq_true_eq, decide_eq_false_iff_not, beqT, beqF, bneT, bneF] at hg); exact hg) (r2 : b = false → T := by intro hg; (try simp only [Bool.and_eq_true, Bool.or_eq_false_iff, Bool.or_eq_true, Bool.and_eq_false_iff, Bool.not_eq_true', Bool.not_eq_false', decide_eq_true_eq, decide_eq_false_iff_not, beqT, beqF, bneT, bneF] at hg); exact hg) (e1 : A0 → A1 → A2 → A3 → A4 → b = true → B = D := by intro a0 a1 a2 a3 a4; intro hg; (try simp (disch := first | omega | assumption) only [wrapI, ia3_hdrN, ia3_rowN, ia3_hdrI, ia3_rowI, List.getElem?_eq_getElem, List.length_map, List.length_cons, List.length_nil, List.getElem_map, a0, a1, a2, a3, a4]); (try simp only [hg]); (first | simp only [eq_true (beq_iff_eq.1 hg)] | simp only [eq_false (beq_eq_false_iff_ne.1 hg)] | simp only [eq_true (of_decide_eq_true hg)] | simp only [eq_false (of_decide_eq_false hg)] | skip); (first | done | rfl)) (e2 : A0 → A1 → A2 → A3 → A4 → b = false → C = E := by intro a0 a1 a2 a3 a4; intro hg; (try simp (disch := first | omega | assumption) only [wrapI, ia3_hdrN, ia3_rowN, ia3_hdrI, ia3_rowI, List.getElem?_eq_getElem, List.length_map, List.length_cons, List.length_nil, List.getElem_map, a0, a1, a2, a3, a4]); (try simp only [hg]); (first | simp only [eq_true (beq_iff_eq.1 hg)] | simp only [eq_false (beq_eq_false_iff_ne.1 hg)] | simp only [eq_true (of_decide_eq_true hg)] | simp only [eq_false (of_decide_eq_false hg)] | skip); (first | done | rfl)) : TT b B C .mk .mk := tt_i (fun g => (e1 a0 a1 a2 a3 a4 (tb_eq g)).mpr (h1 (tb_eq g) (r1 (tb_eq g)))) fun g => (e2 a0 a1 a2 a3 a4 (tb_eq g)).mpr (h2 (tb_eq g) (r2 (tb_eq g)))
theorem g6 {A0 A1 A2 A3 A4 A5 P Q : Prop} (a0 : A0) (a1 : A1) (a2 : A2) (a3 : A3) (a4 : A4) (a5 : A5) (h : Q) (e : A0 → A1 → A2 → A3 → A4 → A5 → P = Q := by intro a0 a1 a2 a3 a4 a5; simp (maxSteps := 1000000) only [go_sem, Int.cast_ofNat_Int, Int.reduceLT, Int.reduceLE, Int.reduceGT, Int.reduceGE, Int.reduceEq, Int.reduceBEq, Int.reduceAdd, Int.reduceSub, Int.reduceToNat, Nat.reduceShiftRight, Nat.reduceMod, Nat.reduceLT, Nat.reduceEqDiff, Nat.reduceAdd, Nat.reduceMul, Nat.reduceLeDiff, Nat.reduceBEq, reduceIte, List.getElem_map, a0, a1, a2, a3, a4, a5]; first | done | rfl) : P := (e a0 a1 a2 a3 a4 a5).mpr h
theorem d6 {A0 A1 A2 A3 A4 A5 P Q : Prop} (a0 : A0) (a1 : A1) (a2 : A2) (a3 : A3) (a4 : A4) (a5 : A5) (h : Q) (e : A0 → A1 → A2 → A3 → A4 → A5 → P = Q := by intro a0 a1 a2 a3 a4 a5; simp (disch := first | omega | assumption) only [wrapI, ia3_hdrN, ia3_rowN, ia3_hdrI, ia3_rowI, List.getElem?_eq_getElem, List.length_map, List.length_cons, List.length_nil, List.getElem_map, a0, a1, a2, a3, a4, a5]; first | done | rfl) : P := (e a0 a1 a2 a3 a4 a5).mpr h
theorem j6 {b : Bool} {A0 A1 A2 A3 A4 A5 B C D E R T : Prop} (a0 : A0) (a1 : A1) (a2 : A2) (a3 : A3) (a4 : A4) (a5 : A5) (h1 : b = true → R → D) (h2 : b = false → T → E) (r1 : b = true → R := by intro hg; (try simp only [Bool.and_eq_true, Bool.or_eq_false_iff, Bool.or_eq_true, Bool.and_eq_false_iff, Bool.not_eq_true', Bool.not_eq_false', decide_eq_true_eq, decide_eq_false_iff_not, beqT, beqF, bneT, bneF] at hg); exact hg) (r2 : b = false → T := by intro hg; (try simp only [Bool.and_eq_true, Bool.or_eq_false_iff, Bool.or_eq_true, Bool.and_eq_false_iff, Bool.not_eq_true', Bool.not_eq_false', decide_eq_true_eq, decide_eq_false_iff_not, beqT, beqF, bneT, bneF] at hg); exact hg) (e1 : A0 → A1 → A2 → A3 → A4 → A5 → b = true → B = D := by intro a0 a1 a2 a3 a4 a5; intro hg; (try simp (disch := first | omega | assumption) only [wrapI, ia3_hdrN, ia3_rowN, ia3_hdrI, ia3_rowI, List.getElem?_eq_getElem, List.length_map, List.length_cons, List.length_nil, List.getElem_map, a0, a1, a2, a3, a4, a5]); (try simp only [hg]); (first | simp only [eq_true (beq_iff_eq.1 hg)] | simp only [eq_false (beq_eq_false_iff_ne.1 hg)] | simp only [eq_true (of_decide_eq_true hg)] | simp only [eq_false (of_decide_eq_false hg)] | skip); (first | done | rfl)) (e2 : A0 → A1 → A2 → A3 → A4 → A5 → b = false → C = E := by intro a0 a1 a2 a3 a4 a5; intro hg; (try simp (disch := first | omega | assumption) only [wrapI, ia3_hdrN, ia3_rowN, ia3_hdrI, ia3_rowI, List.getElem?_eq_getElem, List.length_map, List.length_cons, List.length_nil, List.getElem_map, a0, a1, a2, a3, a4, a5]); (try simp only [hg]); (first | simp only [eq_true (beq_iff_eq.1 hg)] | simp only [eq_false (beq_eq_false_iff_ne.1 hg)] | simp only [eq_true (of_decide_eq_true hg)] | simp only [eq_false (of_decide_eq_false hg)] | skip); (first | done | rfl)) : TT b B C .mk .mk := tt_i (fun g => (e1 a0 a1 a2 a3 a4 a5 (tb_eq g)).mpr (h1 (tb_eq g) (r1 (tb_eq g)))) fun g => (e2 a0 a1 a2 a3 a4 a5 (tb_eq g)).mpr (h2 (tb_eq g) (r2 (tb_eq g)))
theorem g7 {A0 A1 A2 A3 A4 A5 A6 P Q : Prop} (a0 : A0) (a1 : A1) (a2 : A2) (a3 : A3) (a4 : A4) (a5 : A5) (a6 : A6) (h : Q) (e : A0 → A1 → A2 → A3 → A4 → A5 → A6 → P = Q := by intro a0 a1 a2 a3 a4 a5 a6; simp (maxSteps := 1000000) only [go_sem, Int.cast_ofNat_Int, Int.reduceLT, Int.reduceLE, Int.reduceGT, Int.reduceGE, Int.reduceEq, Int.reduceBEq, Int.reduceAdd, Int.reduceSub, Int.reduceToNat, Nat.reduceShiftRight, Nat.reduceMod, Nat.reduceLT, Nat.reduceEqDiff, Nat.reduceAdd, Nat.reduceMul, Nat.reduceLeDiff, Nat.reduceBEq, reduceIte, List.getElem_map, a0, a1, a2, a3, a4, a5, a6]; first | done | rfl) : P := (e a0 a1 a2 a3 a4 a5 a6).mpr h
theorem d7 {A0 A1 A2 A3 A4 A5 A6 P Q : Prop} (a0 : A0) (a1 : A1) (a2 : A2) (a3 : A3) (a4 : A4) (a5 : A5) (a6 : A6) (h : Q) (e : A0 → A1 → A2 → A3 → A4 → A5 → A6 → P = Q := by intro a0 a1 a2 a3 a4 a5 a6; simp (disch := first | omega | assumption) only [wrapI, ia3_hdrN, ia3_rowN, ia3_hdrI, ia3_rowI, List.getElem?_eq_getElem, List.length_map, List.length_cons, List.length_nil, List.getElem_map, a0, a1, a2, a3, a4, a5, a6]; first | done | rfl) : P := (e a0 a1 a2 a3 a4 a5 a6).mpr h
theorem j7 {b : Bool} {A0 A1 A2 A3 A4 A5 A6 B C D E R T : Prop} (a0 : A0) (a1 : A1) (a2 : A2) (a3 : A3) (a4 : A4) (a5 : A5) (a6 : A6) (h1 : b = true → R → D) (h2 : b = false → T → E) (r1 : b = true → R := by intro hg; (try simp only [Bool.and_eq_true, Bool.or_eq_false_iff, Bool.or_eq_true, Bool.and_eq_false_iff, Bool.not_eq_true', Bool.not_eq_false', decide_eq_true_eq, decide_eq_false_iff_not, beqT, beqF, bneT, bneF] at hg); exact hg) (r2 : b = false → T := by intro hg; (try simp only [Bool.and_eq_true, Bool.or_eq_false_iff, Bool.or_eq_true, Bool.and_eq_false_iff, Bool.not_eq_true', Bool.not_eq_false', decide_eq_true_eq, decide_eq_false_iff_not, beqT, beqF, bneT, bneF] at hg); exact hg) (e1 : A0 → A1 → A2 → A3 → A4 → A5 → A6 → b = true → B = D := by intro a0 a1 a2 a3 a4 a5 a6; intro hg; (try simp (disch := first | omega | assumption) only [wrapI, ia3_hdrN, ia3_rowN, ia3_hdrI, ia3_rowI, List.getElem?_eq_getElem, List.length_map, List.length_cons, List.length_nil, List.getElem_map, a0, a1, a2, a3, a4, a5, a6]); (try simp only [hg]); (first | simp only [eq_true (beq_iff_eq.1 hg)] | simp only [eq_false (beq_eq_false_iff_ne.1 hg)] | simp only [eq_true (of_decide_eq_true hg)] | simp only [eq_false (of_decide_eq_false hg)] | skip); (first | done | rfl)) (e2 : A0 → A1 → A2 → A3 → A4 → A5 → A6 → b = false → C = E := by intro a0 a1 a2 a3 a4 a5 a6; intro hg; (try simp (disch := first | omega | assumption) only [wrapI, ia3_hdrN, ia3_rowN, ia3_hdrI, ia3_rowI, List.getElem?_eq_getElem, List.length_map, List.length_cons, List.length_nil, List.getElem_map, a0, a1, a2, a3, a4, a5, a6]); (try simp only [hg]); (first | simp only [eq_true (beq_iff_eq.1 hg)] | simp only [eq_false (beq_eq_false_iff_ne.1 hg)] | simp only [eq_true (of_decide_eq_true hg)] | simp only [eq_false (of_decide_eq_false hg)] | skip); (first | done | rfl)) : TT b B C .mk .mk := tt_i (fun g => (e1 a0 a1 a2 a3 a4 a5 a6 (tb_eq g)).mpr (h1 (tb_eq g) (r1 (tb_eq g)))) fun g => (e2 a0 a1 a2 a3 a4 a5 a6 (tb_eq g)).mpr (h2 (tb_eq g) (r2 (tb_eq g)))
theorem g8 {A0 A1 A2 A3 A4 A5 A6 A7 P Q : Prop} (a0 : A0) (a1 : A1) (a2 : A2) (a3 : A3) (a4 : A4) (a5 : A5) (a6 : A6) (a7 : A7) (h : Q) (e : A0 → A1 → A2 → A3 → A4 → A5 → A6 → A7 → P = Q := by intro a0 a1 a2 a3 a4 a5 a6 a7; simp (maxSteps := 1000000) only [go_sem, Int.cast_ofNat_Int, Int.reduceLT, Int.reduceLE, Int.reduceGT, Int.reduceGE, Int.reduceEq, Int.reduceBEq, Int.reduceAdd, Int.reduceSub, Int.reduceToNat, Nat.reduceShiftRight, Nat.reduceMod, Nat.reduceLT, Nat.reduceEqDiff, Nat.reduceAdd, Nat.reduceMul, Nat.reduceLeDiff, Nat.reduceBEq, reduceIte, List.getElem_map, a0, a1, a2, a3, a4, a5, a6, a7]; first | done | rfl) : P := (e a0 a1 a2 a3 a4 a5 a6 a7).mpr h
theorem d8 {A0 A1 A2 A3 A4 A5 A6 A7 P Q : Prop} (a0 : A0) (a1 : A1) (a2 : A2) (a3 : A3) (a4 : A4) (a5 : A5) (a6 : A6) (a7 : A7) (h : Q) (e : A0 → A1 → A2 → A3 → A4 → A5 → A6 → A7 → P = Q := by intro a0 a1 a2 a3 a4 a5 a6 a7; simp (disch := first | omega | assumption) only [wrapI, ia3_hdrN, ia3_rowN, ia3_hdrI, ia3_rowI, List.getElem?_eq_getElem, List.length_map, List.length_cons, List.length_nil, List.getElem_map, a0, a1, a2, a3, a4, a5, a6, a7]; first | done | rfl) : P := (e a0 a1 a2 a3 a4 a5 a6 a7).mpr h
theorem j8 {b : Bool} {A0 A1 A2 A3 A4 A5 A6 A7 B C D E R T : Prop} (a0 : A0) (a1 : A1) (a2 : A2) (a3 : A3) (a4 : A4) (a5 : A5) (a6 : A6) (a7 : A7) (h1 : b = true → R → D) (h2 : b = false → T → E) (r1 : b = true → R := by intro hg; (try simp only [Bool.and_eq_true, Bool.or_eq_false_iff, Bool.or_eq_true, Bool.and_eq_false_iff, Bool.not_eq_true', Bool.not_eq_false', decide_eq_true_eq, decide_eq_false_iff_not, beqT, beqF, bneT, bneF] at hg); exact hg) (r2 : b = false → T := by intro hg; (try simp only [Bool.and_eq_true, Bool.or_eq_false_iff, Bool.or_eq_true, Bool.and_eq_false_iff, Bool.not_eq_true', Bool.not_eq_false', decide_eq_true_eq, decide_eq_false_iff_not, beqT, beqF, bneT, bneF] at hg); exact hg) (e1 : A0 → A1 → A2 → A3 → A4 → A5 → A6 → A7 → b = true → B = D := by intro a0 a1 a2 a3 a4 a5 a6 a7; intro hg; (try simp (disch := first | omega | assumption) only [wrapI, ia3_hdrN, ia3_rowN, ia3_hdrI, ia3_rowI, List.getElem?_eq_getElem, List.length_map, List.length_cons, List.length_nil, List.getElem_map, a0, a1, a2, a3, a4, a5, a6, a7]); (try simp only [hg]); (first | simp only [eq_true (beq_iff_eq.1 hg)] | simp only [eq_false (beq_eq_false_iff_ne.1 hg)] | simp only [eq_true (of_decide_eq_true hg)] | simp only [eq_false (of_decide_eq_false hg)] | skip); (first | done | rfl)) (e2 : A0 → A1 → A2 → A3 → A4 → A5 → A6 → A7 → b = false → C = E := by intro a0 a1 a2 a3 a4 a5 a6 a7; intro hg; (try simp (disch := first | omega | assumption) only [wrapI, ia3_hdrN, ia3_rowN, ia3_hdrI, ia3_rowI, List.getElem?_eq_getElem, List.length_map, List.length_cons, List.length_nil, List.getElem_map, a0, a1, a2, a3, a4, a5, a6, a7]); (try simp only [hg]); (first | simp only [eq_true (beq_iff_eq.1 hg)] | simp only [eq_false (beq_eq_false_iff_ne.1 hg)] | simp only [eq_true (of_decide_eq_true hg)] | simp only [eq_false (of_decide_eq_false hg)] | skip); (first | done | rfl)) : TT b B C .mk .mk := tt_i (fun g => (e1 a0 a1 a2 a3 a4 a5 a6 a7 (tb_eq g)).mpr (h1 (tb_eq g) (r1 (tb_eq g)))) fun g => (e2 a0 a1 a2 a3 a4 a5 a6 a7 (tb_eq g)).mpr (h2 (tb_eq g) (r2 (tb_eq g)))
theorem cw {f : FuncId} {ds : List DV} {d : DV} {outs : List DV} {kq : Nat} {q : PC} {rs : List ResultVar} (kp : Nat) (fn : Func) (fz : Bool) (h : PW Γ E MU CC kq q (ini 0 ds) (EK Γ fz rs (eqP d outs) (cst outs))) (hF : F f = some fn := by rfl) (hb : fn.body = some (fn.body.getD .skip) := by rfl) (hp : prep (fn.body.getD .skip) = some ((prep (fn.body.getD .skip)).getD .skip) := by rfl) (hn : ds.length ≤ fn.ntmps := by exact Nat.le_of_ble_eq_true rfl) (hl : ds.length ≤ 900000 := by exact Nat.le_of_ble_eq_true rfl) (e1 : kp = kq := by conv => lhs; cbv) (e2 : (prep (fn.body.getD .skip)).getD .skip = q := by conv => lhs; cbv) (e3 : fn.results.toList = rs := by conv => lhs; cbv) : C2 CC f ds d outs := by
  subst e1; subst e2
  exact c2_fn _ fz hF hb hp hn hl e3 h
section
variable {MU : FuncId → Nat → Nat} {C : Rel} {kp : Nat} {Q : Ex → St → Prop} {st : St}
theorem pdx (t : Nat) {op : Op} {ty : TypeId} {pos : String} {af : Array Edge} {gd : Option (Tmp × Bool)} {rest : List Oper} (am kd : List Nat) {L : List POp} (h : OX Γ E MU C L st st (keK kp Q)) (h1 : drOk Γ ⟨⟨some t, op, ty, pos, af, gd⟩ :: rest⟩ am kd true = true := by kernel_rfl) (e : prepT kd ((prepO ⟨⟨some t, op, ty, pos, af, gd⟩ :: rest⟩ (⟨some t, op, ty, pos, af, gd⟩ :: rest)).getD []) = L := by conv => lhs; cbv) : PW Γ E MU C kp (.draw ⟨⟨some t, op, ty, pos, af, gd⟩ :: rest⟩) st Q := pw_drawX am kd h1 (e ▸ h)
theorem pd3 (t : Nat) {op : Op} {ty : TypeId} {pos : String} {af : Array Edge} {gd : Option (Tmp × Bool)} {rest : List Oper} (am kd : List Nat) (x : Bool) {L : List POp} (h : OW Γ E MU C x L st (keK kp Q)) (h1 : drOk Γ ⟨⟨some t, op, ty, pos, af, gd⟩ :: rest⟩ am kd x = true := by kernel_rfl) (e : prepT kd ((prepO ⟨⟨some t, op, ty, pos, af, gd⟩ :: rest⟩ (⟨some t, op, ty, pos, af, gd⟩ :: rest)).getD []) = L := by conv => lhs; cbv) : PW Γ E MU C kp (.draw ⟨⟨some t, op, ty, pos, af, gd⟩ :: rest⟩) st Q := pw_draw2 am kd x h1 (e ▸ h)
end
theorem dn {P : Prop} (h : P := by repeat' first | refine g0 ?_ | refine d0 ?_ | refine j0 (fun hg hgo => ?_) fun hg hgo => ?_ | refine ek_ret ?_ | refine ek_norm ?_ | refine ⟨by omega, ?_⟩ | rfl | trivial | intro _) : P := h
theorem v_in (n lo hi : Int) : C2 CC F_impl_in [iv n, iv lo, iv hi] (bv (decide (n ≥ lo) && decide (n ≤ hi))) [] := by
  refine cw (keepF Try.f67) Try.f67 false ?_
  repeat' first | refine g0 ?_ | refine d0 ?_ | refine j0 (fun hg hgo => ?_) fun hg hgo => ?_ | refine ek_ret ?_ | refine ek_norm ?_ | refine ⟨by omega, ?_⟩ | rfl | trivial | intro _
  all_goals simp_all
theorem v_l1In (n lo hi : Int) : C2 CC F_spec_l1In [iv n, iv lo, iv hi] (bv (decide (n ≥ lo) && decide (n ≤ hi))) [] := by
  refine cw (keepF Try.f62) Try.f62 false ?_
  repeat' first | refine g0 ?_ | refine d0 ?_ | refine j0 (fun hg hgo => ?_) fun hg hgo => ?_ | refine ek_ret ?_ | refine ek_norm ?_ | refine ⟨by omega, ?_⟩ | rfl | trivial | intro _
  all_goals simp_all
def wok (op : Int) : Bool := decide (op ≥ 1) && decide (op ≤ 10)
theorem v_WordOk (op : Int) : C2 CC F_impl_WordOk [iv op] (bv (wok op)) [] := by
  refine cw (keepF Try.f145) Try.f145 false ?_
  repeat' first | refine ck_intro (by first | exact v_in _ _ _) ?_ ?_ | refine g0 ?_ | refine d0 ?_ | refine j0 (fun hg hgo => ?_) fun hg hgo => ?_ | refine ek_ret ?_ | refine ek_norm ?_ | refine ⟨by omega, ?_⟩ | rfl | trivial | intro _
theorem s_WordOk (op : Int) : C2 CC F_spec_WordOk [iv op] (bv (wok op)) [] := by
  refine cw (keepF Try.f103) Try.f103 false ?_
  repeat' first | refine ck_intro (by first | exact v_l1In _ _ _) ?_ ?_ | refine g0 ?_ | refine d0 ?_ | refine j0 (fun hg hgo => ?_) fun hg hgo => ?_ | refine ek_ret ?_ | refine ek_norm ?_ | refine ⟨by omega, ?_⟩ | rfl | trivial | intro _
def rb (l : List Int) : FV := .row 1 (l.map (.int .u8))
def idxI (c : Int) : List Int → Int → Int
  | [], _ => -1
  | x :: l, j => if c = x then j else idxI c l (j + 1)
theorem idx_at (c : Int) : ∀ (l : List Int) (j : Nat) (k : Int), (∀ i (h : i < l.length), i < j → c ≠ l[i]) → idxI c l k = idxI c (l.drop j) (k + j)
  | l, 0, k, _ => by simp
  | [], j + 1, k, _ => by simp [idxI]
  | x :: l, j + 1, k, h => by
    have h0 := h 0 (by simp) (by omega)
    simp only [List.getElem_cons_zero] at h0
    rw [List.drop_succ_cons, idxI, if_neg h0, idx_at c l j (k + 1) (fun i hi hij => by have := h (i + 1) (by simpa using hi) (by omega); simpa using this)]
    congr 1; omega
theorem v_Index_byte (l : List Int) (c : Int) (hl : l.length < 4611686018427387904) : C2 CC F_slices_Index_byte [.fv (rb l), .fv (.int .u8 c)] (iv (idxI c l 0)) [] := by
  unfold rb
  refine cw (keepF Try.f149) Try.f149 false ?_
  repeat' first | refine g0 ?_ | refine d0 ?_ | refine j0 (fun hg hgo => ?_) fun hg hgo => ?_ | refine ek_ret ?_ | refine ek_norm ?_ | refine ⟨by omega, ?_⟩ | rfl | trivial | intro _
  refine pw_loop (fun m st => ∃ j : Nat, j + m = l.length ∧ (∀ i (h : i < l.length), i < j → c ≠ l[i]) ∧ st = [(0, .fv (rb l)), (1, .fv (.int .u8 c)), (7, iv l.length), (8, iv j)]) l.length [(0, .fv (rb l)), (1, .fv (.int .u8 c)), (7, iv l.length), (8, iv (0 : Nat))] (sub_of ?_) ⟨0, by omega, fun i _ hi => by omega, rfl⟩ ?_
  · unfold rb
    exact dn
  · rintro m st ⟨j, hj, hb, rfl⟩
    unfold rb
    have hidx := idx_at c l j 0 hb
    by_cases hlt : j < l.length
    · have hd : decide ((j : Int) < (l.length : Int)) = true := by rw [decide_eq_true_eq]; omega
      have hml : j < (l.map (FV.int .u8)).length := by rw [List.length_map]; exact hlt
      have hidx2 : idxI c l 0 = if c = l[j] then (j : Int) else idxI c (l.drop (j + 1)) (j + 1) := by
        rw [hidx, List.drop_eq_getElem_cons hlt, idxI]; simp
      repeat' first | refine g1 @hd ?_ | refine d1 @hd ?_ | refine j1 @hd (fun hg hgo => ?_) fun hg hgo => ?_ | refine ek_ret ?_ | refine ek_norm ?_ | refine ⟨by omega, ?_⟩ | rfl | trivial | intro _
      · rw [hidx2, if_pos (by simpa using hg)]
      · have hne : c ≠ l[j] := by simpa using hg
        refine rd_norm [(0, .fv (rb l)), (1, .fv (.int .u8 c)), (7, iv l.length), (8, iv (j + 1 : Nat))] (sub_of ?_) (m - 1) (by omega) ⟨j + 1, by omega, fun i hi h1 => ?_, rfl⟩
        · unfold rb
          exact dn
        · by_cases h2 : i = j
          · subst h2; exact hne
          · exact hb i hi (by omega)
    · have hd : decide ((j : Int) < (l.length : Int)) = false := by rw [decide_eq_false_iff_not]; omega
      have hidx2 : idxI c l 0 = -1 := by
        rw [hidx, List.drop_eq_nil_of_le (by omega)]; rfl
      repeat' first | refine g2 @hd @hidx2 ?_ | refine d2 @hd @hidx2 ?_ | refine j2 @hd @hidx2 (fun hg hgo => ?_) fun hg hgo => ?_ | refine ek_ret ?_ | refine ek_norm ?_ | refine ⟨by omega, ?_⟩ | rfl | trivial | intro _
structure StepD where
  op : Int
  r : Int
  a : Int
  b : Int
  n : Int
  deriving DecidableEq
def StepD.wf (x : StepD) : Prop := I64 x.op ∧ I64 x.r ∧ I64 x.a ∧ I64 x.b ∧ I64 x.n
abbrev stF (s : StepD) : FV := .agg [.int .i64 s.op, .int .i64 s.r, .int .i64 s.a, .int .i64 s.b, .int .i64 s.n]
abbrev sF (s : StepD) : DV := .fv (stF s)
def ints (l : List Int) : List DV := l.map fun n => .fv (.int .i64 n)
theorem ints_nil : ints [] = [] := nr rfl
theorem ints_cons {s : Int} {l : List Int} : ints (s :: l) = .fv (.int .i64 s) :: ints l := nr rfl
@[go_sem] theorem bin_shr {Γ : TypeId → Option TI} {E : TypeId → Nat} {t : TypeId} {k k' : IntKind} {a b : Int} (h : ¬ b < 0) : binV Γ E .shr t (.int k a) (.int k' b) = some (.int k (a.fdiv (2 ^ min b.toNat k.bits))) := by
  simp only [binV, if_neg h]
attribute [go_sem] bin_rem bin_and bin_or
structure CurD where
  b : List Int
  i : Int
  h : Int
structure CurD.ok (c : CurD) : Prop where
  bytes : ∀ x ∈ c.b, 0 ≤ x ∧ x < 256
  pos : 0 ≤ c.i ∧ c.i ≤ c.b.length
  len : c.b.length ≤ 1048576
def hN (l : List Int) : Nat → Int
  | 0 => 17111 + l.length
  | j + 1 => bits .and .i64 (hN l j * 131 + (l[j]?).getD 0 + 7) 1073741823
theorem wrapB {n : Int} (h0 : 0 ≤ n) (h1 : n ≤ 255) : IntKind.wrap .u8 n = n := IntWalk.u8_in n ⟨h0, h1⟩
theorem wrapU {n : Int} (h0 : 0 ≤ n) (h1 : n ≤ 18446744073709551615) : IntKind.wrap .u64 n = n := IntWalk.u64_in n ⟨h0, h1⟩
theorem ofInt_nat {n : Nat} (h : n < 18446744073709551616) : (BitVec.ofInt 64 (n : Int)).toNat = n := by
  rw [BitVec.ofInt_natCast, BitVec.toNat_ofNat, Nat.mod_eq_of_lt (by omega)]
theorem u_and {n : Nat} (h : n < 18446744073709551616) : bits .and .u64 (n : Int) 127 = ((n % 128 : Nat) : Int) := by
  have e : bits .and .u64 (n : Int) 127 = IntKind.u64.wrap ((BitVec.ofInt 64 (n : Int) &&& BitVec.ofInt 64 ((127 : Nat) : Int)).toNat : Int) := rfl
  rw [e, BitVec.toNat_and, ofInt_nat h, ofInt_nat (by decide), show (127 : Nat) = 2 ^ 7 - 1 from rfl, Nat.and_two_pow_sub_one_eq_mod, wrapU (by omega) (by omega)]
theorem or_add {a i b : Nat} (h : b < 2 ^ i) : b ||| 2 ^ i * a = b + 2 ^ i * a := by
  rw [Nat.or_comm, ← Nat.two_pow_add_eq_or_of_lt h, Nat.add_comm]
theorem u_or {n : Nat} (h : n < 128) : bits .or .u64 (n : Int) 128 = ((n + 128 : Nat) : Int) := by
  have e : bits .or .u64 (n : Int) 128 = IntKind.u64.wrap ((BitVec.ofInt 64 (n : Int) ||| BitVec.ofInt 64 ((128 : Nat) : Int)).toNat : Int) := rfl
  have h2 := or_add (a := 1) (i := 7) (b := n) (by omega)
  rw [Nat.mul_one, show (2 : Nat) ^ 7 = 128 from rfl] at h2
  rw [e, BitVec.toNat_or, ofInt_nat (by omega), ofInt_nat (by decide), h2, wrapU (by omega) (by omega)]
theorem u_shr {n : Nat} : ((n : Int)).fdiv (2 ^ min 7 64) = ((n / 128 : Nat) : Int) := by
  rw [show ((2 : Int) ^ min 7 64) = 128 from rfl, Int.fdiv_eq_ediv_of_nonneg _ (by decide)]
  rfl
def packL (n : Nat) : List Int := if 127 < n then ((n % 128 + 128 : Nat) : Int) :: packL (n / 128) else [(n : Int)]
  decreasing_by omega
def bys (l : List Int) : List DV := l.map fun b => .fv (.int .u8 b)
@[go_sem] theorem nrs_bys {l : List Int} : noRefs (bys l) = true := nrs_map
@[go_sem] theorem fvs_bys {l : List Int} : fvs (bys l) = true := fvs_map
@[go_sem] theorem fzL_bys {l : List Int} : fzL (bys l) = some (l.map (.int .u8)) := fzL_map
@[go_sem] theorem clDs_bys {l : List Int} : clDs (bys l) = true := clDs_map fun x => rfl
@[go_sem] theorem bys_len {l : List Int} : (bys l).length = l.length := by unfold bys; simp
theorem bys_snoc {l : List Int} {x : Int} : bys l ++ [.fv (.int .u8 x)] = bys (l ++ [x]) := by unfold bys; simp
theorem packL_len : ∀ (k n : Nat), n < 128 ^ (k + 1) → (packL n).length ≤ k + 1
  | 0, n, h => by unfold packL; rw [if_neg (by omega)]; simp
  | k + 1, n, h => by
    unfold packL
    split
    · rw [List.length_cons]
      have := packL_len k (n / 128) (by rw [Nat.div_lt_iff_lt_mul (by decide), ← Nat.pow_succ]; exact h)
      omega
    · simp
def numN (x : Int) : Nat := if x < 0 then (-2 * x - 1).toNat else (2 * x).toNat
def numOk (x : Int) : Bool := decide (x ≥ -4611686018427387904) && decide (x ≤ 4611686018427387903)
def packI (x : Int) : List Int := packL (numN x)
theorem numN_lt {x : Int} (h : numOk x = true) : numN x < 9223372036854775808 := by
  unfold numOk at h
  rw [Bool.and_eq_true, decide_eq_true_eq, decide_eq_true_eq] at h
  unfold numN; split <;> omega
theorem v_PackNum_spec_no (x : Int) (h : numOk x = false) : C2 CC F_spec_PackNum [iv x] (.own 1 []) [] := by
  unfold numOk at h
  refine cw (keepF Try.f36) Try.f36 false ?_
  repeat' first | refine ck_intro (by first | exact v_l1In _ _ _) ?_ ?_ | refine g1 @h ?_ | refine d1 @h ?_ | refine j1 @h (fun hg hgo => ?_) fun hg hgo => ?_ | refine ek_ret ?_ | refine ek_norm ?_ | refine ⟨by omega, ?_⟩ | rfl | trivial | intro _
theorem loop_pack {n : Nat} (h : 127 < n) : packL n = ((n % 128 + 128 : Nat) : Int) :: packL (n / 128) := by rw [packL, if_pos h]
theorem loop_pack_no {n : Nat} (h : ¬ 127 < n) : packL n = [(n : Int)] := by rw [packL, if_neg h]
theorem v_PackNum_spec (x : Int) (h : numOk x = true) : C2 CC F_spec_PackNum [iv x] (.own 1 (bys (packI x))) [] := by
  have hl := numN_lt h
  have hpl := packL_len 9 (numN x) (by omega)
  unfold packI
  have key : ∀ n : Nat, numN x = n → (x < 0 → IntKind.wrap .i64 (IntKind.wrap .i64 (-2 * x) - 1) = (n : Int)) ∧ (¬ x < 0 → IntKind.wrap .i64 (2 * x) = (n : Int)) := by
    rintro n rfl
    unfold numOk at h
    rw [Bool.and_eq_true, decide_eq_true_eq, decide_eq_true_eq] at h
    constructor
    · intro hx
      by_cases hm : x = -4611686018427387904
      · subst hm; decide
      · rw [wrapI (n := -2 * x) (by omega) (by omega), wrapI (by omega) (by omega)]
        unfold numN; rw [if_pos hx]; omega
    · intro hx
      rw [wrapI (by omega) (by omega)]
      unfold numN; rw [if_neg hx]; omega
  generalize hN : numN x = N at hl hpl
  obtain ⟨k1, k2⟩ := key N hN
  clear key
  unfold numOk at h
  rcases (show (decide (x < 0) = true ∧ IntKind.wrap .i64 (IntKind.wrap .i64 (-2 * x) - 1) = (N : Int)) ∨ (decide (x < 0) = false ∧ IntKind.wrap .i64 (2 * x) = (N : Int)) by
    by_cases hx : x < 0
    · exact .inl ⟨by rw [decide_eq_true_eq]; exact hx, k1 hx⟩
    · exact .inr ⟨by rw [decide_eq_false_iff_not]; exact hx, k2 hx⟩) with ⟨hd, hw⟩ | ⟨hd, hw⟩
  all_goals clear k1 k2 hN
  all_goals (refine cw (keepF Try.f36) Try.f36 false ?_
             repeat' first | refine ck_intro (by first | exact v_l1In _ _ _) ?_ ?_ | refine g3 @h @hd @hw ?_ | refine d3 @h @hd @hw ?_ | refine j3 @h @hd @hw (fun hg hgo => ?_) fun hg hgo => ?_ | refine ek_ret ?_ | refine ek_norm ?_ | refine ⟨by omega, ?_⟩ | rfl | trivial | intro _)
  all_goals (
    refine pw_loop (fun m st => ∃ pre, pre ++ packL m = packL N ∧ m ≤ N ∧ st = [(3, .own 1 (bys pre)), (4, iv m)]) N [(3, .own 1 (bys [])), (4, iv N)] (sub_of ?_) ⟨[], by simp, Nat.le_refl _, rfl⟩ ?_
    · exact dn
    · rintro m st ⟨pre, hpre, hmN, rfl⟩
      have hlen : pre.length ≤ 10 := by
        have := congrArg List.length hpre
        rw [List.length_append] at this; omega
      by_cases hm : 127 < m
      · have hdm : decide ((m : Int) > 127) = true := by rw [decide_eq_true_eq]; omega
        have hr := bin_rem (Γ := Γ) (E := E) (t := 3) (kk := .i64) (a := (m : Int)) (b := 128) (by decide)
        have ht : (m : Int).tmod 128 = ((m % 128 : Nat) : Int) := by rw [Int.tmod_eq_emod_of_nonneg (by omega)]; rfl
        have hq := bin_quo (Γ := Γ) (E := E) (t := 3) (kk := .i64) (a := (m : Int)) (b := 128) (by decide)
        have hqt : IntKind.wrap .i64 ((m : Int).tdiv 128) = ((m / 128 : Nat) : Int) := by rw [Int.tdiv_eq_ediv_of_nonneg (by omega), wrapI (by omega) (by omega)]; rfl
        have ha : IntKind.wrap .i64 (((m % 128 : Nat) : Int) + 128) = ((m % 128 + 128 : Nat) : Int) := by rw [wrapI (by omega) (by omega)]; rfl
        have hb : IntKind.wrap .u8 ((m % 128 + 128 : Nat) : Int) = ((m % 128 + 128 : Nat) : Int) := wrapB (by omega) (by omega)
        rw [loop_pack hm] at hpre
        repeat' first | refine g8 @hdm @hr @ht @hq @hqt @ha @hb @bys_snoc ?_ | refine d8 @hdm @hr @ht @hq @hqt @ha @hb @bys_snoc ?_ | refine j8 @hdm @hr @ht @hq @hqt @ha @hb @bys_snoc (fun hg hgo => ?_) fun hg hgo => ?_ | refine ek_ret ?_ | refine ek_norm ?_ | refine ⟨by omega, ?_⟩ | rfl | trivial | intro _
        refine rd_norm [(3, .own 1 (bys (pre ++ [((m % 128 + 128 : Nat) : Int)]))), (4, iv (m / 128 : Nat))] (sub_of ?_) (m / 128) (by omega) ⟨pre ++ [((m % 128 + 128 : Nat) : Int)], by rw [← hpre]; simp, by omega, rfl⟩
        exact dn
      · have hdm : decide ((m : Int) > 127) = false := by rw [decide_eq_false_iff_not]; omega
        have hb : IntKind.wrap .u8 (m : Int) = (m : Int) := wrapB (by omega) (by omega)
        rw [loop_pack_no hm] at hpre
        rw [← hpre]
        repeat' first | refine g3 @hdm @hb @bys_snoc ?_ | refine d3 @hdm @hb @bys_snoc ?_ | refine j3 @hdm @hb @bys_snoc (fun hg hgo => ?_) fun hg hgo => ?_ | refine ek_ret ?_ | refine ek_norm ?_ | refine ⟨by omega, ?_⟩ | rfl | trivial | intro _)
theorem v_PackNum_no (x : Int) (h : numOk x = false) : C2 CC F_impl_PackNum [iv x] (.fv .nil) [] := by
  unfold numOk at h
  rcases (show (decide (x ≥ 4611686018427387904) = true) ∨ (decide (x ≥ 4611686018427387904) = false ∧ decide (x < -4611686018427387904) = true) by
    simp only [Bool.and_eq_false_iff, decide_eq_false_iff_not, decide_eq_true_eq] at h ⊢; omega) with hd | ⟨hd, hd2⟩
  · refine cw (keepF Try.f77) Try.f77 false ?_
    repeat' first | refine g1 @hd ?_ | refine d1 @hd ?_ | refine j1 @hd (fun hg hgo => ?_) fun hg hgo => ?_ | refine ek_ret ?_ | refine ek_norm ?_ | refine ⟨by omega, ?_⟩ | rfl | trivial | intro _
  · refine cw (keepF Try.f77) Try.f77 false ?_
    repeat' first | refine g2 @hd @hd2 ?_ | refine d2 @hd @hd2 ?_ | refine j2 @hd @hd2 (fun hg hgo => ?_) fun hg hgo => ?_ | refine ek_ret ?_ | refine ek_norm ?_ | refine ⟨by omega, ?_⟩ | rfl | trivial | intro _
theorem v_PackNum (x : Int) (h : numOk x = true) : C2 CC F_impl_PackNum [iv x] (.own 1 (bys (packI x))) [] := by
  have hl := numN_lt h
  have hpl := packL_len 9 (numN x) (by omega)
  unfold packI
  unfold numOk at h
  rw [Bool.and_eq_true, decide_eq_true_eq, decide_eq_true_eq] at h
  have hd1 : decide (x ≥ 4611686018427387904) = false := by rw [decide_eq_false_iff_not]; omega
  have hd2 : decide (x < -4611686018427387904) = false := by rw [decide_eq_false_iff_not]; omega
  have key : ∃ a b c : Int, IntKind.wrap .u64 (IntKind.wrap .i64 (2 * x)) = a ∧ (x < 0 → IntKind.wrap .u64 (IntKind.wrap .i64 (IntKind.wrap .i64 (-2 * x) - 1)) = b) ∧ c = 9223372036854775807 ∧ ((¬ x < 0 ∧ a = numN x) ∨ (x < 0 ∧ ¬ x = -4611686018427387904 ∧ b = numN x) ∨ (x < 0 ∧ x = -4611686018427387904 ∧ c = numN x)) := by
    refine ⟨_, _, _, rfl, fun _ => rfl, rfl, ?_⟩
    by_cases hx : x < 0
    · right
      by_cases hm : x = -4611686018427387904
      · right; subst hm; exact ⟨hx, rfl, by decide⟩
      · left
        refine ⟨hx, hm, ?_⟩
        rw [wrapI (n := -2 * x) (by omega) (by omega), wrapI (by omega) (by omega), wrapU (by omega) (by omega)]
        unfold numN; rw [if_pos hx]; omega
    · left
      refine ⟨hx, ?_⟩
      rw [wrapI (by omega) (by omega), wrapU (by omega) (by omega)]
      unfold numN; rw [if_neg hx]; omega
  obtain ⟨a, b, c, ha, hb, hc, hcase⟩ := key
  generalize numN x = N at hl hpl hcase
  have fin : ∀ m : Nat, m ≤ N → 127 < m → bits .and .u64 (m : Int) 127 = ((m % 128 : Nat) : Int) ∧ bits .or .u64 ((m % 128 : Nat) : Int) 128 = ((m % 128 + 128 : Nat) : Int) ∧ IntKind.wrap .u8 ((m % 128 + 128 : Nat) : Int) = ((m % 128 + 128 : Nat) : Int) ∧ (m : Int).fdiv (2 ^ min 7 64) = ((m / 128 : Nat) : Int) := fun m hm h1 =>
    ⟨u_and (by omega), u_or (by omega), wrapB (by omega) (by omega), u_shr⟩
  have hcc : ∃ M : Int, M = N ∧ ((decide (x < 0) = false ∧ IntKind.wrap .u64 (IntKind.wrap .i64 (2 * x)) = M) ∨ (decide (x < 0) = true ∧ (x == -4611686018427387904) = false ∧ IntKind.wrap .u64 (IntKind.wrap .i64 (IntKind.wrap .i64 (-2 * x) - 1)) = M) ∨ (decide (x < 0) = true ∧ (x == -4611686018427387904) = true ∧ (9223372036854775807 : Int) = M)) := by
    refine ⟨N, rfl, ?_⟩
    rcases hcase with ⟨hx, e⟩ | ⟨hx, hm, e⟩ | ⟨hx, hm, e⟩
    · exact .inl ⟨by rw [decide_eq_false_iff_not]; exact hx, by rw [ha, e]⟩
    · exact .inr (.inl ⟨by rw [decide_eq_true_eq]; exact hx, by rw [beq_eq_false_iff_ne]; exact hm, by rw [hb hx, e]⟩)
    · exact .inr (.inr ⟨by rw [decide_eq_true_eq]; exact hx, by rw [beq_iff_eq]; exact hm, by rw [← hc, e]⟩)
  clear hcase hb hc ha
  obtain ⟨M, hMN, hcc⟩ := hcc
  rcases hcc with ⟨hd, hw⟩ | ⟨hd, hd3, hw⟩ | ⟨hd, hd3, hw⟩
  rotate_left
  · have hq : True := trivial
    refine cw (keepF Try.f77) Try.f77 false ?_
    repeat' first | refine g5 @hd1 @hd2 @hd @hd3 @hw ?_ | refine d5 @hd1 @hd2 @hd @hd3 @hw ?_ | refine j5 @hd1 @hd2 @hd @hd3 @hw (fun hg hgo => ?_) fun hg hgo => ?_ | refine ek_ret ?_ | refine ek_norm ?_ | refine ⟨by omega, ?_⟩ | rfl | trivial | intro _
    rw [hMN]
    refine pw_loop (fun m st => ∃ pre, pre ++ packL m = packL N ∧ m ≤ N ∧ st = [(4, .own 1 (bys pre)), (3, .fv (.int .u64 m))]) N [(4, .own 1 (bys [])), (3, .fv (.int .u64 N))] (sub_of ?_) ⟨[], by simp, Nat.le_refl _, rfl⟩ ?_
    · exact dn
    · rintro m st ⟨pre, hpre, hmN, rfl⟩
      have hlen : pre.length ≤ 10 := by
        have := congrArg List.length hpre
        rw [List.length_append] at this; omega
      by_cases hm : 127 < m
      · have hdm : decide ((m : Int) > 127) = true := by rw [decide_eq_true_eq]; omega
        obtain ⟨e1, e2, e3, e4⟩ := fin m hmN hm
        rw [loop_pack hm] at hpre
        repeat' first | refine g6 @hdm @e1 @e2 @e3 @e4 @bys_snoc ?_ | refine d6 @hdm @e1 @e2 @e3 @e4 @bys_snoc ?_ | refine j6 @hdm @e1 @e2 @e3 @e4 @bys_snoc (fun hg hgo => ?_) fun hg hgo => ?_ | refine ek_ret ?_ | refine ek_norm ?_ | refine ⟨by omega, ?_⟩ | rfl | trivial | intro _
        refine rd_norm [(4, .own 1 (bys (pre ++ [((m % 128 + 128 : Nat) : Int)]))), (3, .fv (.int .u64 (m / 128 : Nat)))] (sub_of ?_) (m / 128) (by omega) ⟨pre ++ [((m % 128 + 128 : Nat) : Int)], by rw [← hpre]; simp, by omega, rfl⟩
        exact dn
      · have hdm : decide ((m : Int) > 127) = false := by rw [decide_eq_false_iff_not]; omega
        have hb : IntKind.wrap .u8 (m : Int) = (m : Int) := wrapB (by omega) (by omega)
        rw [loop_pack_no hm] at hpre
        rw [← hpre]
        repeat' first | refine g3 @hdm @hb @bys_snoc ?_ | refine d3 @hdm @hb @bys_snoc ?_ | refine j3 @hdm @hb @bys_snoc (fun hg hgo => ?_) fun hg hgo => ?_ | refine ek_ret ?_ | refine ek_norm ?_ | refine ⟨by omega, ?_⟩ | rfl | trivial | intro _
  · refine cw (keepF Try.f77) Try.f77 false ?_
    repeat' first | refine g4 @hd1 @hd2 @hd @hd3 ?_ | refine d4 @hd1 @hd2 @hd @hd3 ?_ | refine j4 @hd1 @hd2 @hd @hd3 (fun hg hgo => ?_) fun hg hgo => ?_ | refine ek_ret ?_ | refine ek_norm ?_ | refine ⟨by omega, ?_⟩ | rfl | trivial | intro _
    rw [hw, hMN]
    refine pw_loop (fun m st => ∃ pre, pre ++ packL m = packL N ∧ m ≤ N ∧ st = [(4, .own 1 (bys pre)), (3, .fv (.int .u64 m))]) N [(4, .own 1 (bys [])), (3, .fv (.int .u64 N))] (sub_of ?_) ⟨[], by simp, Nat.le_refl _, rfl⟩ ?_
    · exact dn
    · rintro m st ⟨pre, hpre, hmN, rfl⟩
      have hlen : pre.length ≤ 10 := by
        have := congrArg List.length hpre
        rw [List.length_append] at this; omega
      by_cases hm : 127 < m
      · have hdm : decide ((m : Int) > 127) = true := by rw [decide_eq_true_eq]; omega
        obtain ⟨e1, e2, e3, e4⟩ := fin m hmN hm
        rw [loop_pack hm] at hpre
        repeat' first | refine g6 @hdm @e1 @e2 @e3 @e4 @bys_snoc ?_ | refine d6 @hdm @e1 @e2 @e3 @e4 @bys_snoc ?_ | refine j6 @hdm @e1 @e2 @e3 @e4 @bys_snoc (fun hg hgo => ?_) fun hg hgo => ?_ | refine ek_ret ?_ | refine ek_norm ?_ | refine ⟨by omega, ?_⟩ | rfl | trivial | intro _
        refine rd_norm [(4, .own 1 (bys (pre ++ [((m % 128 + 128 : Nat) : Int)]))), (3, .fv (.int .u64 (m / 128 : Nat)))] (sub_of ?_) (m / 128) (by omega) ⟨pre ++ [((m % 128 + 128 : Nat) : Int)], by rw [← hpre]; simp, by omega, rfl⟩
        exact dn
      · have hdm : decide ((m : Int) > 127) = false := by rw [decide_eq_false_iff_not]; omega
        have hb : IntKind.wrap .u8 (m : Int) = (m : Int) := wrapB (by omega) (by omega)
        rw [loop_pack_no hm] at hpre
        rw [← hpre]
        repeat' first | refine g3 @hdm @hb @bys_snoc ?_ | refine d3 @hdm @hb @bys_snoc ?_ | refine j3 @hdm @hb @bys_snoc (fun hg hgo => ?_) fun hg hgo => ?_ | refine ek_ret ?_ | refine ek_norm ?_ | refine ⟨by omega, ?_⟩ | rfl | trivial | intro _
  · refine cw (keepF Try.f77) Try.f77 false ?_
    repeat' first | refine g4 @hd1 @hd2 @hd @hw ?_ | refine d4 @hd1 @hd2 @hd @hw ?_ | refine j4 @hd1 @hd2 @hd @hw (fun hg hgo => ?_) fun hg hgo => ?_ | refine ek_ret ?_ | refine ek_norm ?_ | refine ⟨by omega, ?_⟩ | rfl | trivial | intro _
    rw [hMN]
    refine pw_loop (fun m st => ∃ pre, pre ++ packL m = packL N ∧ m ≤ N ∧ st = [(4, .own 1 (bys pre)), (3, .fv (.int .u64 m))]) N [(4, .own 1 (bys [])), (3, .fv (.int .u64 N))] (sub_of ?_) ⟨[], by simp, Nat.le_refl _, rfl⟩ ?_
    · exact dn
    · rintro m st ⟨pre, hpre, hmN, rfl⟩
      have hlen : pre.length ≤ 10 := by
        have := congrArg List.length hpre
        rw [List.length_append] at this; omega
      by_cases hm : 127 < m
      · have hdm : decide ((m : Int) > 127) = true := by rw [decide_eq_true_eq]; omega
        obtain ⟨e1, e2, e3, e4⟩ := fin m hmN hm
        rw [loop_pack hm] at hpre
        repeat' first | refine g6 @hdm @e1 @e2 @e3 @e4 @bys_snoc ?_ | refine d6 @hdm @e1 @e2 @e3 @e4 @bys_snoc ?_ | refine j6 @hdm @e1 @e2 @e3 @e4 @bys_snoc (fun hg hgo => ?_) fun hg hgo => ?_ | refine ek_ret ?_ | refine ek_norm ?_ | refine ⟨by omega, ?_⟩ | rfl | trivial | intro _
        refine rd_norm [(4, .own 1 (bys (pre ++ [((m % 128 + 128 : Nat) : Int)]))), (3, .fv (.int .u64 (m / 128 : Nat)))] (sub_of ?_) (m / 128) (by omega) ⟨pre ++ [((m % 128 + 128 : Nat) : Int)], by rw [← hpre]; simp, by omega, rfl⟩
        exact dn
      · have hdm : decide ((m : Int) > 127) = false := by rw [decide_eq_false_iff_not]; omega
        have hb : IntKind.wrap .u8 (m : Int) = (m : Int) := wrapB (by omega) (by omega)
        rw [loop_pack_no hm] at hpre
        rw [← hpre]
        repeat' first | refine g3 @hdm @hb @bys_snoc ?_ | refine d3 @hdm @hb @bys_snoc ?_ | refine j3 @hdm @hb @bys_snoc (fun hg hgo => ?_) fun hg hgo => ?_ | refine ek_ret ?_ | refine ek_norm ?_ | refine ⟨by omega, ?_⟩ | rfl | trivial | intro _
attribute [go_sem] bin_quo
def upk : Nat → List Int → Nat → Nat → Option (Nat × Nat)
  | 0, _, _, _ => none
  | _ + 1, [], _, _ => none
  | f + 1, d :: l, k, n => if d < 128 then (if d = 0 ∧ 0 < k then none else some (n + d.toNat % 128 * 128 ^ k, k + 1)) else upk f l (k + 1) (n + d.toNat % 128 * 128 ^ k)
def decN (n : Nat) : Int := if n % 2 = 1 then -((n / 2 : Nat) : Int) - 1 else ((n / 2 : Nat) : Int)
def unpackR (b : List Int) (at_ : Int) : Option (Nat × Nat) := if decide (at_ ≥ 0) && decide (at_ ≤ b.length) then upk 9 (b.drop at_.toNat) 0 0 else none
theorem upk_inv : ∀ (f : Nat) (l : List Int) (k acc N k' : Nat), (∀ x ∈ l, 0 ≤ x ∧ x < 256) → upk f l k acc = some (N, k') → ∃ m, N = acc + m * 128 ^ k ∧ packL m = l.take (k' - k) ∧ k < k' ∧ k' ≤ k + l.length ∧ (0 < k → 0 < m) ∧ m < 128 ^ f
  | 0, l, k, acc, N, k', hb, h => by cases h
  | f + 1, [], k, acc, N, k', hb, h => by cases h
  | f + 1, d :: l, k, acc, N, k', hb, h => by
    obtain ⟨hd0, hd1⟩ := hb d (by simp)
    obtain ⟨d, rfl⟩ := Int.eq_ofNat_of_zero_le hd0
    rw [upk, Int.toNat_natCast] at h
    split at h
    · split at h
      · cases h
      · rename_i hlt hz
        injection h with h; injection h with h1 h2
        have hp : 0 < 128 ^ f := Nat.pow_pos (by decide)
        refine ⟨d, by rw [← h1, Nat.mod_eq_of_lt (by omega)], ?_, by omega, by rw [List.length_cons]; omega, fun hk => by omega, by rw [Nat.pow_succ]; omega⟩
        rw [loop_pack_no (by omega), show k' - k = 1 by omega]; rfl
    · rename_i hge
      obtain ⟨m, e1, e2, e3, e4, e5, e6⟩ := upk_inv f l (k + 1) _ N k' (fun x hx => hb x (by simp [hx])) h
      have hm := e5 (by omega)
      have hd2 : d % 128 = d - 128 := by omega
      refine ⟨m * 128 + d % 128, ?_, ?_, by omega, by rw [List.length_cons]; omega, fun _ => by omega, by rw [Nat.pow_succ]; omega⟩
      · rw [e1, Nat.pow_succ, Nat.add_mul, Nat.mul_comm (128 ^ k), ← Nat.mul_assoc]; omega
      · rw [loop_pack (by omega), show (m * 128 + d % 128) / 128 = m by omega, show (m * 128 + d % 128) % 128 = d % 128 by omega, e2, show k' - k = (k' - (k + 1)) + 1 by omega, List.take_succ_cons, show d % 128 + 128 = d by omega]
theorem num_dec {n : Nat} (h : n < 9223372036854775808) : numOk (decN n) = true ∧ numN (decN n) = n := by
  unfold numOk
  rw [Bool.and_eq_true, decide_eq_true_eq, decide_eq_true_eq]
  unfold decN numN
  by_cases ho : n % 2 = 1
  · rw [if_pos ho, if_pos (by omega)]; omega
  · rw [if_neg ho, if_neg (by omega)]; omega
theorem packL_bytes : ∀ (k n : Nat), n < 128 ^ (k + 1) → ∀ x ∈ packL n, 0 ≤ x ∧ x < 256
  | 0, n, h, x, hx => by rw [loop_pack_no (by omega)] at hx; simp at hx; omega
  | k + 1, n, h, x, hx => by
    by_cases hn : 127 < n
    · rw [loop_pack hn] at hx
      rcases List.mem_cons.1 hx with rfl | hx
      · omega
      · exact packL_bytes k (n / 128) (by rw [Nat.div_lt_iff_lt_mul (by decide), ← Nat.pow_succ]; exact h) x hx
    · rw [loop_pack_no hn] at hx; simp at hx; omega
theorem packI_ok {x : Int} (h : numOk x = true) : (packI x).length ≤ 10 ∧ 0 < (packI x).length ∧ ∀ y ∈ packI x, 0 ≤ y ∧ y < 256 := by
  have h1 := numN_lt h
  unfold packI
  refine ⟨packL_len 9 _ (by omega), ?_, packL_bytes 9 _ (by omega)⟩
  rw [packL]; split <;> simp
structure BytesOk (l : List Int) : Prop where
  bytes : ∀ x ∈ l, 0 ≤ x ∧ x < 256
  len : l.length ≤ 1048576
def idxP {α : Type} (P : α → Bool) : List α → Int → Int
  | [], _ => -1
  | x :: l, j => if P x = true then j else idxP P l (j + 1)
theorem idxP_at {α : Type} (P : α → Bool) : ∀ (l : List α) (j : Nat) (k : Int), (∀ i (h : i < l.length), i < j → P l[i] = false) → idxP P l k = idxP P (l.drop j) (k + j)
  | l, 0, k, _ => by simp
  | [], j + 1, k, _ => by simp [idxP]
  | x :: l, j + 1, k, h => by
    have h0 := h 0 (by simp) (by omega)
    simp only [List.getElem_cons_zero] at h0
    rw [List.drop_succ_cons, idxP, if_neg (by simp [h0]), idxP_at P l j (k + 1) (fun i hi hij => by have := h (i + 1) (by simpa using hi) (by omega); simpa using this)]
    congr 1; omega
theorem idxP_ge {α : Type} (P : α → Bool) : ∀ (l : List α) (k : Int), 0 ≤ k → decide (idxP P l k ≥ 0) = l.any P
  | [], k, _ => by simp [idxP]
  | x :: l, k, hk => by
    unfold idxP
    cases hx : P x with
    | true => simp [hx, hk]
    | false => simp only [Bool.false_eq_true, if_false, List.any_cons, hx, Bool.false_or]; exact idxP_ge P l (k + 1) (by omega)
theorem idxP_any {α : Type} (P : α → Bool) (l : List α) : decide (idxP P l 0 ≥ 0) = l.any P := idxP_ge P l 0 (by omega)
theorem all_step {α : Type} {p : α → Bool} {l : List α} {j : Nat} (h : (l.take j).all p = true) (hj : j < l.length) (hp : p l[j] = true) : (l.take (j + 1)).all p = true := by
  rw [List.take_succ_eq_append_getElem hj, List.all_append, h]; simp [hp]
theorem all_bad {α : Type} {p : α → Bool} {l : List α} {j : Nat} (hj : j < l.length) (hp : p l[j] = false) : l.all p = false := by
  rw [List.all_eq_false]
  exact ⟨l[j], List.getElem_mem hj, by simp [hp]⟩
theorem all_end {α : Type} {p : α → Bool} {l : List α} {j : Nat} (h : (l.take j).all p = true) (hj : l.length ≤ j) : l.all p = true := by
  rw [List.take_of_length_le hj] at h; exact h
structure ArmD where
  fr : Int
  v : Int
  deriving DecidableEq
structure PhiD where
  d : Int
  arms : List ArmD
  deriving DecidableEq
structure TermD where
  kind : Int
  a : Int
  to : Int
  els : Int
  deriving DecidableEq
structure BlockD where
  phis : List PhiD
  list : List StepD
  term : TermD
  deriving DecidableEq
structure FnD where
  blocks : List BlockD
  values : Int
  deriving DecidableEq
def PhiD.ok (p : PhiD) : Prop := p.arms.length < 1073741824
def BlockD.ok (b : BlockD) : Prop := b.phis.length < 1073741824 ∧ (∀ p ∈ b.phis, p.ok) ∧ b.list.length < 1073741824
def FnD.ok (f : FnD) : Prop := f.blocks.length < 1073741824 ∧ ∀ b ∈ f.blocks, b.ok
abbrev armF (x : ArmD) : FV := .agg [.int .i64 x.fr, .int .i64 x.v]
abbrev phiF (x : PhiD) : FV := .agg [.int .i64 x.d, .row 2 (x.arms.map armF)]
abbrev termF (x : TermD) : FV := .agg [.int .i64 x.kind, .int .i64 x.a, .int .i64 x.to, .int .i64 x.els]
abbrev blockF (x : BlockD) : FV := .agg [.row 2 (x.phis.map phiF), .row 5 (x.list.map stF), termF x.term]
abbrev fnF (x : FnD) : FV := .agg [.row 6 (x.blocks.map blockF), .int .i64 x.values]
def rowD {α : Type} (o : α → DV) (l : List α) : List DV := l.map o
abbrev armO (x : ArmD) : DV := .fv (armF x)
abbrev phiO (x : PhiD) : DV := .agg [iv x.d, .own 2 (rowD armO x.arms)]
abbrev blockO (x : BlockD) : DV := .agg [.own 2 (rowD phiO x.phis), .own 5 (rowD sF x.list), .fv (termF x.term)]
abbrev fnO (x : FnD) : DV := .agg [.own 6 (rowD blockO x.blocks), iv x.values]
def bld {α : Type} (o : α → DV) (z : DV) (j : Nat) (l : List α) : List DV := (l.take j).map o ++ List.replicate (l.length - j) z
theorem bld_0 {α : Type} {o : α → DV} {z : DV} {l : List α} : bld o z 0 l = List.replicate l.length z := by unfold bld; simp
theorem bld_n {α : Type} {o : α → DV} {z : DV} {l : List α} : bld o z l.length l = rowD o l := by unfold bld rowD; simp
theorem bld_len {α : Type} {o : α → DV} {z : DV} {l : List α} {j : Nat} (h : j ≤ l.length) : (bld o z j l).length = l.length := by unfold bld; simp; omega
theorem bld_set {α : Type} {o : α → DV} {z : DV} {l : List α} {j : Nat} (h : j < l.length) : (bld o z j l).set j (o l[j]) = bld o z (j + 1) l := by
  unfold bld
  have e : l.length - j = (l.length - (j + 1)) + 1 := by omega
  rw [List.set_append_right _ _ (by simp; omega), e, List.replicate_succ]
  simp only [List.length_map, List.length_take, Nat.min_eq_left (Nat.le_of_lt h), Nat.sub_self, List.set_cons_zero]
  rw [List.take_succ_eq_append_getElem h, List.map_append, List.append_assoc]; rfl
theorem bld_get {α : Type} {o : α → DV} {z : DV} {l : List α} {j : Nat} (h : j < l.length) : (bld o z j l)[j]? = some z := by
  unfold bld
  rw [List.getElem?_append_right (by simp; omega)]
  simp only [List.length_map, List.length_take, Nat.min_eq_left (Nat.le_of_lt h), Nat.sub_self]
  rw [List.getElem?_replicate, if_pos (by omega)]
theorem nrs_rowD {α : Type} {o : α → DV} {l : List α} (h : ∀ x, noRef (o x) = true) : noRefs (rowD o l) = true := by
  unfold rowD
  induction l with
  | nil => rfl
  | cons a l ih => rw [List.map_cons, nrs_cons, h a, ih]; rfl
theorem nrs_bld {α : Type} {o : α → DV} {z : DV} {l : List α} {j : Nat} (h : ∀ x, noRef (o x) = true) (hz : noRef z = true) : noRefs (bld o z j l) = true := by
  unfold bld
  rw [nrs_app]
  have h1 := nrs_rowD (l := l.take j) h
  unfold rowD at h1
  rw [h1]
  have : ∀ n : Nat, noRefs (List.replicate n z) = true := fun n => by
    induction n with
    | zero => rfl
    | succ n ih => rw [List.replicate_succ, nrs_cons, hz, ih]; rfl
  rw [this]; rfl
@[go_sem] theorem nr_armO {x : ArmD} : noRef (.fv (armF x)) = true := rfl
@[go_sem] theorem nrs_arms {l : List ArmD} : noRefs (rowD armO l) = true := nrs_rowD fun _ => rfl
@[go_sem] theorem nr_phiO {x : PhiD} : noRef (phiO x) = true := by
  show noRef (.agg _) = true; rw [nr_agg, nrs_cons, nrs_cons, nr_own, nrs_arms]; rfl
@[go_sem] theorem nrs_phis {l : List PhiD} : noRefs (rowD phiO l) = true := nrs_rowD fun _ => nr_phiO
@[go_sem] theorem nrs_ins {l : List StepD} : noRefs (rowD sF l) = true := nrs_rowD fun _ => rfl
@[go_sem] theorem nr_blockO {x : BlockD} : noRef (blockO x) = true := by
  show noRef (.agg _) = true; rw [nr_agg, nrs_cons, nrs_cons, nrs_cons, nr_own, nr_own, nrs_phis, nrs_ins]; rfl
@[go_sem] theorem nrs_blocks {l : List BlockD} : noRefs (rowD blockO l) = true := nrs_rowD fun _ => nr_blockO
@[go_sem] theorem rowD_len {α : Type} {o : α → DV} {l : List α} : (rowD o l).length = l.length := by unfold rowD; simp
theorem v_toArm (x : ArmD) : C2 CC F_laws_toArm [.fv (armF x)] (.fv (armF x)) [] := by
  obtain ⟨a, b⟩ := x
  refine cw (keepF Try.f160) Try.f160 false ?_
  repeat' first | refine g0 ?_ | refine d0 ?_ | refine j0 (fun hg hgo => ?_) fun hg hgo => ?_ | refine ek_ret ?_ | refine ek_norm ?_ | refine ⟨by omega, ?_⟩ | rfl | trivial | intro _
theorem v_toTerm (x : TermD) : C2 CC F_laws_toTerm [.fv (termF x)] (.fv (termF x)) [] := by
  obtain ⟨a, b, c, d⟩ := x
  refine cw (keepF Try.f106) Try.f106 false ?_
  repeat' first | refine g0 ?_ | refine d0 ?_ | refine j0 (fun hg hgo => ?_) fun hg hgo => ?_ | refine ek_ret ?_ | refine ek_norm ?_ | refine ⟨by omega, ?_⟩ | rfl | trivial | intro _
def rgB (n lo hi : Int) : Bool := decide (n ≥ lo) && decide (n ≤ hi)
def valB (n values : Int) : Bool := decide (n ≥ 0) && decide (n < values)
def insB (x : StepD) (values : Int) : Bool :=
  if wok x.op = true then valB x.r values && valB x.a values && valB x.b values && decide (x.n = 0)
  else if x.op = 20 then valB x.r values && decide (x.a = 0) && decide (x.b = 0)
  else if x.op = 21 ∨ x.op = 25 then valB x.r values && valB x.a values && decide (x.b = 0) && decide (x.n = 0)
  else if x.op = 22 then valB x.a values && valB x.b values && decide (x.r = 0) && decide (x.n = 0)
  else if x.op = 23 then valB x.a values && decide (x.r = 0) && decide (x.b = 0) && decide (x.n = 0)
  else if x.op = 24 then valB x.r values && decide (x.a = 0) && decide (x.b = 0) && decide (x.n = 0)
  else false
def termB (t : TermD) (blocks values : Int) : Bool :=
  if t.kind = 1 then rgB t.to 0 (blocks - 1) && decide (t.a = 0) && decide (t.els = 0)
  else if t.kind = 2 then rgB t.to 0 (blocks - 1) && rgB t.els 0 (blocks - 1) && valB t.a values
  else if t.kind = 3 then valB t.a values && decide (t.to = 0) && decide (t.els = 0)
  else false
def armB (pre : List ArmD) (a : ArmD) (blocks values : Int) : Bool := rgB a.fr 0 (blocks - 1) && valB a.v values && pre.all fun x => !decide (x.fr = a.fr)
def armsB (blocks values : Int) : List ArmD → List ArmD → Bool
  | _, [] => true
  | pre, a :: l => armB pre a blocks values && armsB blocks values (pre ++ [a]) l
def phiB (p : PhiD) (blocks values : Int) : Bool := valB p.d values && decide (p.arms.length ≤ 16) && armsB blocks values [] p.arms
def blockB (b : BlockD) (blocks values : Int) : Bool := decide (b.phis.length ≤ 24) && decide (b.list.length ≤ 24) && termB b.term blocks values && b.phis.all (fun p => phiB p blocks values) && b.list.all (fun x => insB x values)
def shapeB (f : FnD) : Bool := rgB f.blocks.length 1 16 && rgB f.values 0 80 && f.blocks.all (fun b => blockB b f.blocks.length f.values)
theorem v_l2Value (n values : Int) : C2 CC F_spec_l2Value [iv n, iv values] (bv (valB n values)) [] := by
  refine cw (keepF Try.f102) Try.f102 false ?_
  repeat' first | refine g0 ?_ | refine d0 ?_ | refine j0 (fun hg hgo => ?_) fun hg hgo => ?_ | refine ek_ret ?_ | refine ek_norm ?_ | refine ⟨by omega, ?_⟩ | rfl | trivial | intro _
  all_goals first | rfl | (simp_all [beqD, valB]; done) | ((try simp only [valB]); (repeat' split) <;> first | omega | (simp_all [beqD]; done) | (simp_all [beqD]; omega)) | (simp_all [beqD, valB]; (repeat' split) <;> first | rfl | omega | (simp_all; done))
theorem v_l2Ins (x : StepD) (values : Int) : C2 CC F_spec_l2Ins [sF x, iv values] (bv (insB x values)) [] := by
  obtain ⟨op, r, a, b, n⟩ := x
  refine cw (keepF Try.f65) Try.f65 false ?_
  repeat' first | refine ck_intro (by first | exact v_l2Value _ _ | exact s_WordOk _) ?_ ?_ | refine g0 ?_ | refine d0 ?_ | refine j0 (fun hg hgo => ?_) fun hg hgo => ?_ | refine ek_ret ?_ | refine ek_norm ?_ | refine ⟨by omega, ?_⟩ | rfl | trivial | intro _
  all_goals first | rfl | (simp_all [beqD, insB, beqT, beqF]; done) | ((try simp only [insB, beqT, beqF]); (repeat' split) <;> first | omega | (simp_all [beqD]; done) | (simp_all [beqD]; omega)) | (simp_all [beqD, insB, beqT, beqF]; (repeat' split) <;> first | rfl | omega | (simp_all; done))
theorem v_l2Term (x : TermD) (blocks values : Int) (hb : 0 ≤ blocks ∧ blocks ≤ 1000000000) : C2 CC F_spec_l2Term [.fv (termF x), iv blocks, iv values] (bv (termB x blocks values)) [] := by
  obtain ⟨k, a, to, els⟩ := x
  refine cw (keepF Try.f63) Try.f63 false ?_
  repeat' first | refine ck_intro (by first | exact v_l2Value _ _ | exact v_l1In _ _ _) ?_ ?_ | refine g0 ?_ | refine d0 ?_ | refine j0 (fun hg hgo => ?_) fun hg hgo => ?_ | refine ek_ret ?_ | refine ek_norm ?_ | refine ⟨by omega, ?_⟩ | rfl | trivial | intro _
  all_goals first | rfl | (simp_all [beqD, termB, rgB, beqT, beqF]; done) | ((try simp only [termB, rgB, beqT, beqF]); (repeat' split) <;> first | omega | (simp_all [beqD]; done) | (simp_all [beqD]; omega)) | (simp_all [beqD, termB, rgB, beqT, beqF]; (repeat' split) <;> first | rfl | omega | (simp_all; done))
def numsA (a : ArmD) : List Int := [a.fr, a.v]
def numsP (p : PhiD) : List Int := [p.d, (p.arms.length : Int)] ++ p.arms.flatMap numsA
def numsI (x : StepD) : List Int := [x.op, x.r, x.a, x.b, x.n]
def numsT (t : TermD) : List Int := [t.kind, t.a, t.to, t.els]
def numsB (b : BlockD) : List Int := [(b.phis.length : Int)] ++ b.phis.flatMap numsP ++ [(b.list.length : Int)] ++ b.list.flatMap numsI ++ numsT b.term
def numsF (f : FnD) : List Int := [f.values, (f.blocks.length : Int)] ++ f.blocks.flatMap numsB
def pk1 (x : Int) : List Int := if numOk x = true then packI x else []
def pkL (l : List Int) : List Int := l.flatMap pk1
theorem pkL_nil : pkL [] = [] := rfl
theorem pkL_cons {x : Int} {l : List Int} : pkL (x :: l) = pk1 x ++ pkL l := rfl
theorem pkL_app {l m : List Int} : pkL (l ++ m) = pkL l ++ pkL m := by unfold pkL; exact List.flatMap_append
theorem pk1_len (x : Int) : (pk1 x).length ≤ 10 := by
  unfold pk1; split
  · exact (packI_ok ‹_›).1
  · simp
theorem pkL_len : ∀ l : List Int, (pkL l).length ≤ 10 * l.length
  | [] => by simp [pkL]
  | x :: l => by
    have h1 := pk1_len x
    have h2 := pkL_len l
    rw [pkL_cons, List.length_append, List.length_cons]; omega
def nsOk (f : FnD) : Bool := f.blocks.all fun b => b.list.all fun x => numOk x.n
theorem ok_small {x : Int} (h : -1000 ≤ x ∧ x ≤ 1000) : numOk x = true := by unfold numOk; simp; omega
theorem val_small {n v : Int} (hv : v ≤ 80) (h : valB n v = true) : -1000 ≤ n ∧ n ≤ 1000 := by
  unfold valB at h; simp at h; omega
theorem ins_ok {x : StepD} {v : Int} (hv : v ≤ 80) (h : insB x v = true) : (numsI x).all numOk = numOk x.n := by
  have q : (-1000 ≤ x.op ∧ x.op ≤ 1000) ∧ (-1000 ≤ x.r ∧ x.r ≤ 1000) ∧ (-1000 ≤ x.a ∧ x.a ≤ 1000) ∧ (-1000 ≤ x.b ∧ x.b ≤ 1000) := by
    unfold insB at h
    split at h
    · rename_i hw
      simp only [Bool.and_eq_true] at h
      have w : 1 ≤ x.op ∧ x.op ≤ 10 := by unfold wok at hw; simp at hw; exact hw
      exact ⟨by omega, val_small hv h.1.1.1, val_small hv h.1.1.2, val_small hv h.1.2⟩
    split at h
    · simp only [Bool.and_eq_true, decide_eq_true_eq] at h
      exact ⟨by omega, val_small hv h.1.1, by omega, by omega⟩
    split at h
    · simp only [Bool.and_eq_true, decide_eq_true_eq] at h
      exact ⟨by omega, val_small hv h.1.1.1, val_small hv h.1.1.2, by omega⟩
    split at h
    · simp only [Bool.and_eq_true, decide_eq_true_eq] at h
      exact ⟨by omega, by omega, val_small hv h.1.1.1, val_small hv h.1.1.2⟩
    split at h
    · simp only [Bool.and_eq_true, decide_eq_true_eq] at h
      exact ⟨by omega, by omega, val_small hv h.1.1.1, by omega⟩
    split at h
    · simp only [Bool.and_eq_true, decide_eq_true_eq] at h
      exact ⟨by omega, val_small hv h.1.1.1, by omega, by omega⟩
    · cases h
  obtain ⟨q1, q2, q3, q4⟩ := q
  simp [numsI, ok_small q1, ok_small q2, ok_small q3, ok_small q4]
theorem flat_le {α : Type} {g : α → List Int} {c : Nat} : ∀ {l : List α}, (∀ x ∈ l, (g x).length ≤ c) → (l.flatMap g).length ≤ c * l.length
  | [], _ => by simp
  | x :: l, h => by
    have h1 := h x (by simp)
    have h2 := flat_le (l := l) fun y hy => h y (by simp [hy])
    rw [List.flatMap_cons, List.length_append, List.length_cons, Nat.mul_succ]; omega
theorem numsP_len {p : PhiD} {n v : Int} (h : phiB p n v = true) : (numsP p).length ≤ 34 := by
  unfold phiB at h
  simp only [Bool.and_eq_true, decide_eq_true_eq] at h
  have := flat_le (g := numsA) (c := 2) (l := p.arms) fun a _ => by simp [numsA]
  unfold numsP; simp only [List.length_append, List.length_cons, List.length_nil]; omega
theorem numsB_len {b : BlockD} {n v : Int} (h : blockB b n v = true) : (numsB b).length ≤ 1000 := by
  unfold blockB at h
  simp only [Bool.and_eq_true, decide_eq_true_eq, List.all_eq_true] at h
  have h1 := flat_le (g := numsP) (c := 34) (l := b.phis) fun p hp => numsP_len (h.1.2 p hp)
  have h2 := flat_le (g := numsI) (c := 5) (l := b.list) fun x _ => by simp [numsI]
  unfold numsB numsT; simp only [List.length_append, List.length_cons, List.length_nil]; omega
theorem pk_spec (x : Int) : C2 CC F_spec_PackNum [iv x] (.own 1 (bys (pk1 x))) [] := by
  unfold pk1
  cases h : numOk x with
  | true => rw [if_pos rfl]; exact v_PackNum_spec x h
  | false => rw [if_neg (by decide)]; exact v_PackNum_spec_no x h
theorem v_l19Nums (l : List Int) (hl : l.length ≤ 1000) : C2 CC F_spec_l19Nums [.fv (.row 1 (l.map (.int .i64)))] (.own 1 (bys (pkL l))) [] := by
  refine cw (keepF Try.f35) Try.f35 false ?_
  repeat' first | refine g0 ?_ | refine d0 ?_ | refine j0 (fun hg hgo => ?_) fun hg hgo => ?_ | refine ek_ret ?_ | refine ek_norm ?_ | refine ⟨by omega, ?_⟩ | rfl | trivial | intro _
  refine pw_loop (fun m st => ∃ j : Nat, j + m = l.length ∧ st = [(0, .fv (.row 1 (l.map (.int .i64)))), (3, .own 1 (bys (pkL (l.take j)))), (4, iv j)]) l.length [(0, .fv (.row 1 (l.map (.int .i64)))), (3, .own 1 (bys (pkL (l.take 0)))), (4, iv (0 : Nat))] (sub_of ?_) ⟨0, by omega, rfl⟩ ?_
  · rw [List.take_zero, pkL_nil, show bys [] = [] from rfl]
    exact dn
  · rintro m st ⟨j, hj, rfl⟩
    have hlen := pkL_len (l.take j)
    rw [List.length_take] at hlen
    by_cases hlt : j < l.length
    · have hd : decide ((j : Int) < (l.length : Int)) = true := by rw [decide_eq_true_eq]; omega
      have hml : j < (l.map (FV.int .i64)).length := by rw [List.length_map]; exact hlt
      have k := pk_spec l[j]
      have hl1 := pk1_len l[j]
      have hap : bys (pkL (l.take j)) ++ bys (pk1 l[j]) = bys (pkL (l.take (j + 1))) := by
        rw [List.take_succ_eq_append_getElem hlt, pkL_app, pkL_cons, pkL_nil, List.append_nil]; unfold bys; rw [List.map_append]
      repeat' first | refine ck_intro (by first | exact k) ?_ ?_ | refine g2 @hd @hap ?_ | refine d2 @hd @hap ?_ | refine j2 @hd @hap (fun hg hgo => ?_) fun hg hgo => ?_ | refine ek_ret ?_ | refine ek_norm ?_ | refine ⟨by omega, ?_⟩ | rfl | trivial | intro _
      refine rd_norm [(0, .fv (.row 1 (l.map (.int .i64)))), (3, .own 1 (bys (pkL (l.take (j + 1))))), (4, iv (j + 1 : Nat))] (sub_of ?_) (m - 1) (by omega) ⟨j + 1, by omega, rfl⟩
      exact dn
    · have hd : decide ((j : Int) < (l.length : Int)) = false := by rw [decide_eq_false_iff_not]; omega
      have hq : l.take j = l := List.take_of_length_le (by omega)
      rw [hq]
      repeat' first | refine g1 @hd ?_ | refine d1 @hd ?_ | refine j1 @hd (fun hg hgo => ?_) fun hg hgo => ?_ | refine ek_ret ?_ | refine ek_norm ?_ | refine ⟨by omega, ?_⟩ | rfl | trivial | intro _
theorem pk_impl (x : Int) : C2 CC F_impl_PackNum [iv x] (if numOk x = true then .own 1 (bys (packI x)) else .fv .nil) [] := by
  cases h : numOk x with
  | true => rw [if_pos rfl]; exact v_PackNum x h
  | false => rw [if_neg (by decide)]; exact v_PackNum_no x h
def pkO (o : List Int) (b : Bool) : DV := .box (.agg [.own 1 (bys o), bv b])
theorem v_put (o : List Int) (b : Bool) (l : List Int) (hl : l.length ≤ 1000) (ho : o.length ≤ 100000000) : C2 CC F_impl_packer_put [pkO o b, .fv (.row 1 (l.map (.int .i64)))] (.tup []) [pkO (o ++ pkL l) (b || !l.all numOk)] := by
  unfold pkO
  refine cw (keepF Try.f39) Try.f39 false ?_
  repeat' first | refine g0 ?_ | refine d0 ?_ | refine j0 (fun hg hgo => ?_) fun hg hgo => ?_ | refine ek_ret ?_ | refine ek_norm ?_ | refine ⟨by omega, ?_⟩ | rfl | trivial | intro _
  refine pw_loop (fun m st => ∃ j : Nat, j + m = l.length ∧ st = [(0, .ptr (1000000, []) [0] 0), (7, .fv (.row 1 (l.map (.int .i64)))), (8, iv l.length), (9, iv j), (1000000, .box (.agg [.own 1 (bys (o ++ pkL (l.take j))), bv (b || !(l.take j).all numOk)]))]) l.length [(0, .ptr (1000000, []) [0] 0), (7, .fv (.row 1 (l.map (.int .i64)))), (8, iv l.length), (9, iv (0 : Nat)), (1000000, .box (.agg [.own 1 (bys (o ++ pkL (l.take 0))), bv (b || !(l.take 0).all numOk)]))] (sub_of ?_) ⟨0, by omega, rfl⟩ ?_
  · rw [List.take_zero, pkL_nil, List.append_nil, show (b || !([] : List Int).all numOk) = b by simp]
    exact dn
  · rintro m st ⟨j, hj, rfl⟩
    by_cases hlt : j < l.length
    · have hd : decide ((j : Int) < (l.length : Int)) = true := by rw [decide_eq_true_eq]; omega
      have hml : j < (l.map (FV.int .i64)).length := by rw [List.length_map]; exact hlt
      have k := pk_impl l[j]
      have hlen := pkL_len (l.take j)
      rw [List.length_take] at hlen
      have e1 : l.take (j + 1) = l.take j ++ [l[j]] := List.take_succ_eq_append_getElem hlt
      cases hn : numOk l[j] with
      | true =>
        rw [hn, if_pos rfl] at k
        have hp := (packI_ok hn).1
        have hap : bys (o ++ pkL (l.take j)) ++ bys (packI l[j]) = bys (o ++ pkL (l.take (j + 1))) := by
          rw [e1, pkL_app, pkL_cons, pkL_nil, List.append_nil, pk1, if_pos hn]; unfold bys; simp
        have hall : (b || !(l.take (j + 1)).all numOk) = (b || !(l.take j).all numOk) := by rw [e1, List.all_append]; simp [hn]
        repeat' first | refine ck_intro (by first | exact k) ?_ ?_ | refine g2 @hd @hap ?_ | refine d2 @hd @hap ?_ | refine j2 @hd @hap (fun hg hgo => ?_) fun hg hgo => ?_ | refine ek_ret ?_ | refine ek_norm ?_ | refine ⟨by omega, ?_⟩ | rfl | trivial | intro _
        refine rd_norm [(0, .ptr (1000000, []) [0] 0), (7, .fv (.row 1 (l.map (.int .i64)))), (8, iv l.length), (9, iv (j + 1 : Nat)), (1000000, .box (.agg [.own 1 (bys (o ++ pkL (l.take (j + 1)))), bv (b || !(l.take (j + 1)).all numOk)]))] (sub_of ?_) (m - 1) (by omega) ⟨j + 1, by omega, rfl⟩
        rw [hall]
        exact dn
      | false =>
        rw [hn, if_neg (by decide)] at k
        have hap : pkL (l.take (j + 1)) = pkL (l.take j) := by
          rw [e1, pkL_app, pkL_cons, pkL_nil, pk1, if_neg (by rw [hn]; decide)]; simp
        have hall : (b || !(l.take (j + 1)).all numOk) = true := by rw [e1, List.all_append]; simp [hn]
        repeat' first | refine ck_intro (by first | exact k) ?_ ?_ | refine g1 @hd ?_ | refine d1 @hd ?_ | refine j1 @hd (fun hg hgo => ?_) fun hg hgo => ?_ | refine ek_ret ?_ | refine ek_norm ?_ | refine ⟨by omega, ?_⟩ | rfl | trivial | intro _
        refine rd_norm [(0, .ptr (1000000, []) [0] 0), (7, .fv (.row 1 (l.map (.int .i64)))), (8, iv l.length), (9, iv (j + 1 : Nat)), (1000000, .box (.agg [.own 1 (bys (o ++ pkL (l.take (j + 1)))), bv (b || !(l.take (j + 1)).all numOk)]))] (sub_of ?_) (m - 1) (by omega) ⟨j + 1, by omega, rfl⟩
        rw [hall, hap]
        exact dn
    · have hd : decide ((j : Int) < (l.length : Int)) = false := by rw [decide_eq_false_iff_not]; omega
      have hq : l.take j = l := List.take_of_length_le (by omega)
      rw [hq]
      repeat' first | refine g1 @hd ?_ | refine d1 @hd ?_ | refine j1 @hd (fun hg hgo => ?_) fun hg hgo => ?_ | refine ek_ret ?_ | refine ek_norm ?_ | refine ⟨by omega, ?_⟩ | rfl | trivial | intro _
theorem armsB_split (blocks values : Int) : ∀ (l : List ArmD) (pre : List ArmD) (j : Nat), (∀ i (h : i < l.length), i < j → armB (pre ++ l.take i) l[i] blocks values = true) → armsB blocks values pre l = armsB blocks values (pre ++ l.take j) (l.drop j)
  | l, pre, 0, h => by simp
  | [], pre, j + 1, h => by simp [armsB]
  | a :: l, pre, j + 1, h => by
    have h0 := h 0 (by simp) (by omega)
    simp only [List.take_zero, List.append_nil, List.getElem_cons_zero] at h0
    rw [armsB, h0, Bool.true_and, List.drop_succ_cons, List.take_succ_cons, armsB_split blocks values l (pre ++ [a]) j (fun i hi hij => by
      have := h (i + 1) (by simpa using hi) (by omega)
      simpa using this)]
    simp
theorem v_l2Phi (x : PhiD) (blocks values : Int) (hb : 0 ≤ blocks ∧ blocks ≤ 1000000000) (hx : x.ok) : C2 CC F_spec_l2Phi [.fv (phiF x), iv blocks, iv values] (bv (phiB x blocks values)) [] := by
  obtain ⟨d, arms⟩ := x
  replace hx : arms.length < 1073741824 := hx
  unfold phiB
  refine cw (keepF Try.f64) Try.f64 false ?_
  repeat' first | refine ck_intro (by first | exact v_l2Value _ _ | exact v_l1In _ _ _) ?_ ?_ | refine pd3 53 [0, 1, 0, 7, 15, 31, 0, 64, 0, 448, 960, 1984, 4095] [0, 1, 0, 0, 0, 1, 0, 1, 0, 0, 0, 1, 0] false ?_ | refine g0 ?_ | refine d0 ?_ | refine j0 (fun hg hgo => ?_) fun hg hgo => ?_ | refine ek_ret ?_ | refine ek_norm ?_ | refine ⟨by omega, ?_⟩ | rfl | trivial | intro _
  · simp [hgo]
  · simp; intro _ h; omega
  · rw [show (valB d values && decide (arms.length ≤ 16) && armsB blocks values [] arms) = armsB blocks values [] arms by rw [(by assumption : valB d values = true)]; simp; intro h; omega]
    refine pw_loop (fun m st => ∃ j : Nat, j + m = arms.length ∧ (∀ i (h : i < arms.length), i < j → armB ([] ++ arms.take i) arms[i] blocks values = true) ∧ st = [(1, iv blocks), (2, iv values), (3, .box (.fv (phiF ⟨d, arms⟩))), (7, iv j)]) arms.length [(1, iv blocks), (2, iv values), (3, .box (.fv (phiF ⟨d, arms⟩))), (7, iv (0 : Nat))] (sub_of ?_) ⟨0, by omega, fun i _ hi => by omega, rfl⟩ ?_
    · exact dn
    · rintro m st ⟨j, hj, hb2, rfl⟩
      have hsp := armsB_split blocks values arms [] j hb2
      by_cases hlt : j < arms.length
      · have hd : decide ((j : Int) < (arms.length : Int)) = true := by rw [decide_eq_true_eq]; omega
        have hml : j < (arms.map armF).length := by rw [List.length_map]; exact hlt
        rw [List.nil_append, List.drop_eq_getElem_cons hlt, armsB] at hsp
        rw [hsp]
        replace hb2 : True → _ := fun _ => hb2
        repeat' first | refine ck_intro (by first | exact v_l2Value _ _ | exact v_l1In _ _ _) ?_ ?_ | refine pd3 53 [0, 1, 0, 7, 15, 31, 0, 64, 0, 448, 960, 1984, 4095] [0, 1, 0, 0, 0, 1, 0, 1, 0, 0, 0, 1, 0] false ?_ | refine g1 @hd ?_ | refine d1 @hd ?_ | refine j1 @hd (fun hg hgo => ?_) fun hg hgo => ?_ | refine ek_ret ?_ | refine ek_norm ?_ | refine ⟨by omega, ?_⟩ | rfl | trivial | intro _
        · have : armB (arms.take j) arms[j] blocks values = false := by
            unfold armB rgB
            rcases hgo with h | h
            · simp [h]
            · rw [decide_eq_false h]; simp
          rw [this]; rfl
        · have : armB (arms.take j) arms[j] blocks values = false := by unfold armB; simp [hgo]
          rw [this]; rfl
        · have hfr : rgB arms[j].fr 0 (blocks - 1) = true := by
            have hq : arms[j].fr ≥ 0 ∧ arms[j].fr ≤ blocks - 1 := by assumption
            unfold rgB; rw [decide_eq_true hq.1, decide_eq_true hq.2]; rfl
          refine pw_loop (fun m st => ∃ k : Nat, k + m = j ∧ (∀ i (h : i < arms.length), i < k → arms[i].fr ≠ arms[j].fr) ∧ st = [(1, iv blocks), (2, iv values), (3, .box (.fv (phiF ⟨d, arms⟩))), (7, iv j), (8, iv k)]) j [(1, iv blocks), (2, iv values), (3, .box (.fv (phiF ⟨d, arms⟩))), (7, iv j), (8, iv (0 : Nat))] (sub_of ?_) ⟨0, by omega, fun i _ hi => by omega, rfl⟩ ?_
          · exact dn
          · rintro m2 st ⟨k, hk, hb3, rfl⟩
            by_cases hlk : k < j
            · have hd : decide ((k : Int) < (j : Int)) = true := by rw [decide_eq_true_eq]; omega
              have hmk : k < (arms.map armF).length := by rw [List.length_map]; omega
              have hka : k < arms.length := by omega
              replace hb3 : True → _ := fun _ => hb3
              repeat' first | refine pd3 53 [0, 1, 0, 7, 15, 31, 0, 64, 0, 448, 960, 1984, 4095] [0, 1, 0, 0, 0, 1, 0, 1, 0, 0, 0, 1, 0] false ?_ | refine g1 @hd ?_ | refine d1 @hd ?_ | refine j1 @hd (fun hg hgo => ?_) fun hg hgo => ?_ | refine ek_ret ?_ | refine ek_norm ?_ | refine ⟨by omega, ?_⟩ | rfl | trivial | intro _
              · have : armB (arms.take j) arms[j] blocks values = false := by
                  unfold armB
                  have : ((arms.take j).all fun x => !decide (x.fr = arms[j].fr)) = false := by
                    rw [List.all_eq_false]
                    exact ⟨arms[k], List.mem_take_iff_getElem.2 ⟨k, by omega, rfl⟩, by simpa using hg⟩
                  rw [this]; simp
                rw [this]; rfl
              · refine rd_norm [(1, iv blocks), (2, iv values), (3, .box (.fv (phiF ⟨d, arms⟩))), (7, iv j), (8, iv (k + 1 : Nat))] (sub_of ?_) (m2 - 1) (by omega) ⟨k + 1, by omega, fun i hi h1 => ?_, rfl⟩
                · exact dn
                · by_cases h2 : i = k
                  · subst h2; simpa using hg
                  · exact hb3 trivial i hi (by omega)
            · have hd : decide ((k : Int) < (j : Int)) = false := by rw [decide_eq_false_iff_not]; omega
              have harm : armB (arms.take j) arms[j] blocks values = true := by
                unfold armB
                have hv : valB arms[j].v values = true := by assumption
                rw [hfr, hv]
                simp only [Bool.true_and, List.all_eq_true, Bool.not_eq_true', decide_eq_false_iff_not]
                intro x hx
                obtain ⟨i, hi, rfl⟩ := List.mem_take_iff_getElem.1 hx
                exact hb3 i (by omega) (by omega)
              repeat' first | refine g1 @hd ?_ | refine d1 @hd ?_ | refine j1 @hd (fun hg hgo => ?_) fun hg hgo => ?_ | refine ek_ret ?_ | refine ek_norm ?_ | refine ⟨by omega, ?_⟩ | rfl | trivial | intro _
              refine rd_norm [(1, iv blocks), (2, iv values), (3, .box (.fv (phiF ⟨d, arms⟩))), (7, iv (j + 1 : Nat))] (sub_of ?_) (m - 1) (by omega) ⟨j + 1, by omega, fun i hi h1 => ?_, rfl⟩
              · exact dn
              · by_cases h2 : i = j
                · subst h2; exact harm
                · exact hb2 trivial i hi (by omega)
      · have hd : decide ((j : Int) < (arms.length : Int)) = false := by rw [decide_eq_false_iff_not]; omega
        rw [hsp, List.drop_eq_nil_of_le (by omega), armsB]
        repeat' first | refine g1 @hd ?_ | refine d1 @hd ?_ | refine j1 @hd (fun hg hgo => ?_) fun hg hgo => ?_ | refine ek_ret ?_ | refine ek_norm ?_ | refine ⟨by omega, ?_⟩ | rfl | trivial | intro _
theorem shapeB_b (f : FnD) (h : rgB f.blocks.length 1 16 = true) (h2 : rgB f.values 0 80 = true) : shapeB f = f.blocks.all fun b => blockB b f.blocks.length f.values := by unfold shapeB; rw [h, h2]; rfl
theorem v_ShapeOk_spec (f : FnD) (hf : f.ok) : C2 CC F_spec_ShapeOk [.fv (fnF f)] (bv (shapeB f)) [] := by
  obtain ⟨blocks, values⟩ := f
  replace hf : blocks.length < 1073741824 ∧ ∀ b ∈ blocks, b.ok := hf
  refine cw (keepF Try.f34) Try.f34 false ?_
  repeat' first | refine ck_intro (by first | exact v_l1In _ _ _) ?_ ?_ | refine pd3 56 [0, 1, 0, 7, 15, 0, 0, 64, 255, 511] [0, 1, 0, 0, 1, 0, 0, 1, 5, 0] false ?_ | refine pd3 73 [0, 1, 0, 7, 15, 0, 32, 127, 255] [0, 1, 0, 0, 1, 0, 1, 5, 0] false ?_ | refine g0 ?_ | refine d0 ?_ | refine j0 (fun hg hgo => ?_) fun hg hgo => ?_ | refine ek_ret ?_ | refine ek_norm ?_ | refine ⟨by omega, ?_⟩ | rfl | trivial | intro _
  · unfold shapeB rgB
    rcases hgo with h | h
    · simp [h]
    · rw [decide_eq_false h]; simp
  · unfold shapeB rgB
    rcases hgo with h | h
    · simp [h]
    · rw [decide_eq_false h]; simp
  · have h1 : rgB blocks.length 1 16 = true := by
      have hq : (blocks.length : Int) ≥ 1 ∧ (blocks.length : Int) ≤ 16 := by assumption
      unfold rgB; rw [decide_eq_true hq.1, decide_eq_true hq.2]; rfl
    have h2 : rgB values 0 80 = true := by
      have hq : values ≥ 0 ∧ values ≤ 80 := by assumption
      unfold rgB; rw [decide_eq_true hq.1, decide_eq_true hq.2]; rfl
    have hl16 : blocks.length ≤ 16 := by
      have hq : (blocks.length : Int) ≥ 1 ∧ (blocks.length : Int) ≤ 16 := by assumption
      omega
    rw [shapeB_b ⟨blocks, values⟩ h1 h2]
    show _
    refine pw_loop (fun m st => ∃ j : Nat, j + m = blocks.length ∧ (blocks.take j).all (fun b => blockB b blocks.length values) = true ∧ st = [(1, .box (.fv (fnF ⟨blocks, values⟩))), (3, iv blocks.length), (4, iv j)]) blocks.length [(1, .box (.fv (fnF ⟨blocks, values⟩))), (3, iv blocks.length), (4, iv (0 : Nat))] (sub_of ?_) ⟨0, by omega, rfl, rfl⟩ ?_
    · exact dn
    · rintro m st ⟨j, hj, hb2, rfl⟩
      by_cases hlt : j < blocks.length
      · have hd : decide ((j : Int) < (blocks.length : Int)) = true := by rw [decide_eq_true_eq]; omega
        have hml : j < (blocks.map blockF).length := by rw [List.length_map]; exact hlt
        have hok := hf.2 _ (List.getElem_mem hlt)
        have hte := v_l2Term blocks[j].term blocks.length values ⟨by omega, by omega⟩
        repeat' first | refine ck_intro (by first | exact hte) ?_ ?_ | refine pd3 56 [0, 1, 0, 7, 15, 0, 0, 64, 255, 511] [0, 1, 0, 0, 1, 0, 0, 1, 5, 0] false ?_ | refine pd3 73 [0, 1, 0, 7, 15, 0, 32, 127, 255] [0, 1, 0, 0, 1, 0, 1, 5, 0] false ?_ | refine g1 @hd ?_ | refine d1 @hd ?_ | refine j1 @hd (fun hg hgo => ?_) fun hg hgo => ?_ | refine ek_ret ?_ | refine ek_norm ?_ | refine ⟨by omega, ?_⟩ | rfl | trivial | intro _
        · have hbd : blockB blocks[j] blocks.length values = false := by unfold blockB; rw [decide_eq_false (by omega)]; simp
          rw [all_bad (p := fun b => blockB b blocks.length values) hlt hbd]
        · have hbd : blockB blocks[j] blocks.length values = false := by unfold blockB; rw [decide_eq_false (p := blocks[j].list.length ≤ 24) (by omega)]; simp
          rw [all_bad (p := fun b => blockB b blocks.length values) hlt hbd]
        · have hbd : blockB blocks[j] blocks.length values = false := by unfold blockB; rw [show termB blocks[j].term blocks.length values = false by assumption]; simp
          rw [all_bad (p := fun b => blockB b blocks.length values) hlt hbd]
        · have htm : termB blocks[j].term blocks.length values = true := by assumption
          refine pw_loop (fun m st => ∃ k : Nat, k + m = blocks[j].phis.length ∧ (blocks[j].phis.take k).all (fun x => phiB x blocks.length values) = true ∧ st = [(1, .box (.fv (fnF ⟨blocks, values⟩))), (3, iv blocks.length), (4, iv j), (5, .box (.fv (blockF blocks[j]))), (6, iv k)]) blocks[j].phis.length [(1, .box (.fv (fnF ⟨blocks, values⟩))), (3, iv blocks.length), (4, iv j), (5, .box (.fv (blockF blocks[j]))), (6, iv (0 : Nat))] (sub_of ?_) ⟨0, by omega, rfl, rfl⟩ ?_
          · exact dn
          · rintro m2 st ⟨k, hk, hb3, rfl⟩
            by_cases hlk : k < blocks[j].phis.length
            · have hdk : decide ((k : Int) < (blocks[j].phis.length : Int)) = true := by rw [decide_eq_true_eq]; omega
              have hmk : k < (blocks[j].phis.map phiF).length := by rw [List.length_map]; exact hlk
              have hel := v_l2Phi blocks[j].phis[k] blocks.length values ⟨by omega, by omega⟩ (hok.2.1 _ (List.getElem_mem hlk))
              repeat' first | refine ck_intro (by first | exact hel) ?_ ?_ | refine pd3 56 [0, 1, 0, 7, 15, 0, 0, 64, 255, 511] [0, 1, 0, 0, 1, 0, 0, 1, 5, 0] false ?_ | refine pd3 73 [0, 1, 0, 7, 15, 0, 32, 127, 255] [0, 1, 0, 0, 1, 0, 1, 5, 0] false ?_ | refine g1 @hdk ?_ | refine d1 @hdk ?_ | refine j1 @hdk (fun hg hgo => ?_) fun hg hgo => ?_ | refine ek_ret ?_ | refine ek_norm ?_ | refine ⟨by omega, ?_⟩ | rfl | trivial | intro _
              · have hx : (blocks[j].phis.all fun x => phiB x blocks.length values) = false := all_bad (p := fun x => phiB x blocks.length values) hlk (by simpa using hg)
                have hbd : blockB blocks[j] blocks.length values = false := by unfold blockB; rw [hx]; simp
                rw [all_bad (p := fun b => blockB b blocks.length values) hlt hbd]
              · refine rd_norm [(1, .box (.fv (fnF ⟨blocks, values⟩))), (3, iv blocks.length), (4, iv j), (5, .box (.fv (blockF blocks[j]))), (6, iv (k + 1 : Nat))] (sub_of ?_) (m2 - 1) (by omega) ⟨k + 1, by omega, all_step (p := fun x => phiB x blocks.length values) hb3 hlk (by simpa using hg), rfl⟩
                exact dn
            · have hdk : decide ((k : Int) < (blocks[j].phis.length : Int)) = false := by rw [decide_eq_false_iff_not]; omega
              have hallphis := all_end hb3 (by omega)
              repeat' first | refine g1 @hdk ?_ | refine d1 @hdk ?_ | refine j1 @hdk (fun hg hgo => ?_) fun hg hgo => ?_ | refine ek_ret ?_ | refine ek_norm ?_ | refine ⟨by omega, ?_⟩ | rfl | trivial | intro _
              refine pw_loop (fun m st => ∃ k : Nat, k + m = blocks[j].list.length ∧ (blocks[j].list.take k).all (fun x => insB x values) = true ∧ st = [(1, .box (.fv (fnF ⟨blocks, values⟩))), (3, iv blocks.length), (4, iv j), (5, .box (.fv (blockF blocks[j]))), (7, iv k)]) blocks[j].list.length [(1, .box (.fv (fnF ⟨blocks, values⟩))), (3, iv blocks.length), (4, iv j), (5, .box (.fv (blockF blocks[j]))), (7, iv (0 : Nat))] (sub_of ?_) ⟨0, by omega, rfl, rfl⟩ ?_
              · exact dn
              · rintro m2 st ⟨k, hk, hb3, rfl⟩
                by_cases hlk : k < blocks[j].list.length
                · have hdk : decide ((k : Int) < (blocks[j].list.length : Int)) = true := by rw [decide_eq_true_eq]; omega
                  have hmk : k < (blocks[j].list.map stF).length := by rw [List.length_map]; exact hlk
                  have hel := v_l2Ins blocks[j].list[k] values
                  repeat' first | refine ck_intro (by first | exact hel) ?_ ?_ | refine pd3 56 [0, 1, 0, 7, 15, 0, 0, 64, 255, 511] [0, 1, 0, 0, 1, 0, 0, 1, 5, 0] false ?_ | refine pd3 73 [0, 1, 0, 7, 15, 0, 32, 127, 255] [0, 1, 0, 0, 1, 0, 1, 5, 0] false ?_ | refine g1 @hdk ?_ | refine d1 @hdk ?_ | refine j1 @hdk (fun hg hgo => ?_) fun hg hgo => ?_ | refine ek_ret ?_ | refine ek_norm ?_ | refine ⟨by omega, ?_⟩ | rfl | trivial | intro _
                  · have hx : (blocks[j].list.all fun x => insB x values) = false := all_bad (p := fun x => insB x values) hlk (by simpa using hg)
                    have hbd : blockB blocks[j] blocks.length values = false := by unfold blockB; rw [hx]; simp
                    rw [all_bad (p := fun b => blockB b blocks.length values) hlt hbd]
                  · refine rd_norm [(1, .box (.fv (fnF ⟨blocks, values⟩))), (3, iv blocks.length), (4, iv j), (5, .box (.fv (blockF blocks[j]))), (7, iv (k + 1 : Nat))] (sub_of ?_) (m2 - 1) (by omega) ⟨k + 1, by omega, all_step (p := fun x => insB x values) hb3 hlk (by simpa using hg), rfl⟩
                    exact dn
                · have hdk : decide ((k : Int) < (blocks[j].list.length : Int)) = false := by rw [decide_eq_false_iff_not]; omega
                  have halllist := all_end hb3 (by omega)
                  repeat' first | refine g1 @hdk ?_ | refine d1 @hdk ?_ | refine j1 @hdk (fun hg hgo => ?_) fun hg hgo => ?_ | refine ek_ret ?_ | refine ek_norm ?_ | refine ⟨by omega, ?_⟩ | rfl | trivial | intro _
                  refine rd_norm [(1, .box (.fv (fnF ⟨blocks, values⟩))), (3, iv blocks.length), (4, iv (j + 1 : Nat))] (sub_of ?_) (m - 1) (by omega) ⟨j + 1, by omega, all_step (p := fun b => blockB b blocks.length values) hb2 hlt ?_, rfl⟩
                  · exact dn
                  · show blockB blocks[j] blocks.length values = true
                    unfold blockB
                    rw [htm, hallphis, halllist, decide_eq_true (p := blocks[j].phis.length ≤ 24) (by omega), decide_eq_true (p := blocks[j].list.length ≤ 24) (by omega)]; rfl
      · have hd : decide ((j : Int) < (blocks.length : Int)) = false := by rw [decide_eq_false_iff_not]; omega
        have hq := all_end hb2 (by omega)
        repeat' first | refine g2 @hd @hq ?_ | refine d2 @hd @hq ?_ | refine j2 @hd @hq (fun hg hgo => ?_) fun hg hgo => ?_ | refine ek_ret ?_ | refine ek_norm ?_ | refine ⟨by omega, ?_⟩ | rfl | trivial | intro _
theorem all_at {α : Type} {p : α → Bool} {l : List α} {j : Nat} (h : l.all p = true) (hj : j < l.length) : p l[j] = true := (List.all_eq_true.1 h) _ (List.getElem_mem hj)
theorem all_mem {α : Type} {p : α → Bool} {l : List α} {x : α} (h : l.all p = true) (hx : x ∈ l) : p x = true := (List.all_eq_true.1 h) x hx
theorem blk_phis {b : BlockD} {n v : Int} (h : blockB b n v = true) : b.phis.all (fun p => phiB p n v) = true := by
  unfold blockB at h; simp only [Bool.and_eq_true] at h; exact h.1.2
theorem blk_len {b : BlockD} {n v : Int} (h : blockB b n v = true) : b.phis.length ≤ 24 ∧ b.list.length ≤ 24 := by
  unfold blockB at h; simp only [Bool.and_eq_true, decide_eq_true_eq] at h; exact ⟨h.1.1.1.1, h.1.1.1.2⟩
theorem phi_len {p : PhiD} {n v : Int} (h : phiB p n v = true) : p.arms.length ≤ 16 := by
  unfold phiB at h; simp only [Bool.and_eq_true, decide_eq_true_eq] at h; exact h.1.2
theorem bys_app {a b : List Int} : bys a ++ bys b = bys (a ++ b) := by unfold bys; rw [List.map_append]
theorem bys_pk {P : List Int} {x : Int} : bys (pkL P) ++ bys (pk1 x) = bys (pkL (P ++ [x])) := by rw [pkL_app, pkL_cons, pkL_nil, List.append_nil, bys_app]
theorem bys_pks {P l : List Int} : bys (pkL P) ++ bys (pkL l) = bys (pkL (P ++ l)) := by rw [pkL_app, bys_app]
theorem shape_len {f : FnD} (h : shapeB f = true) : f.blocks.length ≤ 16 := by
  unfold shapeB rgB at h; simp only [Bool.and_eq_true, decide_eq_true_eq] at h; omega
theorem v_PackFn_spec (f : FnD) (hf : f.ok) (hs : shapeB f = true) : C2 CC F_spec_PackFn [.fv (fnF f)] (.tup [.own 1 (bys (if nsOk f = true then pkL (numsF f) else [])), bv (nsOk f)]) [] := by
  have h1 := v_ShapeOk_spec f hf
  have hsb : f.blocks.all (fun b => blockB b f.blocks.length f.values) = true := by
    unfold shapeB at hs; rw [Bool.and_eq_true] at hs; exact hs.2
  rw [hs] at h1
  refine cw (keepF Try.f8) Try.f8 false ?_
  repeat' first | refine ck_intro (by first | exact h1 | exact v_l19Nums [f.values, f.blocks.length] (by simp)) ?_ ?_ | refine pd3 47 [0, 0, 2, 0, 14, 30, 62, 0, 128, 0, 896, 1920, 3968, 8064, 16382, 32766, 65535, 131071] [0, 0, 1, 0, 0, 0, 1, 0, 1, 0, 0, 0, 1, 0, 3, 5, 5, 0] false ?_ | refine pd3 75 [0, 0, 2, 0, 14, 30, 62, 0, 254, 510, 1022, 0, 2048, 0, 14336, 30720, 63488, 0, 260096, 522240, 1046528, 2097150, 4194302, 8388607, 16777215] [0, 0, 1, 0, 0, 0, 1, 0, 0, 0, 1, 0, 1, 0, 0, 0, 1, 0, 0, 0, 1, 3, 5, 5, 0] false ?_ | refine g2 @ints_cons @ints_nil ?_ | refine d2 @ints_cons @ints_nil ?_ | refine j2 @ints_cons @ints_nil (fun hg hgo => ?_) fun hg hgo => ?_ | refine ek_ret ?_ | refine ek_norm ?_ | refine ⟨by omega, ?_⟩ | rfl | trivial | intro _
  refine pw_loop (fun m st => ∃ j : Nat, j + m = f.blocks.length ∧ ((f.blocks.take j).all fun b => b.list.all fun x => numOk x.n) = true ∧ st = [(1, .box (.fv (fnF f))), (4, .own 1 (bys (pkL ([f.values, (f.blocks.length : Int)] ++ (f.blocks.take j).flatMap numsB)))), (5, iv j)]) f.blocks.length [(1, .box (.fv (fnF f))), (4, .own 1 (bys (pkL ([f.values, (f.blocks.length : Int)] ++ (f.blocks.take 0).flatMap numsB)))), (5, iv (0 : Nat))] (sub_of ?_) ⟨0, by omega, rfl, rfl⟩ ?_
  · rw [List.take_zero, List.flatMap_nil, List.append_nil]
    exact dn
  · rintro m st ⟨j, hj, hb2, rfl⟩
    by_cases hlt : j < f.blocks.length
    · have hd : decide ((j : Int) < (f.blocks.length : Int)) = true := by rw [decide_eq_true_eq]; omega
      have hml : j < (f.blocks.map blockF).length := by rw [List.length_map]; exact hlt
      have k0 := pk_spec (f.blocks[j].phis.length : Int)
      have hblk := all_at hsb hlt
      have hPl : ([f.values, (f.blocks.length : Int)] ++ (f.blocks.take j).flatMap numsB).length ≤ 20000 := by
        have := flat_le (g := numsB) (c := 1000) (l := f.blocks.take j) fun b hb => numsB_len (n := f.blocks.length) (v := f.values) (all_mem (p := fun b => blockB b f.blocks.length f.values) (x := b) hsb (List.mem_of_mem_take hb))
        have h16 := shape_len hs
        rw [List.length_take] at this
        simp only [List.length_append, List.length_cons, List.length_nil]; omega
      have eB : [f.values, (f.blocks.length : Int)] ++ (f.blocks.take (j + 1)).flatMap numsB = [f.values, (f.blocks.length : Int)] ++ (f.blocks.take j).flatMap numsB ++ numsB f.blocks[j] := by
        rw [List.take_succ_eq_append_getElem hlt, List.flatMap_append, List.flatMap_cons, List.flatMap_nil, List.append_nil, List.append_assoc]
      have hstep : (f.blocks[j].list.all fun x => numOk x.n) = true → ((f.blocks.take (j + 1)).all fun b => b.list.all fun x => numOk x.n) = true := fun h => all_step (p := fun b : BlockD => b.list.all fun x => numOk x.n) hb2 hlt h
      have hnf2 : ∀ x ∈ f.blocks[j].list, numOk x.n = false → nsOk f = false := fun x hx hn => by
        cases hc : nsOk f with
        | false => rfl
        | true =>
          have := all_mem (p := fun x : StepD => numOk x.n) (all_mem (p := fun b : BlockD => b.list.all fun x => numOk x.n) hc (List.getElem_mem hlt)) hx
          rw [hn] at this; cases this
      generalize hPP : [f.values, (f.blocks.length : Int)] ++ (f.blocks.take j).flatMap numsB = P at hPl eB ⊢
      have hap := @bys_pk P (f.blocks[j].phis.length : Int)
      have hl1 := pkL_len P
      have hl2 := pk1_len (f.blocks[j].phis.length : Int)
      repeat' first | refine ck_intro (by first | exact k0) ?_ ?_ | refine pd3 47 [0, 0, 2, 0, 14, 30, 62, 0, 128, 0, 896, 1920, 3968, 8064, 16382, 32766, 65535, 131071] [0, 0, 1, 0, 0, 0, 1, 0, 1, 0, 0, 0, 1, 0, 3, 5, 5, 0] false ?_ | refine pd3 75 [0, 0, 2, 0, 14, 30, 62, 0, 254, 510, 1022, 0, 2048, 0, 14336, 30720, 63488, 0, 260096, 522240, 1046528, 2097150, 4194302, 8388607, 16777215] [0, 0, 1, 0, 0, 0, 1, 0, 0, 0, 1, 0, 1, 0, 0, 0, 1, 0, 0, 0, 1, 3, 5, 5, 0] false ?_ | refine g2 @hd @hap ?_ | refine d2 @hd @hap ?_ | refine j2 @hd @hap (fun hg hgo => ?_) fun hg hgo => ?_ | refine ek_ret ?_ | refine ek_norm ?_ | refine ⟨by omega, ?_⟩ | rfl | trivial | intro _
      clear hap k0 hl1 hl2
      generalize f.blocks[j] = b at hblk eB hstep hnf2 ⊢
      refine pw_loop (fun m st => ∃ i : Nat, i + m = b.phis.length ∧ st = [(1, .box (.fv (fnF f))), (4, .own 1 (bys (pkL (P ++ [(b.phis.length : Int)] ++ (b.phis.take i).flatMap numsP)))), (5, iv j), (6, .box (.fv (blockF b))), (7, iv i)]) b.phis.length [(1, .box (.fv (fnF f))), (4, .own 1 (bys (pkL (P ++ [(b.phis.length : Int)] ++ (b.phis.take 0).flatMap numsP)))), (5, iv j), (6, .box (.fv (blockF b))), (7, iv (0 : Nat))] (sub_of ?_) ⟨0, by omega, rfl⟩ ?_
      · rw [List.take_zero, List.flatMap_nil, List.append_nil]
        exact dn
      · rintro m1 st ⟨i, hi, rfl⟩
        by_cases hlti : i < b.phis.length
        · have hdi : decide ((i : Int) < (b.phis.length : Int)) = true := by rw [decide_eq_true_eq]; omega
          have hmli : i < (b.phis.map phiF).length := by rw [List.length_map]; exact hlti
          have kn := v_l19Nums [b.phis[i].d, (b.phis[i].arms.length : Int)] (by simp)
          have hphi := all_at (blk_phis hblk) hlti
          have h16 := phi_len hphi
          have h24 := blk_len hblk
          have hQl : (P ++ [(b.phis.length : Int)] ++ (b.phis.take i).flatMap numsP).length ≤ 21000 := by
            have := flat_le (g := numsP) (c := 34) (l := b.phis.take i) fun p hp => numsP_len (n := f.blocks.length) (v := f.values) (all_mem (p := fun p => phiB p f.blocks.length f.values) (x := p) (blk_phis hblk) (List.mem_of_mem_take hp))
            rw [List.length_take] at this
            simp only [List.length_append, List.length_cons, List.length_nil]; omega
          have eP : P ++ [(b.phis.length : Int)] ++ (b.phis.take (i + 1)).flatMap numsP = P ++ [(b.phis.length : Int)] ++ (b.phis.take i).flatMap numsP ++ [b.phis[i].d, (b.phis[i].arms.length : Int)] ++ b.phis[i].arms.flatMap numsA := by
            rw [List.take_succ_eq_append_getElem hlti, List.flatMap_append, List.flatMap_cons, List.flatMap_nil, List.append_nil, numsP]; simp only [List.append_assoc]
          generalize hQ : P ++ [(b.phis.length : Int)] ++ (b.phis.take i).flatMap numsP = Q at hQl eP ⊢
          have q1 := pkL_len Q
          have q2 := pkL_len [b.phis[i].d, (b.phis[i].arms.length : Int)]
          simp only [List.length_cons, List.length_nil] at q2
          repeat' first | refine ck_intro (by first | exact kn) ?_ ?_ | refine pd3 47 [0, 0, 2, 0, 14, 30, 62, 0, 128, 0, 896, 1920, 3968, 8064, 16382, 32766, 65535, 131071] [0, 0, 1, 0, 0, 0, 1, 0, 1, 0, 0, 0, 1, 0, 3, 5, 5, 0] false ?_ | refine pd3 75 [0, 0, 2, 0, 14, 30, 62, 0, 254, 510, 1022, 0, 2048, 0, 14336, 30720, 63488, 0, 260096, 522240, 1046528, 2097150, 4194302, 8388607, 16777215] [0, 0, 1, 0, 0, 0, 1, 0, 0, 0, 1, 0, 1, 0, 0, 0, 1, 0, 0, 0, 1, 3, 5, 5, 0] false ?_ | refine g4 @hdi @ints_cons @ints_nil @bys_pks ?_ | refine d4 @hdi @ints_cons @ints_nil @bys_pks ?_ | refine j4 @hdi @ints_cons @ints_nil @bys_pks (fun hg hgo => ?_) fun hg hgo => ?_ | refine ek_ret ?_ | refine ek_norm ?_ | refine ⟨by omega, ?_⟩ | rfl | trivial | intro _
          clear q1 q2 kn
          refine pw_loop (fun m st => ∃ a : Nat, a + m = b.phis[i].arms.length ∧ st = [(1, .box (.fv (fnF f))), (4, .own 1 (bys (pkL (Q ++ [b.phis[i].d, (b.phis[i].arms.length : Int)] ++ (b.phis[i].arms.take a).flatMap numsA)))), (5, iv j), (6, .box (.fv (blockF b))), (7, iv i), (8, iv a)]) b.phis[i].arms.length [(1, .box (.fv (fnF f))), (4, .own 1 (bys (pkL (Q ++ [b.phis[i].d, (b.phis[i].arms.length : Int)] ++ (b.phis[i].arms.take 0).flatMap numsA)))), (5, iv j), (6, .box (.fv (blockF b))), (7, iv i), (8, iv (0 : Nat))] (sub_of ?_) ⟨0, by omega, rfl⟩ ?_
          · rw [List.take_zero, List.flatMap_nil, List.append_nil]
            exact dn
          · rintro m st ⟨a, ha, rfl⟩
            by_cases hlta : a < b.phis[i].arms.length
            · have hda : decide ((a : Int) < (b.phis[i].arms.length : Int)) = true := by rw [decide_eq_true_eq]; omega
              have hmla : a < (b.phis[i].arms.map armF).length := by rw [List.length_map]; exact hlta
              have kn := v_l19Nums [b.phis[i].arms[a].fr, b.phis[i].arms[a].v] (by simp)
              have e1 : (b.phis[i].arms.take (a + 1)).flatMap numsA = (b.phis[i].arms.take a).flatMap numsA ++ [b.phis[i].arms[a].fr, b.phis[i].arms[a].v] := by
                rw [List.take_succ_eq_append_getElem hlta, List.flatMap_append, List.flatMap_cons, List.flatMap_nil, List.append_nil]; rfl
              have hRl : (Q ++ [b.phis[i].d, (b.phis[i].arms.length : Int)] ++ (b.phis[i].arms.take a).flatMap numsA).length ≤ 22000 := by
                have := flat_le (g := numsA) (c := 2) (l := b.phis[i].arms.take a) fun p _ => by simp [numsA]
                rw [List.length_take] at this
                simp only [List.length_append, List.length_cons, List.length_nil]; omega
              have q1 := pkL_len (Q ++ [b.phis[i].d, (b.phis[i].arms.length : Int)] ++ (b.phis[i].arms.take a).flatMap numsA)
              have q2 := pkL_len [b.phis[i].arms[a].fr, b.phis[i].arms[a].v]
              simp only [List.length_cons, List.length_nil] at q2
              have e2 := @bys_pks (Q ++ [b.phis[i].d, (b.phis[i].arms.length : Int)] ++ (b.phis[i].arms.take a).flatMap numsA) [b.phis[i].arms[a].fr, b.phis[i].arms[a].v]
              repeat' first | refine ck_intro (by first | exact kn) ?_ ?_ | refine pd3 47 [0, 0, 2, 0, 14, 30, 62, 0, 128, 0, 896, 1920, 3968, 8064, 16382, 32766, 65535, 131071] [0, 0, 1, 0, 0, 0, 1, 0, 1, 0, 0, 0, 1, 0, 3, 5, 5, 0] false ?_ | refine pd3 75 [0, 0, 2, 0, 14, 30, 62, 0, 254, 510, 1022, 0, 2048, 0, 14336, 30720, 63488, 0, 260096, 522240, 1046528, 2097150, 4194302, 8388607, 16777215] [0, 0, 1, 0, 0, 0, 1, 0, 0, 0, 1, 0, 1, 0, 0, 0, 1, 0, 0, 0, 1, 3, 5, 5, 0] false ?_ | refine g4 @hda @ints_cons @ints_nil @e2 ?_ | refine d4 @hda @ints_cons @ints_nil @e2 ?_ | refine j4 @hda @ints_cons @ints_nil @e2 (fun hg hgo => ?_) fun hg hgo => ?_ | refine ek_ret ?_ | refine ek_norm ?_ | refine ⟨by omega, ?_⟩ | rfl | trivial | intro _
              refine rd_norm [(1, .box (.fv (fnF f))), (4, .own 1 (bys (pkL (Q ++ [b.phis[i].d, (b.phis[i].arms.length : Int)] ++ (b.phis[i].arms.take (a + 1)).flatMap numsA)))), (5, iv j), (6, .box (.fv (blockF b))), (7, iv i), (8, iv (a + 1 : Nat))] (sub_of ?_) (m - 1) (by omega) ⟨a + 1, by omega, rfl⟩
              rw [e1, ← List.append_assoc]
              exact dn
            · have hda : decide ((a : Int) < (b.phis[i].arms.length : Int)) = false := by rw [decide_eq_false_iff_not]; omega
              rw [List.take_of_length_le (by omega : b.phis[i].arms.length ≤ a)]
              repeat' first | refine pd3 47 [0, 0, 2, 0, 14, 30, 62, 0, 128, 0, 896, 1920, 3968, 8064, 16382, 32766, 65535, 131071] [0, 0, 1, 0, 0, 0, 1, 0, 1, 0, 0, 0, 1, 0, 3, 5, 5, 0] false ?_ | refine pd3 75 [0, 0, 2, 0, 14, 30, 62, 0, 254, 510, 1022, 0, 2048, 0, 14336, 30720, 63488, 0, 260096, 522240, 1046528, 2097150, 4194302, 8388607, 16777215] [0, 0, 1, 0, 0, 0, 1, 0, 0, 0, 1, 0, 1, 0, 0, 0, 1, 0, 0, 0, 1, 3, 5, 5, 0] false ?_ | refine g1 @hda ?_ | refine d1 @hda ?_ | refine j1 @hda (fun hg hgo => ?_) fun hg hgo => ?_ | refine ek_ret ?_ | refine ek_norm ?_ | refine ⟨by omega, ?_⟩ | rfl | trivial | intro _
              refine rd_norm [(1, .box (.fv (fnF f))), (4, .own 1 (bys (pkL (P ++ [(b.phis.length : Int)] ++ (b.phis.take (i + 1)).flatMap numsP)))), (5, iv j), (6, .box (.fv (blockF b))), (7, iv (i + 1 : Nat))] (sub_of ?_) (m1 - 1) (by omega) ⟨i + 1, by omega, rfl⟩
              rw [eP]
              exact dn
        · have hdi : decide ((i : Int) < (b.phis.length : Int)) = false := by rw [decide_eq_false_iff_not]; omega
          have h24 := blk_len hblk
          have hQl : (P ++ [(b.phis.length : Int)] ++ b.phis.flatMap numsP).length ≤ 21000 := by
            have := flat_le (g := numsP) (c := 34) (l := b.phis) fun p hp => numsP_len (n := f.blocks.length) (v := f.values) (all_mem (p := fun p => phiB p f.blocks.length f.values) (x := p) (blk_phis hblk) hp)
            simp only [List.length_append, List.length_cons, List.length_nil]; omega
          rw [List.take_of_length_le (by omega : b.phis.length ≤ i)]
          generalize hQ : P ++ [(b.phis.length : Int)] ++ b.phis.flatMap numsP = Q at hQl ⊢
          have kl := pk_spec (b.list.length : Int)
          have q1 := pkL_len Q
          have q2 := pk1_len (b.list.length : Int)
          have e2 := @bys_pk Q (b.list.length : Int)
          repeat' first | refine ck_intro (by first | exact kl) ?_ ?_ | refine pd3 47 [0, 0, 2, 0, 14, 30, 62, 0, 128, 0, 896, 1920, 3968, 8064, 16382, 32766, 65535, 131071] [0, 0, 1, 0, 0, 0, 1, 0, 1, 0, 0, 0, 1, 0, 3, 5, 5, 0] false ?_ | refine pd3 75 [0, 0, 2, 0, 14, 30, 62, 0, 254, 510, 1022, 0, 2048, 0, 14336, 30720, 63488, 0, 260096, 522240, 1046528, 2097150, 4194302, 8388607, 16777215] [0, 0, 1, 0, 0, 0, 1, 0, 0, 0, 1, 0, 1, 0, 0, 0, 1, 0, 0, 0, 1, 3, 5, 5, 0] false ?_ | refine g2 @hdi @e2 ?_ | refine d2 @hdi @e2 ?_ | refine j2 @hdi @e2 (fun hg hgo => ?_) fun hg hgo => ?_ | refine ek_ret ?_ | refine ek_norm ?_ | refine ⟨by omega, ?_⟩ | rfl | trivial | intro _
          clear q1 q2 e2 kl
          refine pw_loop (fun m st => ∃ c : Nat, c + m = b.list.length ∧ ((b.list.take c).all fun x => numOk x.n) = true ∧ st = [(1, .box (.fv (fnF f))), (4, .own 1 (bys (pkL (Q ++ [(b.list.length : Int)] ++ (b.list.take c).flatMap numsI)))), (5, iv j), (6, .box (.fv (blockF b))), (9, iv c)]) b.list.length [(1, .box (.fv (fnF f))), (4, .own 1 (bys (pkL (Q ++ [(b.list.length : Int)] ++ (b.list.take 0).flatMap numsI)))), (5, iv j), (6, .box (.fv (blockF b))), (9, iv (0 : Nat))] (sub_of ?_) ⟨0, by omega, rfl, rfl⟩ ?_
          · rw [List.take_zero, List.flatMap_nil, List.append_nil]
            exact dn
          · rintro m2 st ⟨c, hc, hbc, rfl⟩
            by_cases hltc : c < b.list.length
            · have hdc : decide ((c : Int) < (b.list.length : Int)) = true := by rw [decide_eq_true_eq]; omega
              have hmlc : c < (b.list.map stF).length := by rw [List.length_map]; exact hltc
              have kp := pk_spec b.list[c].n
              cases hn : numOk b.list[c].n with
              | false =>
                have hp0 : pk1 b.list[c].n = [] := by unfold pk1; rw [hn]; rfl
                rw [hp0] at kp
                have hnf : nsOk f = false := hnf2 _ (List.getElem_mem hltc) hn
                have hb0 : bys [] = [] := rfl
                rw [hnf, if_neg (by decide)]
                repeat' first | refine ck_intro (by first | exact kp) ?_ ?_ | refine pd3 47 [0, 0, 2, 0, 14, 30, 62, 0, 128, 0, 896, 1920, 3968, 8064, 16382, 32766, 65535, 131071] [0, 0, 1, 0, 0, 0, 1, 0, 1, 0, 0, 0, 1, 0, 3, 5, 5, 0] false ?_ | refine pd3 75 [0, 0, 2, 0, 14, 30, 62, 0, 254, 510, 1022, 0, 2048, 0, 14336, 30720, 63488, 0, 260096, 522240, 1046528, 2097150, 4194302, 8388607, 16777215] [0, 0, 1, 0, 0, 0, 1, 0, 0, 0, 1, 0, 1, 0, 0, 0, 1, 0, 0, 0, 1, 3, 5, 5, 0] false ?_ | refine g2 @hdc @hb0 ?_ | refine d2 @hdc @hb0 ?_ | refine j2 @hdc @hb0 (fun hg hgo => ?_) fun hg hgo => ?_ | refine ek_ret ?_ | refine ek_norm ?_ | refine ⟨by omega, ?_⟩ | rfl | trivial | intro _
              | true =>
                have hpl : 0 < (pk1 b.list[c].n).length := by unfold pk1; rw [if_pos hn]; exact (packI_ok hn).2.1
                have hpz : (((pk1 b.list[c].n).length : Int) == 0) = false := by rw [beq_eq_false_iff_ne]; omega
                have hpu := pk1_len b.list[c].n
                have e1 : (b.list.take (c + 1)).flatMap numsI = (b.list.take c).flatMap numsI ++ [b.list[c].op, b.list[c].r, b.list[c].a, b.list[c].b, b.list[c].n] := by
                  rw [List.take_succ_eq_append_getElem hltc, List.flatMap_append, List.flatMap_cons, List.flatMap_nil, List.append_nil]; rfl
                have hRl : (Q ++ [(b.list.length : Int)] ++ (b.list.take c).flatMap numsI).length ≤ 22000 := by
                  have := flat_le (g := numsI) (c := 5) (l := b.list.take c) fun p _ => by simp [numsI]
                  rw [List.length_take] at this
                  simp only [List.length_append, List.length_cons, List.length_nil]; omega
                have kn := v_l19Nums [b.list[c].op, b.list[c].r, b.list[c].a, b.list[c].b, b.list[c].n] (by simp)
                have q1 := pkL_len (Q ++ [(b.list.length : Int)] ++ (b.list.take c).flatMap numsI)
                have q2 := pkL_len [b.list[c].op, b.list[c].r, b.list[c].a, b.list[c].b, b.list[c].n]
                simp only [List.length_cons, List.length_nil] at q2
                have e2 := @bys_pks (Q ++ [(b.list.length : Int)] ++ (b.list.take c).flatMap numsI) [b.list[c].op, b.list[c].r, b.list[c].a, b.list[c].b, b.list[c].n]
                have hbc2 := all_step (p := fun x : StepD => numOk x.n) hbc hltc hn
                repeat' first | refine ck_intro (by first | exact kp | exact kn) ?_ ?_ | refine pd3 47 [0, 0, 2, 0, 14, 30, 62, 0, 128, 0, 896, 1920, 3968, 8064, 16382, 32766, 65535, 131071] [0, 0, 1, 0, 0, 0, 1, 0, 1, 0, 0, 0, 1, 0, 3, 5, 5, 0] false ?_ | refine pd3 75 [0, 0, 2, 0, 14, 30, 62, 0, 254, 510, 1022, 0, 2048, 0, 14336, 30720, 63488, 0, 260096, 522240, 1046528, 2097150, 4194302, 8388607, 16777215] [0, 0, 1, 0, 0, 0, 1, 0, 0, 0, 1, 0, 1, 0, 0, 0, 1, 0, 0, 0, 1, 3, 5, 5, 0] false ?_ | refine g5 @hdc @ints_cons @ints_nil @hpz @e2 ?_ | refine d5 @hdc @ints_cons @ints_nil @hpz @e2 ?_ | refine j5 @hdc @ints_cons @ints_nil @hpz @e2 (fun hg hgo => ?_) fun hg hgo => ?_ | refine ek_ret ?_ | refine ek_norm ?_ | refine ⟨by omega, ?_⟩ | rfl | trivial | intro _
                refine rd_norm [(1, .box (.fv (fnF f))), (4, .own 1 (bys (pkL (Q ++ [(b.list.length : Int)] ++ (b.list.take (c + 1)).flatMap numsI)))), (5, iv j), (6, .box (.fv (blockF b))), (9, iv (c + 1 : Nat))] (sub_of ?_) (m2 - 1) (by omega) ⟨c + 1, by omega, hbc2, rfl⟩
                rw [e1, ← List.append_assoc]
                exact dn
            · have hdc : decide ((c : Int) < (b.list.length : Int)) = false := by rw [decide_eq_false_iff_not]; omega
              rw [List.take_of_length_le (by omega : b.list.length ≤ c)] at hbc ⊢
              have hj16 := shape_len hs
              have hRl : (Q ++ [(b.list.length : Int)] ++ b.list.flatMap numsI).length ≤ 22000 := by
                have := flat_le (g := numsI) (c := 5) (l := b.list) fun p _ => by simp [numsI]
                simp only [List.length_append, List.length_cons, List.length_nil]; omega
              have kn := v_l19Nums [b.term.kind, b.term.a, b.term.to, b.term.els] (by simp)
              have eQ : P ++ numsB b = Q ++ [(b.list.length : Int)] ++ b.list.flatMap numsI ++ [b.term.kind, b.term.a, b.term.to, b.term.els] := by
                rw [← hQ, numsB, numsT]; simp only [List.append_assoc]
              have q1 := pkL_len (Q ++ [(b.list.length : Int)] ++ b.list.flatMap numsI)
              have q2 := pkL_len [b.term.kind, b.term.a, b.term.to, b.term.els]
              simp only [List.length_cons, List.length_nil] at q2
              have e2 := @bys_pks (Q ++ [(b.list.length : Int)] ++ b.list.flatMap numsI) [b.term.kind, b.term.a, b.term.to, b.term.els]
              repeat' first | refine ck_intro (by first | exact kn) ?_ ?_ | refine pd3 47 [0, 0, 2, 0, 14, 30, 62, 0, 128, 0, 896, 1920, 3968, 8064, 16382, 32766, 65535, 131071] [0, 0, 1, 0, 0, 0, 1, 0, 1, 0, 0, 0, 1, 0, 3, 5, 5, 0] false ?_ | refine pd3 75 [0, 0, 2, 0, 14, 30, 62, 0, 254, 510, 1022, 0, 2048, 0, 14336, 30720, 63488, 0, 260096, 522240, 1046528, 2097150, 4194302, 8388607, 16777215] [0, 0, 1, 0, 0, 0, 1, 0, 0, 0, 1, 0, 1, 0, 0, 0, 1, 0, 0, 0, 1, 3, 5, 5, 0] false ?_ | refine g4 @hdc @ints_cons @ints_nil @e2 ?_ | refine d4 @hdc @ints_cons @ints_nil @e2 ?_ | refine j4 @hdc @ints_cons @ints_nil @e2 (fun hg hgo => ?_) fun hg hgo => ?_ | refine ek_ret ?_ | refine ek_norm ?_ | refine ⟨by omega, ?_⟩ | rfl | trivial | intro _
              refine rd_norm [(1, .box (.fv (fnF f))), (4, .own 1 (bys (pkL ([f.values, (f.blocks.length : Int)] ++ (f.blocks.take (j + 1)).flatMap numsB)))), (5, iv (j + 1 : Nat))] (sub_of ?_) (m - 1) (by omega) ⟨j + 1, by omega, hstep hbc, rfl⟩
              rw [eB, eQ]
              exact dn
    · have hd : decide ((j : Int) < (f.blocks.length : Int)) = false := by rw [decide_eq_false_iff_not]; omega
      rw [List.take_of_length_le (by omega : f.blocks.length ≤ j)] at hb2 ⊢
      have hns : nsOk f = true := hb2
      have hnn : [f.values, (f.blocks.length : Int)] ++ f.blocks.flatMap numsB = numsF f := rfl
      rw [hns, if_pos rfl, hnn]
      repeat' first | refine pd3 47 [0, 0, 2, 0, 14, 30, 62, 0, 128, 0, 896, 1920, 3968, 8064, 16382, 32766, 65535, 131071] [0, 0, 1, 0, 0, 0, 1, 0, 1, 0, 0, 0, 1, 0, 3, 5, 5, 0] false ?_ | refine pd3 75 [0, 0, 2, 0, 14, 30, 62, 0, 254, 510, 1022, 0, 2048, 0, 14336, 30720, 63488, 0, 260096, 522240, 1046528, 2097150, 4194302, 8388607, 16777215] [0, 0, 1, 0, 0, 0, 1, 0, 0, 0, 1, 0, 1, 0, 0, 0, 1, 0, 0, 0, 1, 3, 5, 5, 0] false ?_ | refine g1 @hd ?_ | refine d1 @hd ?_ | refine j1 @hd (fun hg hgo => ?_) fun hg hgo => ?_ | refine ek_ret ?_ | refine ek_norm ?_ | refine ⟨by omega, ?_⟩ | rfl | trivial | intro _
def byI (b : ByteArray) : List Int := b.data.toList.map fun x => (x.toNat : Int)
theorem byI_len (b : ByteArray) : (byI b).length = b.size := by unfold byI; rw [List.length_map]; rfl
@[go_sem] theorem bytesF_eq (b : ByteArray) : bytesF b = (byI b).map fun n => .fv (.int .u8 n) := by
  unfold bytesF byI; rw [List.map_map]; rfl
def formB (op : Int) : ByteArray := if op = 20 then ⟨#[68, 78]⟩ else if op = 21 then ⟨#[68, 65]⟩ else if op = 25 then ⟨#[68, 65]⟩ else if op = 22 then ⟨#[65, 66]⟩ else if op = 23 then ⟨#[65]⟩ else if op = 24 then ⟨#[68]⟩ else ⟨#[68, 65, 66]⟩
def formK (op : Int) : Bool := if op = 20 then true else if op = 21 then true else if op = 25 then true else if op = 22 then true else if op = 23 then true else if op = 24 then true else wok op
theorem formB_len (op : Int) : (byI (formB op)).length < 4611686018427387904 := by
  rw [byI_len]; unfold formB; repeat' split
  all_goals decide
theorem v_formOf (op : Int) : C2 CC F_impl_formOf [iv op] (.tup [.fv (.str (formB op)), bv (formK op)]) [] := by
  refine cw (keepF Try.f113) Try.f113 false ?_
  repeat' first | refine ck_intro (by first | exact v_WordOk _) ?_ ?_ | refine g0 ?_ | refine d0 ?_ | refine j0 (fun hg hgo => ?_) fun hg hgo => ?_ | refine ek_ret ?_ | refine ek_norm ?_ | refine ⟨by omega, ?_⟩ | rfl | trivial | intro _
  all_goals simp_all [formB, formK]
def hasI (l : List Int) (c : Int) : Bool := decide (idxI c l 0 ≥ 0)
theorem v_Contains_byte (l : List Int) (c : Int) (hl : l.length < 4611686018427387904) : C2 CC F_slices_Contains_byte [.fv (rb l), .fv (.int .u8 c)] (bv (hasI l c)) [] := by
  refine cw (keepF Try.f129) Try.f129 false ?_
  repeat' first | refine ck_intro (by first | exact v_Index_byte _ _ hl) ?_ ?_ | refine g0 ?_ | refine d0 ?_ | refine j0 (fun hg hgo => ?_) fun hg hgo => ?_ | refine ek_ret ?_ | refine ek_norm ?_ | refine ⟨by omega, ?_⟩ | rfl | trivial | intro _
def hasP (op c : Int) : Bool := formK op && hasI (byI (formB op)) c
theorem v_has (op c : Int) : C2 CC F_impl_has [iv op, .fv (.int .u8 c)] (bv (hasP op c)) [] := by
  refine cw (keepF Try.f114) Try.f114 false ?_
  repeat' first | refine ck_intro (by first | exact v_formOf _ | exact v_Contains_byte _ _ (formB_len op)) ?_ ?_ | refine g0 ?_ | refine d0 ?_ | refine j0 (fun hg hgo => ?_) fun hg hgo => ?_ | refine ek_ret ?_ | refine ek_norm ?_ | refine ⟨by omega, ?_⟩ | rfl | trivial | intro _
  all_goals simp_all [hasP]
def makesB (op : Int) : Bool := wok op || op == 20 || op == 21 || op == 24 || op == 25
def hasA (op : Int) : Bool := wok op || op == 22 || op == 21 || op == 23 || op == 25
def hasBb (op : Int) : Bool := wok op || op == 22
theorem hasP_all (op : Int) : hasP op 65 = hasA op ∧ hasP op 66 = hasBb op ∧ hasP op 68 = makesB op := by
  by_cases h20 : op = 20
  · subst h20; decide
  by_cases h21 : op = 21
  · subst h21; decide
  by_cases h22 : op = 22
  · subst h22; decide
  by_cases h23 : op = 23
  · subst h23; decide
  by_cases h24 : op = 24
  · subst h24; decide
  by_cases h25 : op = 25
  · subst h25; decide
  have hb : formB op = ⟨#[68, 65, 66]⟩ := by simp [formB, h20, h21, h22, h23, h24, h25]
  have hk : formK op = wok op := by simp [formK, h20, h21, h22, h23, h24, h25]
  have i1 : hasI (byI ⟨#[68, 65, 66]⟩) 65 = true := by decide
  have i2 : hasI (byI ⟨#[68, 65, 66]⟩) 66 = true := by decide
  have i3 : hasI (byI ⟨#[68, 65, 66]⟩) 68 = true := by decide
  simp [hasP, hb, hk, i1, i2, i3, hasA, hasBb, makesB, beqD, h20, h21, h22, h23, h24, h25]
theorem v_hasA (op : Int) : C2 CC F_impl_has [iv op, .fv (.int .u8 65)] (bv (hasA op)) [] := by rw [← (hasP_all op).1]; exact v_has op 65
theorem v_hasB (op : Int) : C2 CC F_impl_has [iv op, .fv (.int .u8 66)] (bv (hasBb op)) [] := by rw [← (hasP_all op).2.1]; exact v_has op 66
theorem v_hasD (op : Int) : C2 CC F_impl_has [iv op, .fv (.int .u8 68)] (bv (makesB op)) [] := by rw [← (hasP_all op).2.2]; exact v_has op 68
def hasNb (op : Int) : Bool := op == 20
theorem hasP_N (op : Int) : hasP op 78 = hasNb op := by
  by_cases h20 : op = 20
  · subst h20; decide
  by_cases h21 : op = 21
  · subst h21; decide
  by_cases h22 : op = 22
  · subst h22; decide
  by_cases h23 : op = 23
  · subst h23; decide
  by_cases h24 : op = 24
  · subst h24; decide
  by_cases h25 : op = 25
  · subst h25; decide
  have hb : formB op = ⟨#[68, 65, 66]⟩ := by simp [formB, h20, h21, h22, h23, h24, h25]
  have i1 : hasI (byI ⟨#[68, 65, 66]⟩) 78 = false := by decide
  simp [hasP, hb, i1, hasNb, h20]
theorem v_hasN (op : Int) : C2 CC F_impl_has [iv op, .fv (.int .u8 78)] (bv (hasNb op)) [] := by rw [← hasP_N op]; exact v_has op 78
theorem v_IndexFunc_Arm (g : FuncId) (cs : List FV) (P : ArmD → Bool) (hmu : ∀ i, MU g i = 0) (hps : g ≠ 4294967295) (l : List ArmD) (hl : l.length < 4611686018427387904) (hg : ∀ x ∈ l, C2 CC g (.fv (armF x) :: cs.map .fv) (bv (P x)) []) : C2 CC F_slices_IndexFunc_impl_Arm [.fv (.row 2 (l.map armF)), .fv (.fn g [] cs)] (iv (idxP P l 0)) [] := by
  refine cw (keepF Try.f144) Try.f144 false ?_
  repeat' first | refine g0 ?_ | refine d0 ?_ | refine j0 (fun hg hgo => ?_) fun hg hgo => ?_ | refine ek_ret ?_ | refine ek_norm ?_ | refine ⟨by omega, ?_⟩ | rfl | trivial | intro _
  refine pw_loop (fun m st => ∃ j : Nat, j + m = l.length ∧ (∀ i (h : i < l.length), i < j → P l[i] = false) ∧ st = [(0, .fv (.row 2 (l.map armF))), (1, .fv (.fn g [] cs)), (7, iv l.length), (8, iv j)]) l.length [(0, .fv (.row 2 (l.map armF))), (1, .fv (.fn g [] cs)), (7, iv l.length), (8, iv (0 : Nat))] (sub_of ?_) ⟨0, by omega, fun i _ hi => by omega, rfl⟩ ?_
  · exact dn
  · rintro m st ⟨j, hj, hb, rfl⟩
    have hidx := idxP_at P l j 0 hb
    by_cases hlt : j < l.length
    · have hd : decide ((j : Int) < (l.length : Int)) = true := by rw [decide_eq_true_eq]; omega
      have hml : j < (l.map armF).length := by rw [List.length_map]; exact hlt
      have hel := hg l[j] (List.getElem_mem hlt)
      have hidx2 : idxP P l 0 = if P l[j] = true then (j : Int) else idxP P (l.drop (j + 1)) (j + 1) := by
        rw [hidx, List.drop_eq_getElem_cons hlt, idxP]; simp
      replace hb : True → _ := fun _ => hb
      repeat' first | refine ck_intro (by first | exact hel) ?_ ?_ | refine g3 @hd @hmu @hps ?_ | refine d3 @hd @hmu @hps ?_ | refine j3 @hd @hmu @hps (fun hg hgo => ?_) fun hg hgo => ?_ | refine ek_ret ?_ | refine ek_norm ?_ | refine ⟨by omega, ?_⟩ | rfl | trivial | intro _
      · rw [hidx2, if_pos (by simpa using hg)]
      · refine rd_norm [(0, .fv (.row 2 (l.map armF))), (1, .fv (.fn g [] cs)), (7, iv l.length), (8, iv (j + 1 : Nat))] (sub_of ?_) (m - 1) (by omega) ⟨j + 1, by omega, fun i hi h1 => ?_, rfl⟩
        · exact dn
        · by_cases h2 : i = j
          · subst h2; simpa using hg
          · exact hb trivial i hi (by omega)
    · have hd : decide ((j : Int) < (l.length : Int)) = false := by rw [decide_eq_false_iff_not]; omega
      have hidx2 : idxP P l 0 = -1 := by
        rw [hidx, List.drop_eq_nil_of_le (by omega)]; rfl
      repeat' first | refine g2 @hd @hidx2 ?_ | refine d2 @hd @hidx2 ?_ | refine j2 @hd @hidx2 (fun hg hgo => ?_) fun hg hgo => ?_ | refine ek_ret ?_ | refine ek_norm ?_ | refine ⟨by omega, ?_⟩ | rfl | trivial | intro _
theorem v_ContainsFunc_Arm (g : FuncId) (cs : List FV) (P : ArmD → Bool) (hmu : ∀ i, MU g i = 0) (hps : g ≠ 4294967295) (l : List ArmD) (hl : l.length < 4611686018427387904) (hg : ∀ x ∈ l, C2 CC g (.fv (armF x) :: cs.map .fv) (bv (P x)) []) : C2 CC F_slices_ContainsFunc_impl_Arm [.fv (.row 2 (l.map armF)), .fv (.fn g [] cs)] (bv (l.any P)) [] := by
  rw [← idxP_any P l]
  refine cw (keepF Try.f110) Try.f110 false ?_
  repeat' first | refine ck_intro (by first | exact v_IndexFunc_Arm g cs P hmu hps l hl hg) ?_ ?_ | refine g0 ?_ | refine d0 ?_ | refine j0 (fun hg hgo => ?_) fun hg hgo => ?_ | refine ek_ret ?_ | refine ek_norm ?_ | refine ⟨by omega, ?_⟩ | rfl | trivial | intro _
theorem v_IndexFunc_Phi (g : FuncId) (cs : List FV) (P : PhiD → Bool) (hmu : ∀ i, MU g i = 0) (hps : g ≠ 4294967295) (l : List PhiD) (hl : l.length < 4611686018427387904) (hg : ∀ x ∈ l, C2 CC g (.fv (phiF x) :: cs.map .fv) (bv (P x)) []) : C2 CC F_slices_IndexFunc_impl_Phi [.fv (.row 2 (l.map phiF)), .fv (.fn g [] cs)] (iv (idxP P l 0)) [] := by
  refine cw (keepF Try.f109) Try.f109 false ?_
  repeat' first | refine g0 ?_ | refine d0 ?_ | refine j0 (fun hg hgo => ?_) fun hg hgo => ?_ | refine ek_ret ?_ | refine ek_norm ?_ | refine ⟨by omega, ?_⟩ | rfl | trivial | intro _
  refine pw_loop (fun m st => ∃ j : Nat, j + m = l.length ∧ (∀ i (h : i < l.length), i < j → P l[i] = false) ∧ st = [(0, .fv (.row 2 (l.map phiF))), (1, .fv (.fn g [] cs)), (7, iv l.length), (8, iv j)]) l.length [(0, .fv (.row 2 (l.map phiF))), (1, .fv (.fn g [] cs)), (7, iv l.length), (8, iv (0 : Nat))] (sub_of ?_) ⟨0, by omega, fun i _ hi => by omega, rfl⟩ ?_
  · exact dn
  · rintro m st ⟨j, hj, hb, rfl⟩
    have hidx := idxP_at P l j 0 hb
    by_cases hlt : j < l.length
    · have hd : decide ((j : Int) < (l.length : Int)) = true := by rw [decide_eq_true_eq]; omega
      have hml : j < (l.map phiF).length := by rw [List.length_map]; exact hlt
      have hel := hg l[j] (List.getElem_mem hlt)
      have hidx2 : idxP P l 0 = if P l[j] = true then (j : Int) else idxP P (l.drop (j + 1)) (j + 1) := by
        rw [hidx, List.drop_eq_getElem_cons hlt, idxP]; simp
      replace hb : True → _ := fun _ => hb
      repeat' first | refine ck_intro (by first | exact hel) ?_ ?_ | refine g3 @hd @hmu @hps ?_ | refine d3 @hd @hmu @hps ?_ | refine j3 @hd @hmu @hps (fun hg hgo => ?_) fun hg hgo => ?_ | refine ek_ret ?_ | refine ek_norm ?_ | refine ⟨by omega, ?_⟩ | rfl | trivial | intro _
      · rw [hidx2, if_pos (by simpa using hg)]
      · refine rd_norm [(0, .fv (.row 2 (l.map phiF))), (1, .fv (.fn g [] cs)), (7, iv l.length), (8, iv (j + 1 : Nat))] (sub_of ?_) (m - 1) (by omega) ⟨j + 1, by omega, fun i hi h1 => ?_, rfl⟩
        · exact dn
        · by_cases h2 : i = j
          · subst h2; simpa using hg
          · exact hb trivial i hi (by omega)
    · have hd : decide ((j : Int) < (l.length : Int)) = false := by rw [decide_eq_false_iff_not]; omega
      have hidx2 : idxP P l 0 = -1 := by
        rw [hidx, List.drop_eq_nil_of_le (by omega)]; rfl
      repeat' first | refine g2 @hd @hidx2 ?_ | refine d2 @hd @hidx2 ?_ | refine j2 @hd @hidx2 (fun hg hgo => ?_) fun hg hgo => ?_ | refine ek_ret ?_ | refine ek_norm ?_ | refine ⟨by omega, ?_⟩ | rfl | trivial | intro _
theorem v_ContainsFunc_Phi (g : FuncId) (cs : List FV) (P : PhiD → Bool) (hmu : ∀ i, MU g i = 0) (hps : g ≠ 4294967295) (l : List PhiD) (hl : l.length < 4611686018427387904) (hg : ∀ x ∈ l, C2 CC g (.fv (phiF x) :: cs.map .fv) (bv (P x)) []) : C2 CC F_slices_ContainsFunc_impl_Phi [.fv (.row 2 (l.map phiF)), .fv (.fn g [] cs)] (bv (l.any P)) [] := by
  rw [← idxP_any P l]
  refine cw (keepF Try.f71) Try.f71 false ?_
  repeat' first | refine ck_intro (by first | exact v_IndexFunc_Phi g cs P hmu hps l hl hg) ?_ ?_ | refine g0 ?_ | refine d0 ?_ | refine j0 (fun hg hgo => ?_) fun hg hgo => ?_ | refine ek_ret ?_ | refine ek_norm ?_ | refine ⟨by omega, ?_⟩ | rfl | trivial | intro _
theorem v_IndexFunc_Ins (g : FuncId) (cs : List FV) (P : StepD → Bool) (hmu : ∀ i, MU g i = 0) (hps : g ≠ 4294967295) (l : List StepD) (hl : l.length < 4611686018427387904) (hg : ∀ x ∈ l, C2 CC g (.fv (stF x) :: cs.map .fv) (bv (P x)) []) : C2 CC F_slices_IndexFunc_impl_Ins [.fv (.row 5 (l.map stF)), .fv (.fn g [] cs)] (iv (idxP P l 0)) [] := by
  refine cw (keepF Try.f112) Try.f112 false ?_
  repeat' first | refine g0 ?_ | refine d0 ?_ | refine j0 (fun hg hgo => ?_) fun hg hgo => ?_ | refine ek_ret ?_ | refine ek_norm ?_ | refine ⟨by omega, ?_⟩ | rfl | trivial | intro _
  refine pw_loop (fun m st => ∃ j : Nat, j + m = l.length ∧ (∀ i (h : i < l.length), i < j → P l[i] = false) ∧ st = [(0, .fv (.row 5 (l.map stF))), (1, .fv (.fn g [] cs)), (7, iv l.length), (8, iv j)]) l.length [(0, .fv (.row 5 (l.map stF))), (1, .fv (.fn g [] cs)), (7, iv l.length), (8, iv (0 : Nat))] (sub_of ?_) ⟨0, by omega, fun i _ hi => by omega, rfl⟩ ?_
  · exact dn
  · rintro m st ⟨j, hj, hb, rfl⟩
    have hidx := idxP_at P l j 0 hb
    by_cases hlt : j < l.length
    · have hd : decide ((j : Int) < (l.length : Int)) = true := by rw [decide_eq_true_eq]; omega
      have hml : j < (l.map stF).length := by rw [List.length_map]; exact hlt
      have hel := hg l[j] (List.getElem_mem hlt)
      have hidx2 : idxP P l 0 = if P l[j] = true then (j : Int) else idxP P (l.drop (j + 1)) (j + 1) := by
        rw [hidx, List.drop_eq_getElem_cons hlt, idxP]; simp
      replace hb : True → _ := fun _ => hb
      repeat' first | refine ck_intro (by first | exact hel) ?_ ?_ | refine g3 @hd @hmu @hps ?_ | refine d3 @hd @hmu @hps ?_ | refine j3 @hd @hmu @hps (fun hg hgo => ?_) fun hg hgo => ?_ | refine ek_ret ?_ | refine ek_norm ?_ | refine ⟨by omega, ?_⟩ | rfl | trivial | intro _
      · rw [hidx2, if_pos (by simpa using hg)]
      · refine rd_norm [(0, .fv (.row 5 (l.map stF))), (1, .fv (.fn g [] cs)), (7, iv l.length), (8, iv (j + 1 : Nat))] (sub_of ?_) (m - 1) (by omega) ⟨j + 1, by omega, fun i hi h1 => ?_, rfl⟩
        · exact dn
        · by_cases h2 : i = j
          · subst h2; simpa using hg
          · exact hb trivial i hi (by omega)
    · have hd : decide ((j : Int) < (l.length : Int)) = false := by rw [decide_eq_false_iff_not]; omega
      have hidx2 : idxP P l 0 = -1 := by
        rw [hidx, List.drop_eq_nil_of_le (by omega)]; rfl
      repeat' first | refine g2 @hd @hidx2 ?_ | refine d2 @hd @hidx2 ?_ | refine j2 @hd @hidx2 (fun hg hgo => ?_) fun hg hgo => ?_ | refine ek_ret ?_ | refine ek_norm ?_ | refine ⟨by omega, ?_⟩ | rfl | trivial | intro _
theorem v_ContainsFunc_Ins (g : FuncId) (cs : List FV) (P : StepD → Bool) (hmu : ∀ i, MU g i = 0) (hps : g ≠ 4294967295) (l : List StepD) (hl : l.length < 4611686018427387904) (hg : ∀ x ∈ l, C2 CC g (.fv (stF x) :: cs.map .fv) (bv (P x)) []) : C2 CC F_slices_ContainsFunc_impl_Ins [.fv (.row 5 (l.map stF)), .fv (.fn g [] cs)] (bv (l.any P)) [] := by
  rw [← idxP_any P l]
  refine cw (keepF Try.f74) Try.f74 false ?_
  repeat' first | refine ck_intro (by first | exact v_IndexFunc_Ins g cs P hmu hps l hl hg) ?_ ?_ | refine g0 ?_ | refine d0 ?_ | refine j0 (fun hg hgo => ?_) fun hg hgo => ?_ | refine ek_ret ?_ | refine ek_norm ?_ | refine ⟨by omega, ?_⟩ | rfl | trivial | intro _
theorem v_IndexFunc_Block (g : FuncId) (cs : List FV) (P : BlockD → Bool) (hmu : ∀ i, MU g i = 0) (hps : g ≠ 4294967295) (l : List BlockD) (hl : l.length < 4611686018427387904) (hg : ∀ x ∈ l, C2 CC g (.fv (blockF x) :: cs.map .fv) (bv (P x)) []) : C2 CC F_slices_IndexFunc_impl_Block [.fv (.row 6 (l.map blockF)), .fv (.fn g [] cs)] (iv (idxP P l 0)) [] := by
  refine cw (keepF Try.f107) Try.f107 false ?_
  repeat' first | refine g0 ?_ | refine d0 ?_ | refine j0 (fun hg hgo => ?_) fun hg hgo => ?_ | refine ek_ret ?_ | refine ek_norm ?_ | refine ⟨by omega, ?_⟩ | rfl | trivial | intro _
  refine pw_loop (fun m st => ∃ j : Nat, j + m = l.length ∧ (∀ i (h : i < l.length), i < j → P l[i] = false) ∧ st = [(0, .fv (.row 6 (l.map blockF))), (1, .fv (.fn g [] cs)), (7, iv l.length), (8, iv j)]) l.length [(0, .fv (.row 6 (l.map blockF))), (1, .fv (.fn g [] cs)), (7, iv l.length), (8, iv (0 : Nat))] (sub_of ?_) ⟨0, by omega, fun i _ hi => by omega, rfl⟩ ?_
  · exact dn
  · rintro m st ⟨j, hj, hb, rfl⟩
    have hidx := idxP_at P l j 0 hb
    by_cases hlt : j < l.length
    · have hd : decide ((j : Int) < (l.length : Int)) = true := by rw [decide_eq_true_eq]; omega
      have hml : j < (l.map blockF).length := by rw [List.length_map]; exact hlt
      have hel := hg l[j] (List.getElem_mem hlt)
      have hidx2 : idxP P l 0 = if P l[j] = true then (j : Int) else idxP P (l.drop (j + 1)) (j + 1) := by
        rw [hidx, List.drop_eq_getElem_cons hlt, idxP]; simp
      replace hb : True → _ := fun _ => hb
      repeat' first | refine ck_intro (by first | exact hel) ?_ ?_ | refine g3 @hd @hmu @hps ?_ | refine d3 @hd @hmu @hps ?_ | refine j3 @hd @hmu @hps (fun hg hgo => ?_) fun hg hgo => ?_ | refine ek_ret ?_ | refine ek_norm ?_ | refine ⟨by omega, ?_⟩ | rfl | trivial | intro _
      · rw [hidx2, if_pos (by simpa using hg)]
      · refine rd_norm [(0, .fv (.row 6 (l.map blockF))), (1, .fv (.fn g [] cs)), (7, iv l.length), (8, iv (j + 1 : Nat))] (sub_of ?_) (m - 1) (by omega) ⟨j + 1, by omega, fun i hi h1 => ?_, rfl⟩
        · exact dn
        · by_cases h2 : i = j
          · subst h2; simpa using hg
          · exact hb trivial i hi (by omega)
    · have hd : decide ((j : Int) < (l.length : Int)) = false := by rw [decide_eq_false_iff_not]; omega
      have hidx2 : idxP P l 0 = -1 := by
        rw [hidx, List.drop_eq_nil_of_le (by omega)]; rfl
      repeat' first | refine g2 @hd @hidx2 ?_ | refine d2 @hd @hidx2 ?_ | refine j2 @hd @hidx2 (fun hg hgo => ?_) fun hg hgo => ?_ | refine ek_ret ?_ | refine ek_norm ?_ | refine ⟨by omega, ?_⟩ | rfl | trivial | intro _
theorem v_ContainsFunc_Block (g : FuncId) (cs : List FV) (P : BlockD → Bool) (hmu : ∀ i, MU g i = 0) (hps : g ≠ 4294967295) (l : List BlockD) (hl : l.length < 4611686018427387904) (hg : ∀ x ∈ l, C2 CC g (.fv (blockF x) :: cs.map .fv) (bv (P x)) []) : C2 CC F_slices_ContainsFunc_impl_Block [.fv (.row 6 (l.map blockF)), .fv (.fn g [] cs)] (bv (l.any P)) [] := by
  rw [← idxP_any P l]
  refine cw (keepF Try.f68) Try.f68 false ?_
  repeat' first | refine ck_intro (by first | exact v_IndexFunc_Block g cs P hmu hps l hl hg) ?_ ?_ | refine g0 ?_ | refine d0 ?_ | refine j0 (fun hg hgo => ?_) fun hg hgo => ?_ | refine ek_ret ?_ | refine ek_norm ?_ | refine ⟨by omega, ?_⟩ | rfl | trivial | intro _
def partB (n : Int) (had : Bool) (values : Int) : Bool := if had = true then valB n values else decide (n = 0)
theorem v_partOk (n : Int) (had : Bool) (values : Int) : C2 CC F_impl_partOk [iv n, bv had, iv values] (bv (partB n had values)) [] := by
  refine cw (keepF Try.f108) Try.f108 false ?_
  repeat' first | refine g0 ?_ | refine d0 ?_ | refine j0 (fun hg hgo => ?_) fun hg hgo => ?_ | refine ek_ret ?_ | refine ek_norm ?_ | refine ⟨by omega, ?_⟩ | rfl | trivial | intro _
  all_goals first | rfl | (simp_all [beqD, partB, valB]; done) | ((try simp only [partB, valB]); (repeat' split) <;> first | omega | (simp_all [beqD]; done) | (simp_all [beqD]; omega)) | (simp_all [beqD, partB, valB]; (repeat' split) <;> first | rfl | omega | (simp_all; done))
theorem insB_eq (x : StepD) (values : Int) : insB x values = (formK x.op && partB x.r (makesB x.op) values && partB x.a (hasA x.op) values && partB x.b (hasBb x.op) values && (decide (x.n = 0) || hasNb x.op)) := by
  obtain ⟨op, r, a, b, n⟩ := x
  cases hw : wok op with
  | true =>
    have hr : 1 ≤ op ∧ op ≤ 10 := by unfold wok at hw; simpa using hw
    have e20 : ¬ op = 20 := by omega
    have e21 : ¬ op = 21 := by omega
    have e22 : ¬ op = 22 := by omega
    have e23 : ¬ op = 23 := by omega
    have e24 : ¬ op = 24 := by omega
    have e25 : ¬ op = 25 := by omega
    have b20 : (op == 20) = false := by simp [e20]
    simp [b20, insB, hw, formK, partB, makesB, hasA, hasBb, hasNb, e20, e21, e22, e23, e24, e25]
  | false =>
    by_cases h20 : op = 20
    · subst h20; simp [insB, hw, formK, partB, makesB, hasA, hasBb, hasNb]
    by_cases h21 : op = 21
    · subst h21; simp [insB, hw, formK, partB, makesB, hasA, hasBb, hasNb]
    by_cases h22 : op = 22
    · subst h22; simp [insB, hw, formK, partB, makesB, hasA, hasBb, hasNb]; rw [Bool.eq_iff_iff]; simp; intros; constructor <;> (intro h; simp_all)
    by_cases h23 : op = 23
    · subst h23; simp [insB, hw, formK, partB, makesB, hasA, hasBb, hasNb]; rw [Bool.eq_iff_iff]; simp; intros; constructor <;> (intro h; simp_all)
    by_cases h24 : op = 24
    · subst h24; simp [insB, hw, formK, partB, makesB, hasA, hasBb, hasNb]
    by_cases h25 : op = 25
    · subst h25; simp [insB, hw, formK, partB, makesB, hasA, hasBb, hasNb]
    simp [insB, hw, formK, h20, h21, h22, h23, h24, h25]
theorem v_insOk (x : StepD) (values : Int) : C2 CC F_impl_insOk [sF x, iv values] (bv (insB x values)) [] := by
  rw [insB_eq]
  obtain ⟨op, r, a, b, n⟩ := x
  have cf := v_formOf op
  have cd := v_partOk r (makesB op) values
  have ca := v_partOk a (hasA op) values
  have cb := v_partOk b (hasBb op) values
  have qa := v_hasA op
  have qb := v_hasB op
  have qd := v_hasD op
  have qn := v_hasN op
  generalize formB op = fb at cf
  generalize formK op = p1 at cf
  generalize partB r (makesB op) values = p2 at cd
  generalize partB a (hasA op) values = p3 at ca
  generalize partB b (hasBb op) values = p4 at cb
  generalize hasNb op = p6 at qn
  generalize hasA op = ha at ca qa
  generalize hasBb op = hb at cb qb
  generalize makesB op = hm at cd qd
  simp only [← beqD]
  cases p1 with
  | false => refine cw (keepF Try.f76) Try.f76 false ?_
             repeat' first | refine ck_intro (by first | exact cf) ?_ ?_ | refine pdx 13 [0, 1, 3, 7, 3, 19, 51, 3, 255, 511, 1023, 2047, 4095, 2047, 10239, 26623, 2047, 131071, 262143, 524287, 1048575, 2097151, 1048575, 5242879, 13631487, 1048575, 67108863, 134217727, 268435455, 536870911, 1073741823, 2147483647, 4294967295, 8589934591, 17179869183, 34359738367, 68719476735, 137438953471, 274877906943] [0, 0, 0, 2, 0, 1, 6, 0, 5, 0, 0, 0, 2, 0, 1, 6, 0, 5, 0, 0, 0, 2, 0, 1, 6, 0, 5, 0, 0, 0, 1, 0, 0, 0, 1, 5, 0, 0, 0] ?_ | refine g0 ?_ | refine d0 ?_ | refine j0 (fun hg hgo => ?_) fun hg hgo => ?_ | refine ek_ret ?_ | refine ek_norm ?_ | refine ⟨by omega, ?_⟩ | rfl | trivial | intro _
  | true =>
    cases p2 with
    | false => refine cw (keepF Try.f76) Try.f76 false ?_
               repeat' first | refine ck_intro (by first | exact cf | exact qd | exact cd) ?_ ?_ | refine pdx 13 [0, 1, 3, 7, 3, 19, 51, 3, 255, 511, 1023, 2047, 4095, 2047, 10239, 26623, 2047, 131071, 262143, 524287, 1048575, 2097151, 1048575, 5242879, 13631487, 1048575, 67108863, 134217727, 268435455, 536870911, 1073741823, 2147483647, 4294967295, 8589934591, 17179869183, 34359738367, 68719476735, 137438953471, 274877906943] [0, 0, 0, 2, 0, 1, 6, 0, 5, 0, 0, 0, 2, 0, 1, 6, 0, 5, 0, 0, 0, 2, 0, 1, 6, 0, 5, 0, 0, 0, 1, 0, 0, 0, 1, 5, 0, 0, 0] ?_ | refine g0 ?_ | refine d0 ?_ | refine j0 (fun hg hgo => ?_) fun hg hgo => ?_ | refine ek_ret ?_ | refine ek_norm ?_ | refine ⟨by omega, ?_⟩ | rfl | trivial | intro _
    | true =>
      cases p3 with
      | false => refine cw (keepF Try.f76) Try.f76 false ?_
                 repeat' first | refine ck_intro (by first | exact cf | exact qd | exact qa | exact cd | exact ca) ?_ ?_ | refine pdx 13 [0, 1, 3, 7, 3, 19, 51, 3, 255, 511, 1023, 2047, 4095, 2047, 10239, 26623, 2047, 131071, 262143, 524287, 1048575, 2097151, 1048575, 5242879, 13631487, 1048575, 67108863, 134217727, 268435455, 536870911, 1073741823, 2147483647, 4294967295, 8589934591, 17179869183, 34359738367, 68719476735, 137438953471, 274877906943] [0, 0, 0, 2, 0, 1, 6, 0, 5, 0, 0, 0, 2, 0, 1, 6, 0, 5, 0, 0, 0, 2, 0, 1, 6, 0, 5, 0, 0, 0, 1, 0, 0, 0, 1, 5, 0, 0, 0] ?_ | refine g0 ?_ | refine d0 ?_ | refine j0 (fun hg hgo => ?_) fun hg hgo => ?_ | refine ek_ret ?_ | refine ek_norm ?_ | refine ⟨by omega, ?_⟩ | rfl | trivial | intro _
      | true =>
        cases p4 with
        | false => refine cw (keepF Try.f76) Try.f76 false ?_
                   repeat' first | refine ck_intro (by first | exact cf | exact qd | exact qa | exact qb | exact cd | exact ca | exact cb) ?_ ?_ | refine pdx 13 [0, 1, 3, 7, 3, 19, 51, 3, 255, 511, 1023, 2047, 4095, 2047, 10239, 26623, 2047, 131071, 262143, 524287, 1048575, 2097151, 1048575, 5242879, 13631487, 1048575, 67108863, 134217727, 268435455, 536870911, 1073741823, 2147483647, 4294967295, 8589934591, 17179869183, 34359738367, 68719476735, 137438953471, 274877906943] [0, 0, 0, 2, 0, 1, 6, 0, 5, 0, 0, 0, 2, 0, 1, 6, 0, 5, 0, 0, 0, 2, 0, 1, 6, 0, 5, 0, 0, 0, 1, 0, 0, 0, 1, 5, 0, 0, 0] ?_ | refine g0 ?_ | refine d0 ?_ | refine j0 (fun hg hgo => ?_) fun hg hgo => ?_ | refine ek_ret ?_ | refine ek_norm ?_ | refine ⟨by omega, ?_⟩ | rfl | trivial | intro _
        | true =>
          cases h5 : (n == 0) with
          | true => refine cw (keepF Try.f76) Try.f76 false ?_
                    repeat' first | refine ck_intro (by first | exact cf | exact qd | exact qa | exact qb | exact cd | exact ca | exact cb) ?_ ?_ | refine pdx 13 [0, 1, 3, 7, 3, 19, 51, 3, 255, 511, 1023, 2047, 4095, 2047, 10239, 26623, 2047, 131071, 262143, 524287, 1048575, 2097151, 1048575, 5242879, 13631487, 1048575, 67108863, 134217727, 268435455, 536870911, 1073741823, 2147483647, 4294967295, 8589934591, 17179869183, 34359738367, 68719476735, 137438953471, 274877906943] [0, 0, 0, 2, 0, 1, 6, 0, 5, 0, 0, 0, 2, 0, 1, 6, 0, 5, 0, 0, 0, 2, 0, 1, 6, 0, 5, 0, 0, 0, 1, 0, 0, 0, 1, 5, 0, 0, 0] ?_ | refine g1 @h5 ?_ | refine d1 @h5 ?_ | refine j1 @h5 (fun hg hgo => ?_) fun hg hgo => ?_ | refine ek_ret ?_ | refine ek_norm ?_ | refine ⟨by omega, ?_⟩ | rfl | trivial | intro _
          | false => refine cw (keepF Try.f76) Try.f76 false ?_
                     repeat' first | refine ck_intro (by first | exact cf | exact qd | exact qa | exact qb | exact qn | exact cd | exact ca | exact cb) ?_ ?_ | refine pdx 13 [0, 1, 3, 7, 3, 19, 51, 3, 255, 511, 1023, 2047, 4095, 2047, 10239, 26623, 2047, 131071, 262143, 524287, 1048575, 2097151, 1048575, 5242879, 13631487, 1048575, 67108863, 134217727, 268435455, 536870911, 1073741823, 2147483647, 4294967295, 8589934591, 17179869183, 34359738367, 68719476735, 137438953471, 274877906943] [0, 0, 0, 2, 0, 1, 6, 0, 5, 0, 0, 0, 2, 0, 1, 6, 0, 5, 0, 0, 0, 2, 0, 1, 6, 0, 5, 0, 0, 0, 1, 0, 0, 0, 1, 5, 0, 0, 0] ?_ | refine g1 @h5 ?_ | refine d1 @h5 ?_ | refine j1 @h5 (fun hg hgo => ?_) fun hg hgo => ?_ | refine ek_ret ?_ | refine ek_norm ?_ | refine ⟨by omega, ?_⟩ | rfl | trivial | intro _
theorem v_termOk (x : TermD) (blocks values : Int) (hb : 0 ≤ blocks ∧ blocks ≤ 1000000000) : C2 CC F_impl_termOk [.fv (termF x), iv blocks, iv values] (bv (termB x blocks values)) [] := by
  obtain ⟨k, a, to, els⟩ := x
  have hp : ∀ n v, partB n true v = valB n v := fun n v => by unfold partB; simp
  refine cw (keepF Try.f70) Try.f70 false ?_
  repeat' first | refine ck_intro (by first | exact v_partOk _ _ _ | exact v_in _ _ _) ?_ ?_ | refine g1 @hp ?_ | refine d1 @hp ?_ | refine j1 @hp (fun hg hgo => ?_) fun hg hgo => ?_ | refine ek_ret ?_ | refine ek_norm ?_ | refine ⟨by omega, ?_⟩ | rfl | trivial | intro _
  all_goals first | rfl | (simp_all [beqD, termB, rgB, beqT, beqF]; done) | ((try simp only [termB, rgB, beqT, beqF]); (repeat' split) <;> first | omega | (simp_all [beqD]; done) | (simp_all [beqD]; omega)) | (simp_all [beqD, termB, rgB, beqT, beqF]; (repeat' split) <;> first | rfl | omega | (simp_all; done))
theorem v_phiOk_1 (x a : ArmD) : C2 CC F_impl_phiOk_1 [.fv (armF x), .fv (.fp (armF a))] (bv (decide (x.fr = a.fr))) [] := by
  obtain ⟨f, v⟩ := x
  obtain ⟨f', v'⟩ := a
  refine cw (keepF Try.f111) Try.f111 false ?_
  repeat' first | refine g0 ?_ | refine d0 ?_ | refine j0 (fun hg hgo => ?_) fun hg hgo => ?_ | refine ek_ret ?_ | refine ek_norm ?_ | refine ⟨by omega, ?_⟩ | rfl | trivial | intro _
  all_goals first | rfl | (simp_all [beqD, beqD]; done) | ((try simp only [beqD]); (repeat' split) <;> first | omega | (simp_all [beqD]; done) | (simp_all [beqD]; omega)) | (simp_all [beqD, beqD]; (repeat' split) <;> first | rfl | omega | (simp_all; done))
theorem armB_any (pre : List ArmD) (a : ArmD) (blocks values : Int) : armB pre a blocks values = (rgB a.fr 0 (blocks - 1) && valB a.v values && !(pre.any fun x => decide (x.fr = a.fr))) := by
  unfold armB
  rw [List.not_any_eq_all_not]
theorem v_phiOk (x : PhiD) (blocks values : Int) (hb : 0 ≤ blocks ∧ blocks ≤ 1000000000) (hx : x.ok) : C2 CC F_impl_phiOk [.fv (phiF x), iv blocks, iv values] (bv (phiB x blocks values)) [] := by
  obtain ⟨d, arms⟩ := x
  replace hx : arms.length < 1073741824 := hx
  have hpt : ∀ n v, partB n true v = valB n v := fun n v => by unfold partB; simp
  unfold phiB
  refine cw (keepF Try.f73) Try.f73 false ?_
  repeat' first | refine g0 ?_ | refine d0 ?_ | refine j0 (fun hg hgo => ?_) fun hg hgo => ?_ | refine ek_ret ?_ | refine ek_norm ?_ | refine ⟨by omega, ?_⟩ | rfl | trivial | intro _
  refine pw_loop (fun m st => ∃ j : Nat, j + m = arms.length ∧ (∀ i (h : i < arms.length), i < j → armB ([] ++ arms.take i) arms[i] blocks values = true) ∧ st = [(1, iv blocks), (2, iv values), (3, .box (.fv (phiF ⟨d, arms⟩))), (10, .fv (.row 2 (arms.map armF))), (11, iv arms.length), (12, iv j)]) arms.length [(1, iv blocks), (2, iv values), (3, .box (.fv (phiF ⟨d, arms⟩))), (10, .fv (.row 2 (arms.map armF))), (11, iv arms.length), (12, iv (0 : Nat))] (sub_of ?_) ⟨0, by omega, fun i _ hi => by omega, rfl⟩ ?_
  · exact dn
  · rintro m st ⟨j, hj, hb2, rfl⟩
    have hsp := armsB_split blocks values arms [] j hb2
    by_cases hlt : j < arms.length
    · have hd : decide ((j : Int) < (arms.length : Int)) = true := by rw [decide_eq_true_eq]; omega
      have hml : j < (arms.map armF).length := by rw [List.length_map]; exact hlt
      have hsl : List.take j (arms.map armF) = (arms.take j).map armF := by rw [List.map_take]
      have hle : j ≤ arms.length := by omega
      have hj0 : (0 : Int) ≤ (j : Int) := by omega
      rw [List.nil_append, List.drop_eq_getElem_cons hlt, armsB] at hsp
      rw [hsp]
      replace hb2 : True → _ := fun _ => hb2
      have hcf := v_ContainsFunc_Arm F_impl_phiOk_1 [.fp (armF arms[j])] (fun x => decide (x.fr = arms[j].fr)) (fun i => rfl) (by decide) (arms.take j) (by rw [List.length_take]; omega) (fun x _ => v_phiOk_1 x arms[j])
      repeat' first | refine ck_intro (by first | exact v_partOk _ _ _ | exact v_in _ _ _ | exact hcf) ?_ ?_ | refine g8 @hd @hpt @hsl @hle @hj0 @Nat.zero_le @List.drop_zero.{0} @Nat.sub_zero ?_ | refine d8 @hd @hpt @hsl @hle @hj0 @Nat.zero_le @List.drop_zero.{0} @Nat.sub_zero ?_ | refine j8 @hd @hpt @hsl @hle @hj0 @Nat.zero_le @List.drop_zero.{0} @Nat.sub_zero (fun hg hgo => ?_) fun hg hgo => ?_ | refine ek_ret ?_ | refine ek_norm ?_ | refine ⟨by omega, ?_⟩ | rfl | trivial | intro _
      · have : armB (arms.take j) arms[j] blocks values = false := by
          unfold armB rgB
          rcases hgo with h | h
          · simp [h]
          · rw [decide_eq_false h]; simp
        rw [this, Bool.false_and, Bool.and_false]
      · have : armB (arms.take j) arms[j] blocks values = false := by unfold armB; simp [hgo]
        rw [this, Bool.false_and, Bool.and_false]
      · have : armB (arms.take j) arms[j] blocks values = false := by
          rw [armB_any, show ((arms.take j).any fun x => decide (x.fr = arms[j].fr)) = true by assumption]; simp
        rw [this, Bool.false_and, Bool.and_false]
      · have hq : arms[j].fr ≥ 0 ∧ arms[j].fr ≤ blocks - 1 := by assumption
        have harm : armB (arms.take j) arms[j] blocks values = true := by
          rw [armB_any, show ((arms.take j).any fun x => decide (x.fr = arms[j].fr)) = false by assumption, show valB arms[j].v values = true by assumption]
          unfold rgB
          rw [decide_eq_true hq.1, decide_eq_true hq.2]; rfl
        refine rd_norm [(1, iv blocks), (2, iv values), (3, .box (.fv (phiF ⟨d, arms⟩))), (10, .fv (.row 2 (arms.map armF))), (11, iv arms.length), (12, iv (j + 1 : Nat))] (sub_of ?_) (m - 1) (by omega) ⟨j + 1, by omega, fun i hi h1 => ?_, rfl⟩
        · exact dn
        · by_cases h2 : i = j
          · subst h2; exact harm
          · exact hb2 trivial i hi (by omega)
    · have hd : decide ((j : Int) < (arms.length : Int)) = false := by rw [decide_eq_false_iff_not]; omega
      rw [hsp, List.drop_eq_nil_of_le (by omega), armsB]
      repeat' first | refine ck_intro (by first | exact v_partOk _ _ _) ?_ ?_ | refine g2 @hd @hpt ?_ | refine d2 @hd @hpt ?_ | refine j2 @hd @hpt (fun hg hgo => ?_) fun hg hgo => ?_ | refine ek_ret ?_ | refine ek_norm ?_ | refine ⟨by omega, ?_⟩ | rfl | trivial | intro _
      all_goals first | (simp; done) | (rename_i hv _; simp [hv]; done) | (simp_all; done) | (simp_all; omega)
theorem v_ShapeOk_1_1 (p : PhiD) (n : Int) (f : FnD) (hn : 0 ≤ n ∧ n ≤ 1000000000) (hp : p.ok) : C2 CC F_impl_ShapeOk_1_1 [.fv (phiF p), .fv (.fp (.int .i64 n)), .fv (.fp (fnF f))] (bv (!phiB p n f.values)) [] := by
  have h1 := v_phiOk p n f.values hn hp
  refine cw (keepF Try.f72) Try.f72 false ?_
  repeat' first | refine ck_intro (by first | exact h1) ?_ ?_ | refine g0 ?_ | refine d0 ?_ | refine j0 (fun hg hgo => ?_) fun hg hgo => ?_ | refine ek_ret ?_ | refine ek_norm ?_ | refine ⟨by omega, ?_⟩ | rfl | trivial | intro _
theorem v_ShapeOk_1_2 (x : StepD) (f : FnD) : C2 CC F_impl_ShapeOk_1_2 [sF x, .fv (.fp (fnF f))] (bv (!insB x f.values)) [] := by
  have h1 := v_insOk x f.values
  refine cw (keepF Try.f75) Try.f75 false ?_
  repeat' first | refine ck_intro (by first | exact h1) ?_ ?_ | refine g0 ?_ | refine d0 ?_ | refine j0 (fun hg hgo => ?_) fun hg hgo => ?_ | refine ek_ret ?_ | refine ek_norm ?_ | refine ⟨by omega, ?_⟩ | rfl | trivial | intro _
theorem v_ShapeOk_1 (b : BlockD) (n : Int) (f : FnD) (hn : 0 ≤ n ∧ n ≤ 1000000000) (hb : b.ok) : C2 CC F_impl_ShapeOk_1 [.fv (blockF b), .fv (.fp (.int .i64 n)), .fv (.fp (fnF f))] (bv (!blockB b n f.values)) [] := by
  have h1 := v_termOk b.term n f.values hn
  have hc1 := v_ContainsFunc_Phi F_impl_ShapeOk_1_1 [.fp (.int .i64 n), .fp (fnF f)] (fun p => !phiB p n f.values) (fun i => rfl) (by decide) b.phis (by have := hb.1; omega) (fun p hp => v_ShapeOk_1_1 p n f hn (hb.2.1 p hp))
  have hc2 := v_ContainsFunc_Ins F_impl_ShapeOk_1_2 [.fp (fnF f)] (fun x => !insB x f.values) (fun i => rfl) (by decide) b.list (by have := hb.2.2; omega) (fun x _ => v_ShapeOk_1_2 x f)
  have e1 : (b.phis.any fun p => !phiB p n f.values) = !(b.phis.all fun p => phiB p n f.values) := by rw [List.not_all_eq_any_not]
  have e2 : (b.list.any fun x => !insB x f.values) = !(b.list.all fun x => insB x f.values) := by rw [List.not_all_eq_any_not]
  rw [e1] at hc1; rw [e2] at hc2
  unfold blockB
  have l1 : decide (b.phis.length ≤ 24) = !decide ((b.phis.length : Int) > 24) := by rw [Bool.eq_iff_iff]; simp; omega
  have l2 : decide (b.list.length ≤ 24) = !decide ((b.list.length : Int) > 24) := by rw [Bool.eq_iff_iff]; simp; omega
  rw [l1, l2]
  refine cw (keepF Try.f69) Try.f69 false ?_
  repeat' first | refine ck_intro (by first | exact h1 | exact hc1 | exact hc2) ?_ ?_ | refine g0 ?_ | refine d0 ?_ | refine j0 (fun hg hgo => ?_) fun hg hgo => ?_ | refine ek_ret ?_ | refine ek_norm ?_ | refine ⟨by omega, ?_⟩ | rfl | trivial | intro _
  all_goals first | rfl | (simp_all; done) | (simp_all; intros; omega)
theorem v_ShapeOk (f : FnD) (hf : f.ok) : C2 CC F_impl_ShapeOk [.fv (fnF f)] (bv (shapeB f)) [] := by
  have hl : f.blocks.length < 1073741824 := hf.1
  have hc1 := v_ContainsFunc_Block F_impl_ShapeOk_1 [.fp (.int .i64 f.blocks.length), .fp (fnF f)] (fun b => !blockB b f.blocks.length f.values) (fun i => rfl) (by decide) f.blocks (by omega)
  have e1 : (f.blocks.any fun b => !blockB b f.blocks.length f.values) = !(f.blocks.all fun b => blockB b f.blocks.length f.values) := by rw [List.not_all_eq_any_not]
  rw [e1] at hc1
  by_cases hn : f.blocks.length ≤ 16
  · replace hc1 := hc1 (fun b hb => v_ShapeOk_1 b f.blocks.length f ⟨by omega, by omega⟩ (hf.2 b hb))
    unfold shapeB rgB
    refine cw (keepF Try.f38) Try.f38 false ?_
    repeat' first | refine ck_intro (by first | exact v_in _ _ _ | exact hc1) ?_ ?_ | refine g0 ?_ | refine d0 ?_ | refine j0 (fun hg hgo => ?_) fun hg hgo => ?_ | refine ek_ret ?_ | refine ek_norm ?_ | refine ⟨by omega, ?_⟩ | rfl | trivial | intro _
    all_goals first | rfl | (simp_all; done) | (simp_all; intros; omega)
  · have hd : decide ((f.blocks.length : Int) ≤ 16) = false := by rw [decide_eq_false_iff_not]; omega
    unfold shapeB rgB
    refine cw (keepF Try.f38) Try.f38 false ?_
    repeat' first | refine ck_intro (by first | exact v_in _ _ _) ?_ ?_ | refine g1 @hd ?_ | refine d1 @hd ?_ | refine j1 @hd (fun hg hgo => ?_) fun hg hgo => ?_ | refine ek_ret ?_ | refine ek_norm ?_ | refine ⟨by omega, ?_⟩ | rfl | trivial | intro _
    all_goals first | rfl | (simp_all; done) | (simp_all; intros; omega)
theorem small_all {l : List Int} (h : ∀ x ∈ l, -1000 ≤ x ∧ x ≤ 1000) : l.all numOk = true := List.all_eq_true.2 fun x hx => ok_small (h x hx)
theorem arms_nums {n v : Int} (hn : n ≤ 100) (hv : v ≤ 80) : ∀ (l pre : List ArmD), armsB n v pre l = true → (l.flatMap numsA).all numOk = true
  | [], _, _ => rfl
  | a :: l, pre, h => by
    rw [armsB, Bool.and_eq_true] at h
    rw [List.flatMap_cons, List.all_append, arms_nums hn hv l _ h.2, Bool.and_true]
    have h1 := h.1
    unfold armB rgB at h1
    simp only [Bool.and_eq_true, decide_eq_true_eq] at h1
    have h2 := val_small hv h1.1.2
    exact small_all fun x hx => by
      simp only [numsA, List.mem_cons, List.not_mem_nil, or_false] at hx
      rcases hx with rfl | rfl
      · omega
      · exact h2
theorem phi_nums {p : PhiD} {n v : Int} (hn : n ≤ 100) (hv : v ≤ 80) (h : phiB p n v = true) : (numsP p).all numOk = true := by
  unfold phiB at h
  simp only [Bool.and_eq_true, decide_eq_true_eq] at h
  have h1 := val_small hv h.1.1
  rw [numsP, List.all_append, arms_nums hn hv _ _ h.2, Bool.and_true]
  exact small_all fun x hx => by
    simp only [List.mem_cons, List.not_mem_nil, or_false] at hx
    rcases hx with rfl | rfl <;> omega
theorem term_nums {t : TermD} {n v : Int} (hn : n ≤ 100) (hv : v ≤ 80) (h : termB t n v = true) : (numsT t).all numOk = true := by
  have hvs : ∀ {m : Int}, valB m v = true → 0 ≤ m ∧ m < v := fun {m} hm => by unfold valB at hm; simpa using hm
  have q : (-1000 ≤ t.kind ∧ t.kind ≤ 1000) ∧ (-1000 ≤ t.a ∧ t.a ≤ 1000) ∧ (-1000 ≤ t.to ∧ t.to ≤ 1000) ∧ (-1000 ≤ t.els ∧ t.els ≤ 1000) := by
    unfold termB rgB at h
    split at h
    · simp only [Bool.and_eq_true, decide_eq_true_eq] at h; omega
    split at h
    · simp only [Bool.and_eq_true, decide_eq_true_eq] at h
      have := hvs h.2; omega
    split at h
    · simp only [Bool.and_eq_true, decide_eq_true_eq] at h
      have := hvs h.1.1; omega
    · cases h
  exact small_all fun x hx => by
    simp only [numsT, List.mem_cons, List.not_mem_nil, or_false] at hx
    rcases hx with rfl | rfl | rfl | rfl <;> omega
theorem flat_all {α : Type} {g : α → List Int} {q : α → Bool} : ∀ {l : List α}, (∀ x ∈ l, (g x).all numOk = q x) → (l.flatMap g).all numOk = l.all q
  | [], _ => rfl
  | x :: l, h => by
    rw [List.flatMap_cons, List.all_append, List.all_cons, h x (by simp), flat_all (l := l) fun y hy => h y (by simp [hy])]
theorem all_true {α : Type} {l : List α} {q : α → Bool} (h : ∀ x ∈ l, q x = true) : l.all q = true := List.all_eq_true.2 h
theorem block_nums {b : BlockD} {n v : Int} (hn : n ≤ 100) (hv : v ≤ 80) (h : blockB b n v = true) : (numsB b).all numOk = b.list.all fun x => numOk x.n := by
  unfold blockB at h
  simp only [Bool.and_eq_true, decide_eq_true_eq] at h
  have h1 : (b.phis.flatMap numsP).all numOk = true := by
    rw [flat_all (q := fun _ => true) fun p hp => phi_nums hn hv ((List.all_eq_true.1 h.1.2) p hp)]
    exact all_true fun _ _ => rfl
  have h2 := flat_all (g := numsI) (q := fun x => numOk x.n) (l := b.list) fun x hx => ins_ok hv ((List.all_eq_true.1 h.2) x hx)
  have h3 := term_nums hn hv h.1.1.2
  have h4 : [(b.phis.length : Int)].all numOk = true := small_all fun x hx => by simp at hx; omega
  have h5 : [(b.list.length : Int)].all numOk = true := small_all fun x hx => by simp at hx; omega
  rw [numsB, List.all_append, List.all_append, List.all_append, List.all_append, h1, h2, h3, h4, h5]; simp
theorem fn_nums {f : FnD} (h : shapeB f = true) : (numsF f).all numOk = nsOk f := by
  unfold shapeB rgB at h
  simp only [Bool.and_eq_true, decide_eq_true_eq] at h
  have h1 := flat_all (g := numsB) (q := fun b => b.list.all fun x => numOk x.n) (l := f.blocks) fun b hb => block_nums (by omega) h.1.2.2 ((List.all_eq_true.1 h.2) b hb)
  have h2 : [f.values, (f.blocks.length : Int)].all numOk = true := small_all fun x hx => by simp at hx; omega
  rw [numsF, List.all_append, h1, h2, Bool.true_and]; rfl
structure RdS where
  at_ : Nat
  ok : Bool
def one (b : List Int) (s : RdS) : Int × RdS :=
  if s.ok = true then
    match unpackR b s.at_ with
    | some (n, k) => (decN n, ⟨s.at_ + k, true⟩)
    | none => (0, ⟨s.at_, false⟩)
  else (0, ⟨s.at_, false⟩)
def cnt (w : Bool) (most : Nat) (b : List Int) (s : RdS) : Nat × RdS :=
  if w = true ∧ ¬ (0 ≤ (one b s).1 ∧ (one b s).1 ≤ most) then (0, ⟨(one b s).2.at_, false⟩) else ((one b s).1.toNat, (one b s).2)
def rows {α : Type} (w : Bool) (g : RdS → α × RdS) : Nat → RdS → List α × RdS
  | 0, s => ([], s)
  | k + 1, s => if (w || s.ok) = true then ((g s).1 :: (rows w g k (g s).2).1, (rows w g k (g s).2).2) else ([], s)
structure Got (b : List Int) (s : RdS) (L : List Int) (s' : RdS) : Prop where
  ok : s.ok = true
  ok2 : s'.ok = true
  num : L.all numOk = true
  cut : b.drop s.at_ = pkL L ++ b.drop s'.at_
  at_ : s'.at_ = s.at_ + (pkL L).length
theorem unR_inv {b : List Int} {A N k : Nat} (hb : ∀ x ∈ b, 0 ≤ x ∧ x < 256) (h : unpackR b (A : Int) = some (N, k)) : 0 < k ∧ A + k ≤ b.length ∧ numOk (decN N) = true ∧ packI (decN N) = (b.drop A).take k := by
  unfold unpackR at h
  split at h
  · rename_i hin
    rw [Bool.and_eq_true, decide_eq_true_eq, decide_eq_true_eq] at hin
    rw [Int.toNat_natCast] at h
    obtain ⟨m, e1, e2, e3, e4, e5, e6⟩ := upk_inv 9 (b.drop A) 0 0 N k (fun x hx => hb x (List.mem_of_mem_drop hx)) h
    have hm : N = m := by omega
    subst hm
    obtain ⟨q1, q2⟩ := num_dec (n := N) (by omega)
    rw [List.length_drop] at e4
    exact ⟨by omega, by omega, q1, by unfold packI; rw [q2, e2]; rfl⟩
  · cases h
theorem one_cases {b : List Int} (hb : ∀ x ∈ b, 0 ≤ x ∧ x < 256) (s : RdS) : one b s = (0, ⟨s.at_, false⟩) ∨ (s.ok = true ∧ Got b s [(one b s).1] (one b s).2 ∧ s.at_ < (one b s).2.at_ ∧ (one b s).2.at_ ≤ b.length) := by
  unfold one
  by_cases hs : s.ok = true
  · rw [if_pos hs]
    cases hu : unpackR b s.at_ with
    | none => exact .inl rfl
    | some r =>
      obtain ⟨N, k⟩ := r
      obtain ⟨h1, h2, h3, h4⟩ := unR_inv hb hu
      have hp : pkL [decN N] = (b.drop s.at_).take k := by rw [pkL_cons, pkL_nil, List.append_nil, pk1, if_pos h3, h4]
      refine .inr ⟨hs, ⟨hs, rfl, by simp [h3], ?_, ?_⟩, ?_, ?_⟩
      · simp only
        rw [hp, ← List.drop_drop, List.take_append_drop]
      · simp only
        rw [hp, List.length_take, List.length_drop]; omega
      · simp only; omega
      · exact h2
  · rw [if_neg hs]; exact .inl rfl
theorem one_at {b : List Int} (hb : ∀ x ∈ b, 0 ≤ x ∧ x < 256) (s : RdS) : s.at_ ≤ (one b s).2.at_ ∧ (s.at_ ≤ b.length → (one b s).2.at_ ≤ b.length) ∧ ((one b s).2.ok = true → s.ok = true ∧ s.at_ < (one b s).2.at_) := by
  rcases one_cases hb s with h1 | h1
  · rw [h1]; exact ⟨Nat.le_refl _, id, fun h => by cases h⟩
  · exact ⟨by omega, fun _ => h1.2.2.2, fun _ => ⟨h1.1, h1.2.2.1⟩⟩
theorem cnt_at {w : Bool} {most : Nat} {b : List Int} (hb : ∀ x ∈ b, 0 ≤ x ∧ x < 256) (s : RdS) : s.at_ ≤ (cnt w most b s).2.at_ ∧ (s.at_ ≤ b.length → (cnt w most b s).2.at_ ≤ b.length) ∧ ((cnt w most b s).2.ok = true → s.ok = true ∧ s.at_ < (cnt w most b s).2.at_) := by
  have h := one_at hb s
  unfold cnt
  split
  · exact ⟨h.1, h.2.1, fun h => by cases h⟩
  · exact h
structure Goes (b : List Int) (s s' : RdS) : Prop where
  le : s.at_ ≤ s'.at_
  fit : s.at_ ≤ b.length → s'.at_ ≤ b.length
  mv : s'.ok = true → s.ok = true ∧ s.at_ < s'.at_
theorem goes_cnt {w : Bool} {most : Nat} {b : List Int} (hb : ∀ x ∈ b, 0 ≤ x ∧ x < 256) (s : RdS) : Goes b s (cnt w most b s).2 := ⟨(cnt_at hb s).1, (cnt_at hb s).2.1, (cnt_at hb s).2.2⟩
structure Stays (b : List Int) (s s' : RdS) : Prop where
  le : s.at_ ≤ s'.at_
  fit : s.at_ ≤ b.length → s'.at_ ≤ b.length
  mv : s'.ok = true → s.ok = true
theorem rows_len {α : Type} {b : List Int} {g : RdS → α × RdS} (hg : ∀ s, Goes b s (g s).2) : ∀ (k : Nat) (s : RdS), s.at_ ≤ b.length → (rows false g k s).1.length + s.at_ ≤ b.length + 1
  | 0, s, h => by rw [rows]; simp only [List.length_nil]; omega
  | k + 1, s, h => by
    rw [rows]
    split
    · have h1 := hg s
      have h2 := rows_len hg k (g s).2 (h1.fit h)
      simp only [List.length_cons]
      by_cases ho : (g s).2.ok = true
      · have := h1.mv ho; omega
      · have : (rows false g k (g s).2).1 = [] := by
          cases k with
          | zero => rfl
          | succ k => rw [rows, if_neg (by simpa using ho)]
        rw [this, List.length_nil]; omega
    · simp only [List.length_nil]; omega
theorem rows_le {α : Type} {w : Bool} {g : RdS → α × RdS} : ∀ (k : Nat) (s : RdS), (rows w g k s).1.length ≤ k
  | 0, s => Nat.le_refl _
  | k + 1, s => by
    rw [rows]
    split
    · simp only [List.length_cons]; have := rows_le (w := w) (g := g) k (g s).2; omega
    · simp
theorem cnt_le {most : Nat} {b : List Int} {s : RdS} : (cnt true most b s).1 ≤ most := by
  unfold cnt
  split
  · exact Nat.zero_le _
  · rename_i h
    have h1 : 0 ≤ (one b s).1 ∧ (one b s).1 ≤ most := Classical.byContradiction fun h2 => h ⟨rfl, h2⟩
    simp only; omega
theorem lim {w : Bool} {α : Type} {b : List Int} {g : RdS → α × RdS} (hg : ∀ s, Goes b s (g s).2) {most : Nat} {s : RdS} (hs : s.at_ ≤ b.length) (hbl : b.length ≤ 1048576) (hm : most ≤ 24) (hb : ∀ x ∈ b, 0 ≤ x ∧ x < 256) : (rows w g (cnt w most b s).1 (cnt w most b s).2).1.length ≤ 1048577 := by
  cases w with
  | true => have := rows_le (w := true) (g := g) (cnt true most b s).1 (cnt true most b s).2; have := cnt_le (most := most) (b := b) (s := s); omega
  | false => have := rows_len hg (cnt false most b s).1 (cnt false most b s).2 ((goes_cnt hb s).fit hs); omega
end Go.Proofs.YtpinapckafbkiaaM
