import Derived.Test.YtjkcliabfboecaaV8V
namespace Go.Proofs.YtjkcliabfboecaaM
open Go
open Int renaming cast_ofNat_Int → Q0, reduceLT → Q1, reduceLE → Q2, reduceGT → Q3, reduceGE → Q4, reduceEq → Q5, reduceBEq → Q6, reduceAdd → Q7, reduceSub → Q8, reduceToNat → Q9
open Nat renaming reduceShiftRight → Z0, reduceMod → Z1, reduceLT → Z2, reduceEqDiff → Z3, reduceAdd → Z4, reduceMul → Z5, reduceLeDiff → Z6, reduceBEq → Z7
open List renaming getElem?_eq_getElem → L0, length_map → L1, length_cons → L2, length_nil → L3
open Bool renaming and_eq_true → B0, or_eq_false_iff → B1, or_eq_true → B2, and_eq_false_iff → B3, not_eq_true' → B4, not_eq_false' → B5
set_option linter.unusedVariables false
set_option linter.unusedSimpArgs false
set_option maxRecDepth 100000
set_option maxHeartbeats 4000000
attribute [local irreducible] PW CK EK C2 PXM XK LX axK rdK thK blK FK SK LK AK GK CD unK TT keK
def MU (f : FuncId) (i : Nat) : Nat := match f with
  | 9 => 1
  | 12 => 1
  | 13 => 1
  | 14 => 1
  | 15 => (if i = 0 then 1 else 0)
  | 16 => (if i = 0 then 1 else 0)
  | 17 => (if i = 0 then 2 else 0)
  | 18 => (if i = 0 then 2 else 0)
  | 19 => (if i = 0 then 1 else 0)
  | 20 => 1
  | 21 => 1
  | 22 => 1
  | 23 => (if i = 0 then 2 else 0)
  | 24 => (if i = 0 then 1 else 0)
  | 25 => 1
  | 26 => 1
  | 27 => 1
  | 28 => 1
  | 29 => 1
  | 30 => (if i = 0 then 2 else 0)
  | 31 => (if i = 0 then 1 else 0)
  | 33 => 1
  | 36 => 1
  | 40 => 1
  | 43 => 1
  | 44 => (if i = 3 then 1 else 0)
  | 48 => (if i = 2 then 1 else 0)
  | 50 => (if i = 0 then 2 else 0)
  | 51 => (if i = 2 then 1 else 0)
  | 54 => 1
  | 55 => (if i = 0 then 2 else 0)
  | 56 => (if i = 0 then 1 else 0)
  | 58 => 1
  | 60 => 1
  | 65 => (if i = 2 then 1 else 0)
  | 71 => 1
  | 72 => (if i = 0 then 2 else 0)
  | 73 => (if i = 0 then 2 else 0)
  | 100 => (if i = 0 then 2 else 0)
  | _ => 0
@[go_sem] theorem mu_8 {i : Nat} : MU 8 i = 0 := nr rfl
@[go_sem] theorem mu_9 {i : Nat} : MU 9 i = 1 := nr rfl
@[go_sem] theorem mu_10 {i : Nat} : MU 10 i = 0 := nr rfl
@[go_sem] theorem mu_11 {i : Nat} : MU 11 i = 0 := nr rfl
@[go_sem] theorem mu_12 {i : Nat} : MU 12 i = 1 := nr rfl
@[go_sem] theorem mu_13 {i : Nat} : MU 13 i = 1 := nr rfl
@[go_sem] theorem mu_14 {i : Nat} : MU 14 i = 1 := nr rfl
@[go_sem] theorem mu_28 {i : Nat} : MU 28 i = 1 := nr rfl
@[go_sem] theorem mu_32 {i : Nat} : MU 32 i = 0 := nr rfl
@[go_sem] theorem mu_33 {i : Nat} : MU 33 i = 1 := nr rfl
@[go_sem] theorem mu_34 {i : Nat} : MU 34 i = 0 := nr rfl
@[go_sem] theorem mu_35 {i : Nat} : MU 35 i = 0 := nr rfl
@[go_sem] theorem mu_36 {i : Nat} : MU 36 i = 1 := nr rfl
@[go_sem] theorem mu_37 {i : Nat} : MU 37 i = 0 := nr rfl
@[go_sem] theorem mu_38 {i : Nat} : MU 38 i = 0 := nr rfl
@[go_sem] theorem mu_39 {i : Nat} : MU 39 i = 0 := nr rfl
@[go_sem] theorem mu_40 {i : Nat} : MU 40 i = 1 := nr rfl
@[go_sem] theorem mu_41 {i : Nat} : MU 41 i = 0 := nr rfl
@[go_sem] theorem mu_42 {i : Nat} : MU 42 i = 0 := nr rfl
@[go_sem] theorem mu_44 {i : Nat} : MU 44 i = (if i = 3 then 1 else 0) := nr rfl
@[go_sem] theorem mu_45 {i : Nat} : MU 45 i = 0 := nr rfl
@[go_sem] theorem mu_46 {i : Nat} : MU 46 i = 0 := nr rfl
@[go_sem] theorem mu_47 {i : Nat} : MU 47 i = 0 := nr rfl
@[go_sem] theorem mu_48 {i : Nat} : MU 48 i = (if i = 2 then 1 else 0) := nr rfl
@[go_sem] theorem mu_49 {i : Nat} : MU 49 i = 0 := nr rfl
@[go_sem] theorem mu_51 {i : Nat} : MU 51 i = (if i = 2 then 1 else 0) := nr rfl
@[go_sem] theorem mu_52 {i : Nat} : MU 52 i = 0 := nr rfl
@[go_sem] theorem mu_53 {i : Nat} : MU 53 i = 0 := nr rfl
@[go_sem] theorem mu_57 {i : Nat} : MU 57 i = 0 := nr rfl
@[go_sem] theorem mu_58 {i : Nat} : MU 58 i = 1 := nr rfl
@[go_sem] theorem mu_59 {i : Nat} : MU 59 i = 0 := nr rfl
@[go_sem] theorem mu_60 {i : Nat} : MU 60 i = 1 := nr rfl
@[go_sem] theorem mu_61 {i : Nat} : MU 61 i = 0 := nr rfl
@[go_sem] theorem mu_63 {i : Nat} : MU 63 i = 0 := nr rfl
@[go_sem] theorem mu_64 {i : Nat} : MU 64 i = 0 := nr rfl
@[go_sem] theorem mu_65 {i : Nat} : MU 65 i = (if i = 2 then 1 else 0) := nr rfl
@[go_sem] theorem mu_66 {i : Nat} : MU 66 i = 0 := nr rfl
@[go_sem] theorem mu_67 {i : Nat} : MU 67 i = 0 := nr rfl
@[go_sem] theorem mu_68 {i : Nat} : MU 68 i = 0 := nr rfl
@[go_sem] theorem mu_69 {i : Nat} : MU 69 i = 0 := nr rfl
@[go_sem] theorem mu_70 {i : Nat} : MU 70 i = 0 := nr rfl
@[go_sem] theorem mu_71 {i : Nat} : MU 71 i = 1 := nr rfl
@[go_sem] theorem mu_74 {i : Nat} : MU 74 i = 0 := nr rfl
@[go_sem] theorem mu_75 {i : Nat} : MU 75 i = 0 := nr rfl
@[go_sem] theorem mu_76 {i : Nat} : MU 76 i = 0 := nr rfl
@[go_sem] theorem mu_77 {i : Nat} : MU 77 i = 0 := nr rfl
@[go_sem] theorem mu_78 {i : Nat} : MU 78 i = 0 := nr rfl
@[go_sem] theorem mu_79 {i : Nat} : MU 79 i = 0 := nr rfl
@[go_sem] theorem mu_80 {i : Nat} : MU 80 i = 0 := nr rfl
@[go_sem] theorem mu_81 {i : Nat} : MU 81 i = 0 := nr rfl
@[go_sem] theorem mu_82 {i : Nat} : MU 82 i = 0 := nr rfl
@[go_sem] theorem mu_83 {i : Nat} : MU 83 i = 0 := nr rfl
@[go_sem] theorem mu_84 {i : Nat} : MU 84 i = 0 := nr rfl
@[go_sem] theorem mu_86 {i : Nat} : MU 86 i = 0 := nr rfl
@[go_sem] theorem mu_87 {i : Nat} : MU 87 i = 0 := nr rfl
@[go_sem] theorem mu_89 {i : Nat} : MU 89 i = 0 := nr rfl
@[go_sem] theorem mu_90 {i : Nat} : MU 90 i = 0 := nr rfl
@[go_sem] theorem mu_92 {i : Nat} : MU 92 i = 0 := nr rfl
@[go_sem] theorem mu_93 {i : Nat} : MU 93 i = 0 := nr rfl
@[go_sem] theorem mu_94 {i : Nat} : MU 94 i = 0 := nr rfl
@[go_sem] theorem mu_95 {i : Nat} : MU 95 i = 0 := nr rfl
@[go_sem] theorem mu_96 {i : Nat} : MU 96 i = 0 := nr rfl
@[go_sem] theorem mu_97 {i : Nat} : MU 97 i = 0 := nr rfl
@[go_sem] theorem mu_98 {i : Nat} : MU 98 i = 0 := nr rfl
@[go_sem] theorem mu_99 {i : Nat} : MU 99 i = 0 := nr rfl
@[go_sem] theorem mu_101 {i : Nat} : MU 101 i = 0 := nr rfl
@[go_sem] theorem mu_102 {i : Nat} : MU 102 i = 0 := nr rfl
@[go_sem] theorem mu_103 {i : Nat} : MU 103 i = 0 := nr rfl
@[go_sem] theorem mu_104 {i : Nat} : MU 104 i = 0 := nr rfl
@[go_sem] theorem mu_105 {i : Nat} : MU 105 i = 0 := nr rfl
@[go_sem] theorem mu_106 {i : Nat} : MU 106 i = 0 := nr rfl
@[go_sem] theorem mu_107 {i : Nat} : MU 107 i = 0 := nr rfl
@[go_sem] theorem mu_108 {i : Nat} : MU 108 i = 0 := nr rfl
@[go_sem] theorem mu_109 {i : Nat} : MU 109 i = 0 := nr rfl
@[go_sem] theorem mu_110 {i : Nat} : MU 110 i = 0 := nr rfl
@[go_sem] theorem mu_111 {i : Nat} : MU 111 i = 0 := nr rfl
@[go_sem] theorem mu_113 {i : Nat} : MU 113 i = 0 := nr rfl
@[go_sem] theorem mu_114 {i : Nat} : MU 114 i = 0 := nr rfl
@[go_sem] theorem mu_115 {i : Nat} : MU 115 i = 0 := nr rfl
@[go_sem] theorem mu_116 {i : Nat} : MU 116 i = 0 := nr rfl
@[go_sem] theorem mu_117 {i : Nat} : MU 117 i = 0 := nr rfl
@[go_sem] theorem mu_118 {i : Nat} : MU 118 i = 0 := nr rfl
@[go_sem] theorem mu_119 {i : Nat} : MU 119 i = 0 := nr rfl
@[go_sem] theorem mu_120 {i : Nat} : MU 120 i = 0 := nr rfl
@[go_sem] theorem mu_121 {i : Nat} : MU 121 i = 0 := nr rfl
@[go_sem] theorem mu_122 {i : Nat} : MU 122 i = 0 := nr rfl
@[go_sem] theorem mu_123 {i : Nat} : MU 123 i = 0 := nr rfl
theorem beqD {a b : Int} : (a == b) = decide (a = b) := by rw [Bool.eq_iff_iff]; simp
abbrev iv (n : Int) : DV := .fv (.int .i64 n)
abbrev bv (b : Bool) : DV := .fv (.bool b)
def I64 (n : Int) : Prop := -9223372036854775808 ≤ n ∧ n ≤ 9223372036854775807
theorem g0 { P Q : Prop} (h : Q) (e : P = Q := by simp (maxSteps := 1000000) only [go_sem, Int.cast_ofNat_Int, Int.reduceLT, Int.reduceLE, Int.reduceGT, Int.reduceGE, Int.reduceEq, Int.reduceBEq, Int.reduceAdd, Int.reduceSub, Int.reduceToNat, Nat.reduceShiftRight, Nat.reduceMod, Nat.reduceLT, Nat.reduceEqDiff, Nat.reduceAdd, Nat.reduceMul, Nat.reduceLeDiff, Nat.reduceBEq, reduceIte, List.getElem_map]; first | done | rfl) : P := (e).mpr h
theorem d0 { P Q : Prop} (h : Q) (e : P = Q := by simp (disch := first | omega | assumption) only [wrapI, ia3_hdrN, ia3_rowN, ia3_hdrI, ia3_rowI, List.getElem?_eq_getElem, List.length_map, List.length_cons, List.length_nil, List.getElem_map]; first | done | rfl) : P := (e).mpr h
theorem j0 {b : Bool} {B C D E R T : Prop} (h1 : b = true → R → D) (h2 : b = false → T → E) (r1 : b = true → R := by intro hg; (try simp only [Bool.and_eq_true, Bool.or_eq_false_iff, Bool.or_eq_true, Bool.and_eq_false_iff, Bool.not_eq_true', Bool.not_eq_false', decide_eq_true_eq, decide_eq_false_iff_not, beqT, beqF, bneT, bneF] at hg); exact hg) (r2 : b = false → T := by intro hg; (try simp only [Bool.and_eq_true, Bool.or_eq_false_iff, Bool.or_eq_true, Bool.and_eq_false_iff, Bool.not_eq_true', Bool.not_eq_false', decide_eq_true_eq, decide_eq_false_iff_not, beqT, beqF, bneT, bneF] at hg); exact hg) (e1 : b = true → B = D := by intro hg; (try simp (disch := first | omega | assumption) only [wrapI, ia3_hdrN, ia3_rowN, ia3_hdrI, ia3_rowI, List.getElem?_eq_getElem, List.length_map, List.length_cons, List.length_nil, List.getElem_map]); (try simp only [hg]); (first | simp only [eq_true (beq_iff_eq.1 hg)] | simp only [eq_false (beq_eq_false_iff_ne.1 hg)] | simp only [eq_true (of_decide_eq_true hg)] | simp only [eq_false (of_decide_eq_false hg)] | skip); (first | done | rfl)) (e2 : b = false → C = E := by intro hg; (try simp (disch := first | omega | assumption) only [wrapI, ia3_hdrN, ia3_rowN, ia3_hdrI, ia3_rowI, List.getElem?_eq_getElem, List.length_map, List.length_cons, List.length_nil, List.getElem_map]); (try simp only [hg]); (first | simp only [eq_true (beq_iff_eq.1 hg)] | simp only [eq_false (beq_eq_false_iff_ne.1 hg)] | simp only [eq_true (of_decide_eq_true hg)] | simp only [eq_false (of_decide_eq_false hg)] | skip); (first | done | rfl)) : TT b B C .mk .mk := tt_i (fun g => (e1 (tb_eq g)).mpr (h1 (tb_eq g) (r1 (tb_eq g)))) fun g => (e2 (tb_eq g)).mpr (h2 (tb_eq g) (r2 (tb_eq g)))
theorem g1 {A0 P Q : Prop} (a0 : A0) (h : Q) (e : A0 → P = Q := by intro a0; simp (maxSteps := 1000000) only [go_sem, Int.cast_ofNat_Int, Int.reduceLT, Int.reduceLE, Int.reduceGT, Int.reduceGE, Int.reduceEq, Int.reduceBEq, Int.reduceAdd, Int.reduceSub, Int.reduceToNat, Nat.reduceShiftRight, Nat.reduceMod, Nat.reduceLT, Nat.reduceEqDiff, Nat.reduceAdd, Nat.reduceMul, Nat.reduceLeDiff, Nat.reduceBEq, reduceIte, List.getElem_map, a0]; first | done | rfl) : P := (e a0).mpr h
theorem d1 {A0 P Q : Prop} (a0 : A0) (h : Q) (e : A0 → P = Q := by intro a0; simp (disch := first | omega | assumption) only [wrapI, ia3_hdrN, ia3_rowN, ia3_hdrI, ia3_rowI, List.getElem?_eq_getElem, List.length_map, List.length_cons, List.length_nil, List.getElem_map, a0]; first | done | rfl) : P := (e a0).mpr h
theorem j1 {b : Bool} {A0 B C D E R T : Prop} (a0 : A0) (h1 : b = true → R → D) (h2 : b = false → T → E) (r1 : b = true → R := by intro hg; (try simp only [Bool.and_eq_true, Bool.or_eq_false_iff, Bool.or_eq_true, Bool.and_eq_false_iff, Bool.not_eq_true', Bool.not_eq_false', decide_eq_true_eq, decide_eq_false_iff_not, beqT, beqF, bneT, bneF] at hg); exact hg) (r2 : b = false → T := by intro hg; (try simp only [Bool.and_eq_true, Bool.or_eq_false_iff, Bool.or_eq_true, Bool.and_eq_false_iff, Bool.not_eq_true', Bool.not_eq_false', decide_eq_true_eq, decide_eq_false_iff_not, beqT, beqF, bneT, bneF] at hg); exact hg) (e1 : A0 → b = true → B = D := by intro a0; intro hg; (try simp (disch := first | omega | assumption) only [wrapI, ia3_hdrN, ia3_rowN, ia3_hdrI, ia3_rowI, List.getElem?_eq_getElem, List.length_map, List.length_cons, List.length_nil, List.getElem_map, a0]); (try simp only [hg]); (first | simp only [eq_true (beq_iff_eq.1 hg)] | simp only [eq_false (beq_eq_false_iff_ne.1 hg)] | simp only [eq_true (of_decide_eq_true hg)] | simp only [eq_false (of_decide_eq_false hg)] | skip); (first | done | rfl)) (e2 : A0 → b = false → C = E := by intro a0; intro hg; (try simp (disch := first | omega | assumption) only [wrapI, ia3_hdrN, ia3_rowN, ia3_hdrI, ia3_rowI, List.getElem?_eq_getElem, List.length_map, List.length_cons, List.length_nil, List.getElem_map, a0]); (try simp only [hg]); (first | simp only [eq_true (beq_iff_eq.1 hg)] | simp only [eq_false (beq_eq_false_iff_ne.1 hg)] | simp only [eq_true (of_decide_eq_true hg)] | simp only [eq_false (of_decide_eq_false hg)] | skip); (first | done | rfl)) : TT b B C .mk .mk := tt_i (fun g => (e1 a0 (tb_eq g)).mpr (h1 (tb_eq g) (r1 (tb_eq g)))) fun g => (e2 a0 (tb_eq g)).mpr (h2 (tb_eq g) (r2 (tb_eq g)))
theorem g2 {A0 A1 P Q : Prop} (a0 : A0) (a1 : A1) (h : Q) (e : A0 → A1 → P = Q := by intro a0 a1; simp (maxSteps := 1000000) only [go_sem, Int.cast_ofNat_Int, Int.reduceLT, Int.reduceLE, Int.reduceGT, Int.reduceGE, Int.reduceEq, Int.reduceBEq, Int.reduceAdd, Int.reduceSub, Int.reduceToNat, Nat.reduceShiftRight, Nat.reduceMod, Nat.reduceLT, Nat.reduceEqDiff, Nat.reduceAdd, Nat.reduceMul, Nat.reduceLeDiff, Nat.reduceBEq, reduceIte, List.getElem_map, a0, a1]; first | done | rfl) : P := (e a0 a1).mpr h
theorem d2 {A0 A1 P Q : Prop} (a0 : A0) (a1 : A1) (h : Q) (e : A0 → A1 → P = Q := by intro a0 a1; simp (disch := first | omega | assumption) only [wrapI, ia3_hdrN, ia3_rowN, ia3_hdrI, ia3_rowI, List.getElem?_eq_getElem, List.length_map, List.length_cons, List.length_nil, List.getElem_map, a0, a1]; first | done | rfl) : P := (e a0 a1).mpr h
theorem j2 {b : Bool} {A0 A1 B C D E R T : Prop} (a0 : A0) (a1 : A1) (h1 : b = true → R → D) (h2 : b = false → T → E) (r1 : b = true → R := by intro hg; (try simp only [Bool.and_eq_true, Bool.or_eq_false_iff, Bool.or_eq_true, Bool.and_eq_false_iff, Bool.not_eq_true', Bool.not_eq_false', decide_eq_true_eq, decide_eq_false_iff_not, beqT, beqF, bneT, bneF] at hg); exact hg) (r2 : b = false → T := by intro hg; (try simp only [Bool.and_eq_true, Bool.or_eq_false_iff, Bool.or_eq_true, Bool.and_eq_false_iff, Bool.not_eq_true', Bool.not_eq_false', decide_eq_true_eq, decide_eq_false_iff_not, beqT, beqF, bneT, bneF] at hg); exact hg) (e1 : A0 → A1 → b = true → B = D := by intro a0 a1; intro hg; (try simp (disch := first | omega | assumption) only [wrapI, ia3_hdrN, ia3_rowN, ia3_hdrI, ia3_rowI, List.getElem?_eq_getElem, List.length_map, List.length_cons, List.length_nil, List.getElem_map, a0, a1]); (try simp only [hg]); (first | simp only [eq_true (beq_iff_eq.1 hg)] | simp only [eq_false (beq_eq_false_iff_ne.1 hg)] | simp only [eq_true (of_decide_eq_true hg)] | simp only [eq_false (of_decide_eq_false hg)] | skip); (first | done | rfl)) (e2 : A0 → A1 → b = false → C = E := by intro a0 a1; intro hg; (try simp (disch := first | omega | assumption) only [wrapI, ia3_hdrN, ia3_rowN, ia3_hdrI, ia3_rowI, List.getElem?_eq_getElem, List.length_map, List.length_cons, List.length_nil, List.getElem_map, a0, a1]); (try simp only [hg]); (first | simp only [eq_true (beq_iff_eq.1 hg)] | simp only [eq_false (beq_eq_false_iff_ne.1 hg)] | simp only [eq_true (of_decide_eq_true hg)] | simp only [eq_false (of_decide_eq_false hg)] | skip); (first | done | rfl)) : TT b B C .mk .mk := tt_i (fun g => (e1 a0 a1 (tb_eq g)).mpr (h1 (tb_eq g) (r1 (tb_eq g)))) fun g => (e2 a0 a1 (tb_eq g)).mpr (h2 (tb_eq g) (r2 (tb_eq g)))
theorem g3 {A0 A1 A2 P Q : Prop} (a0 : A0) (a1 : A1) (a2 : A2) (h : Q) (e : A0 → A1 → A2 → P = Q := by intro a0 a1 a2; simp (maxSteps := 1000000) only [go_sem, Int.cast_ofNat_Int, Int.reduceLT, Int.reduceLE, Int.reduceGT, Int.reduceGE, Int.reduceEq, Int.reduceBEq, Int.reduceAdd, Int.reduceSub, Int.reduceToNat, Nat.reduceShiftRight, Nat.reduceMod, Nat.reduceLT, Nat.reduceEqDiff, Nat.reduceAdd, Nat.reduceMul, Nat.reduceLeDiff, Nat.reduceBEq, reduceIte, List.getElem_map, a0, a1, a2]; first | done | rfl) : P := (e a0 a1 a2).mpr h
theorem d3 {A0 A1 A2 P Q : Prop} (a0 : A0) (a1 : A1) (a2 : A2) (h : Q) (e : A0 → A1 → A2 → P = Q := by intro a0 a1 a2; simp (disch := first | omega | assumption) only [wrapI, ia3_hdrN, ia3_rowN, ia3_hdrI, ia3_rowI, List.getElem?_eq_getElem, List.length_map, List.length_cons, List.length_nil, List.getElem_map, a0, a1, a2]; first | done | rfl) : P := (e a0 a1 a2).mpr h
theorem j3 {b : Bool} {A0 A1 A2 B C D E R T : Prop} (a0 : A0) (a1 : A1) (a2 : A2) (h1 : b = true → R → D) (h2 : b = false → T → E) (r1 : b = true → R := by intro hg; (try simp only [Bool.and_eq_true, Bool.or_eq_false_iff, Bool.or_eq_true, Bool.and_eq_false_iff, Bool.not_eq_true', Bool.not_eq_false', decide_eq_true_eq, decide_eq_false_iff_not, beqT, beqF, bneT, bneF] at hg); exact hg) (r2 : b = false → T := by intro hg; (try simp only [Bool.and_eq_true, Bool.or_eq_false_iff, Bool.or_eq_true, Bool.and_eq_false_iff, Bool.not_eq_true', Bool.not_eq_false', decide_eq_true_eq, decide_eq_false_iff_not, beqT, beqF, bneT, bneF] at hg); exact hg) (e1 : A0 → A1 → A2 → b = true → B = D := by intro a0 a1 a2; intro hg; (try simp (disch := first | omega | assumption) only [wrapI, ia3_hdrN, ia3_rowN, ia3_hdrI, ia3_rowI, List.getElem?_eq_getElem, List.length_map, List.length_cons, List.length_nil, List.getElem_map, a0, a1, a2]); (try simp only [hg]); (first | simp only [eq_true (beq_iff_eq.1 hg)] | simp only [eq_false (beq_eq_false_iff_ne.1 hg)] | simp only [eq_true (of_decide_eq_true hg)] | simp only [eq_false (of_decide_eq_false hg)] | skip); (first | done | rfl)) (e2 : A0 → A1 → A2 → b = false → C = E := by intro a0 a1 a2; intro hg; (try simp (disch := first | omega | assumption) only [wrapI, ia3_hdrN, ia3_rowN, ia3_hdrI, ia3_rowI, List.getElem?_eq_getElem, List.length_map, List.length_cons, List.length_nil, List.getElem_map, a0, a1, a2]); (try simp only [hg]); (first | simp only [eq_true (beq_iff_eq.1 hg)] | simp only [eq_false (beq_eq_false_iff_ne.1 hg)] | simp only [eq_true (of_decide_eq_true hg)] | simp only [eq_false (of_decide_eq_false hg)] | skip); (first | done | rfl)) : TT b B C .mk .mk := tt_i (fun g => (e1 a0 a1 a2 (tb_eq g)).mpr (h1 (tb_eq g) (r1 (tb_eq g)))) fun g => (e2 a0 a1 a2 (tb_eq g)).mpr (h2 (tb_eq g) (r2 (tb_eq g)))
theorem g4 {A0 A1 A2 A3 P Q : Prop} (a0 : A0) (a1 : A1) (a2 : A2) (a3 : A3) (h : Q) (e : A0 → A1 → A2 → A3 → P = Q := by intro a0 a1 a2 a3; simp (maxSteps := 1000000) only [go_sem, Int.cast_ofNat_Int, Int.reduceLT, Int.reduceLE, Int.reduceGT, Int.reduceGE, Int.reduceEq, Int.reduceBEq, Int.reduceAdd, Int.reduceSub, Int.reduceToNat, Nat.reduceShiftRight, Nat.reduceMod, Nat.reduceLT, Nat.reduceEqDiff, Nat.reduceAdd, Nat.reduceMul, Nat.reduceLeDiff, Nat.reduceBEq, reduceIte, List.getElem_map, a0, a1, a2, a3]; first | done | rfl) : P := (e a0 a1 a2 a3).mpr h
theorem d4 {A0 A1 A2 A3 P Q : Prop} (a0 : A0) (a1 : A1) (a2 : A2) (a3 : A3) (h : Q) (e : A0 → A1 → A2 → A3 → P = Q := by intro a0 a1 a2 a3; simp (disch := first | omega | assumption) only [wrapI, ia3_hdrN, ia3_rowN, ia3_hdrI, ia3_rowI, List.getElem?_eq_getElem, List.length_map, List.length_cons, List.length_nil, List.getElem_map, a0, a1, a2, a3]; first | done | rfl) : P := (e a0 a1 a2 a3).mpr h
theorem j4 {b : Bool} {A0 A1 A2 A3 B C D E R T : Prop} (a0 : A0) (a1 : A1) (a2 : A2) (a3 : A3) (h1 : b = true → R → D) (h2 : b = false → T → E) (r1 : b = true → R := by intro hg; (try simp only [Bool.and_eq_true, Bool.or_eq_false_iff, Bool.or_eq_true, Bool.and_eq_false_iff, Bool.not_eq_true', Bool.not_eq_false', decide_eq_true_eq, decide_eq_false_iff_not, beqT, beqF, bneT, bneF] at hg); exact hg) (r2 : b = false → T := by intro hg; (try simp only [Bool.and_eq_true, Bool.or_eq_false_iff, Bool.or_eq_true, Bool.and_eq_false_iff, Bool.not_eq_true', Bool.not_eq_false', decide_eq_true_eq, decide_eq_false_iff_not, beqT, beqF, bneT, bneF] at hg); exact hg) (e1 : A0 → A1 → A2 → A3 → b = true → B = D := by intro a0 a1 a2 a3; intro hg; (try simp (disch := first | omega | assumption) only [wrapI, ia3_hdrN, ia3_rowN, ia3_hdrI, ia3_rowI, List.getElem?_eq_getElem, List.length_map, List.length_cons, List.length_nil, List.getElem_map, a0, a1, a2, a3]); (try simp only [hg]); (first | simp only [eq_true (beq_iff_eq.1 hg)] | simp only [eq_false (beq_eq_false_iff_ne.1 hg)] | simp only [eq_true (of_decide_eq_true hg)] | simp only [eq_false (of_decide_eq_false hg)] | skip); (first | done | rfl)) (e2 : A0 → A1 → A2 → A3 → b = false → C = E := by intro a0 a1 a2 a3; intro hg; (try simp (disch := first | omega | assumption) only [wrapI, ia3_hdrN, ia3_rowN, ia3_hdrI, ia3_rowI, List.getElem?_eq_getElem, List.length_map, List.length_cons, List.length_nil, List.getElem_map, a0, a1, a2, a3]); (try simp only [hg]); (first | simp only [eq_true (beq_iff_eq.1 hg)] | simp only [eq_false (beq_eq_false_iff_ne.1 hg)] | simp only [eq_true (of_decide_eq_true hg)] | simp only [eq_false (of_decide_eq_false hg)] | skip); (first | done | rfl)) : TT b B C .mk .mk := tt_i (fun g => (e1 a0 a1 a2 a3 (tb_eq g)).mpr (h1 (tb_eq g) (r1 (tb_eq g)))) fun g => (e2 a0 a1 a2 a3 (tb_eq g)).mpr (h2 (tb_eq g) (r2 (tb_eq g)))
theorem g5 {A0 A1 A2 A3 A4 P Q : Prop} (a0 : A0) (a1 : A1) (a2 : A2) (a3 : A3) (a4 : A4) (h : Q) (e : A0 → A1 → A2 → A3 → A4 → P = Q := by intro a0 a1 a2 a3 a4; simp (maxSteps := 1000000) only [go_sem, Int.cast_ofNat_Int, Int.reduceLT, Int.reduceLE, Int.reduceGT, Int.reduceGE, Int.reduceEq, Int.reduceBEq, Int.reduceAdd, Int.reduceSub, Int.reduceToNat, Nat.reduceShiftRight, Nat.reduceMod, Nat.reduceLT, Nat.reduceEqDiff, Nat.reduceAdd, Nat.reduceMul, Nat.reduceLeDiff, Nat.reduceBEq, reduceIte, List.getElem_map, a0, a1, a2, a3, a4]; first | done | rfl) : P := (e a0 a1 a2 a3 a4).mpr h
theorem d5 {A0 A1 A2 A3 A4 P Q : Prop} (a0 : A0) (a1 : A1) (a2 : A2) (a3 : A3) (a4 : A4) (h : Q) (e : A0 → A1 → A2 → A3 → A4 → P = Q := by intro a0 a1 a2 a3 a4; simp (disch := first | omega | assumption) only [wrapI, ia3_hdrN, ia3_rowN, ia3_hdrI, ia3_rowI, List.getElem?_eq_getElem, List.length_map, List.length_cons, List.length_nil, List.getElem_map, a0, a1, a2, a3, a4]; first | done | rfl) : P := (e a0 a1 a2 a3 a4).mpr h
theorem j5 {b : Bool} {A0 A1 A2 A3 A4 B C D E R T : Prop} (a0 : A0) (a1 : A1) (a2 : A2) (a3 : A3) (a4 : A4) (h1 : b = true → R → D) (h2 : b = false → T → E) (r1 : b = true → R := by intro hg; (try simp only [Bool.and_eq_true, Bool.or_eq_false_iff, Bool.or_eq_true, Bool.and_eq_false_iff, Bool.not_eq_true', Bool.not_eq_false', decide_eq_true_eq, decide_eq_false_iff_not, beqT, beqF, bneT, bneF] at hg); exact hg) (r2 : b = false → T := by intro hg; (try simp only [Bool.and_eq_true, Bool.or_eq_false_iff, Bool.or_eq_true, Bool.and_eq_false_iff, Bool.not_eq_true', Bool.not_eq_false', decide_eq_true_eq, decide_eq_false_iff_not, beqT, beqF, bneT, bneF] at hg); exact hg) (e1 : A0 → A1 → A2 → A3 → A4 → b = true → B = D := by intro a0 a1 a2 a3 a4; intro hg; (try simp (disch := first | omega | assumption) only [wrapI, ia3_hdrN, ia3_rowN, ia3_hdrI, ia3_rowI, List.getElem?_eq_getElem, List.length_map, List.length_cons, List.length_nil, List.getElem_map, a0, a1, a2, a3, a4]); (try simp only [hg]); (first | simp only [eq_true (beq_iff_eq.1 hg)] | simp only [eq_false (beq_eq_false_iff_ne.1 hg)] | simp only [eq_true (of_decide_eq_true hg)] | simp only [eq_false (of_decide_eq_false hg)] | skip); (first | done | rfl)) (e2 : A0 → A1 → A2 → A3 → A4 → b = false → C = E := by intro a0 a1 a2 a3 a4; intro hg; (try simp (disch := first | omega | assumption) only [wrapI, ia3_hdrN, ia3_rowN, ia3_hdrI, ia3_rowI, List.getElem?_eq_getElem, List.length_map, List.length_cons, List.length_nil, List.getElem_map, a0, a1, a2, a3, a4]); (try simp only [hg]); (first | simp only [eq_true (beq_iff_eq.1 hg)] | simp only [eq_false (beq_eq_false_iff_ne.1 hg)] | simp only [eq_true (of_decide_eq_true hg)] | simp only [eq_false (of_decide_eq_false hg)] | skip); (first | done | rfl)) : TT b B C .mk .mk := tt_i (fun g => (e1 a0 a1 a2 a3 a4 (tb_eq g)).mpr (h1 (tb_eq g) (r1 (tb_eq g)))) fun g => (e2 a0 a1 a2 a3 a4 (tb_eq g)).mpr (h2 (tb_eq g) (r2 (tb_eq g)))
theorem g6 {A0 A1 A2 A3 A4 A5 P Q : Prop} (a0 : A0) (a1 : A1) (a2 : A2) (a3 : A3) (a4 : A4) (a5 : A5) (h : Q) (e : A0 → A1 → A2 → A3 → A4 → A5 → P = Q := by intro a0 a1 a2 a3 a4 a5; simp (maxSteps := 1000000) only [go_sem, Int.cast_ofNat_Int, Int.reduceLT, Int.reduceLE, Int.reduceGT, Int.reduceGE, Int.reduceEq, Int.reduceBEq, Int.reduceAdd, Int.reduceSub, Int.reduceToNat, Nat.reduceShiftRight, Nat.reduceMod, Nat.reduceLT, Nat.reduceEqDiff, Nat.reduceAdd, Nat.reduceMul, Nat.reduceLeDiff, Nat.reduceBEq, reduceIte, List.getElem_map, a0, a1, a2, a3, a4, a5]; first | done | rfl) : P := (e a0 a1 a2 a3 a4 a5).mpr h
theorem d6 {A0 A1 A2 A3 A4 A5 P Q : Prop} (a0 : A0) (a1 : A1) (a2 : A2) (a3 : A3) (a4 : A4) (a5 : A5) (h : Q) (e : A0 → A1 → A2 → A3 → A4 → A5 → P = Q := by intro a0 a1 a2 a3 a4 a5; simp (disch := first | omega | assumption) only [wrapI, ia3_hdrN, ia3_rowN, ia3_hdrI, ia3_rowI, List.getElem?_eq_getElem, List.length_map, List.length_cons, List.length_nil, List.getElem_map, a0, a1, a2, a3, a4, a5]; first | done | rfl) : P := (e a0 a1 a2 a3 a4 a5).mpr h
theorem j6 {b : Bool} {A0 A1 A2 A3 A4 A5 B C D E R T : Prop} (a0 : A0) (a1 : A1) (a2 : A2) (a3 : A3) (a4 : A4) (a5 : A5) (h1 : b = true → R → D) (h2 : b = false → T → E) (r1 : b = true → R := by intro hg; (try simp only [Bool.and_eq_true, Bool.or_eq_false_iff, Bool.or_eq_true, Bool.and_eq_false_iff, Bool.not_eq_true', Bool.not_eq_false', decide_eq_true_eq, decide_eq_false_iff_not, beqT, beqF, bneT, bneF] at hg); exact hg) (r2 : b = false → T := by intro hg; (try simp only [Bool.and_eq_true, Bool.or_eq_false_iff, Bool.or_eq_true, Bool.and_eq_false_iff, Bool.not_eq_true', Bool.not_eq_false', decide_eq_true_eq, decide_eq_false_iff_not, beqT, beqF, bneT, bneF] at hg); exact hg) (e1 : A0 → A1 → A2 → A3 → A4 → A5 → b = true → B = D := by intro a0 a1 a2 a3 a4 a5; intro hg; (try simp (disch := first | omega | assumption) only [wrapI, ia3_hdrN, ia3_rowN, ia3_hdrI, ia3_rowI, List.getElem?_eq_getElem, List.length_map, List.length_cons, List.length_nil, List.getElem_map, a0, a1, a2, a3, a4, a5]); (try simp only [hg]); (first | simp only [eq_true (beq_iff_eq.1 hg)] | simp only [eq_false (beq_eq_false_iff_ne.1 hg)] | simp only [eq_true (of_decide_eq_true hg)] | simp only [eq_false (of_decide_eq_false hg)] | skip); (first | done | rfl)) (e2 : A0 → A1 → A2 → A3 → A4 → A5 → b = false → C = E := by intro a0 a1 a2 a3 a4 a5; intro hg; (try simp (disch := first | omega | assumption) only [wrapI, ia3_hdrN, ia3_rowN, ia3_hdrI, ia3_rowI, List.getElem?_eq_getElem, List.length_map, List.length_cons, List.length_nil, List.getElem_map, a0, a1, a2, a3, a4, a5]); (try simp only [hg]); (first | simp only [eq_true (beq_iff_eq.1 hg)] | simp only [eq_false (beq_eq_false_iff_ne.1 hg)] | simp only [eq_true (of_decide_eq_true hg)] | simp only [eq_false (of_decide_eq_false hg)] | skip); (first | done | rfl)) : TT b B C .mk .mk := tt_i (fun g => (e1 a0 a1 a2 a3 a4 a5 (tb_eq g)).mpr (h1 (tb_eq g) (r1 (tb_eq g)))) fun g => (e2 a0 a1 a2 a3 a4 a5 (tb_eq g)).mpr (h2 (tb_eq g) (r2 (tb_eq g)))
theorem g7 {A0 A1 A2 A3 A4 A5 A6 P Q : Prop} (a0 : A0) (a1 : A1) (a2 : A2) (a3 : A3) (a4 : A4) (a5 : A5) (a6 : A6) (h : Q) (e : A0 → A1 → A2 → A3 → A4 → A5 → A6 → P = Q := by intro a0 a1 a2 a3 a4 a5 a6; simp (maxSteps := 1000000) only [go_sem, Int.cast_ofNat_Int, Int.reduceLT, Int.reduceLE, Int.reduceGT, Int.reduceGE, Int.reduceEq, Int.reduceBEq, Int.reduceAdd, Int.reduceSub, Int.reduceToNat, Nat.reduceShiftRight, Nat.reduceMod, Nat.reduceLT, Nat.reduceEqDiff, Nat.reduceAdd, Nat.reduceMul, Nat.reduceLeDiff, Nat.reduceBEq, reduceIte, List.getElem_map, a0, a1, a2, a3, a4, a5, a6]; first | done | rfl) : P := (e a0 a1 a2 a3 a4 a5 a6).mpr h
theorem g8 {A0 A1 A2 A3 A4 A5 A6 A7 P Q : Prop} (a0 : A0) (a1 : A1) (a2 : A2) (a3 : A3) (a4 : A4) (a5 : A5) (a6 : A6) (a7 : A7) (h : Q) (e : A0 → A1 → A2 → A3 → A4 → A5 → A6 → A7 → P = Q := by intro a0 a1 a2 a3 a4 a5 a6 a7; simp (maxSteps := 1000000) only [go_sem, Int.cast_ofNat_Int, Int.reduceLT, Int.reduceLE, Int.reduceGT, Int.reduceGE, Int.reduceEq, Int.reduceBEq, Int.reduceAdd, Int.reduceSub, Int.reduceToNat, Nat.reduceShiftRight, Nat.reduceMod, Nat.reduceLT, Nat.reduceEqDiff, Nat.reduceAdd, Nat.reduceMul, Nat.reduceLeDiff, Nat.reduceBEq, reduceIte, List.getElem_map, a0, a1, a2, a3, a4, a5, a6, a7]; first | done | rfl) : P := (e a0 a1 a2 a3 a4 a5 a6 a7).mpr h
theorem d8 {A0 A1 A2 A3 A4 A5 A6 A7 P Q : Prop} (a0 : A0) (a1 : A1) (a2 : A2) (a3 : A3) (a4 : A4) (a5 : A5) (a6 : A6) (a7 : A7) (h : Q) (e : A0 → A1 → A2 → A3 → A4 → A5 → A6 → A7 → P = Q := by intro a0 a1 a2 a3 a4 a5 a6 a7; simp (disch := first | omega | assumption) only [wrapI, ia3_hdrN, ia3_rowN, ia3_hdrI, ia3_rowI, List.getElem?_eq_getElem, List.length_map, List.length_cons, List.length_nil, List.getElem_map, a0, a1, a2, a3, a4, a5, a6, a7]; first | done | rfl) : P := (e a0 a1 a2 a3 a4 a5 a6 a7).mpr h
theorem j8 {b : Bool} {A0 A1 A2 A3 A4 A5 A6 A7 B C D E R T : Prop} (a0 : A0) (a1 : A1) (a2 : A2) (a3 : A3) (a4 : A4) (a5 : A5) (a6 : A6) (a7 : A7) (h1 : b = true → R → D) (h2 : b = false → T → E) (r1 : b = true → R := by intro hg; (try simp only [Bool.and_eq_true, Bool.or_eq_false_iff, Bool.or_eq_true, Bool.and_eq_false_iff, Bool.not_eq_true', Bool.not_eq_false', decide_eq_true_eq, decide_eq_false_iff_not, beqT, beqF, bneT, bneF] at hg); exact hg) (r2 : b = false → T := by intro hg; (try simp only [Bool.and_eq_true, Bool.or_eq_false_iff, Bool.or_eq_true, Bool.and_eq_false_iff, Bool.not_eq_true', Bool.not_eq_false', decide_eq_true_eq, decide_eq_false_iff_not, beqT, beqF, bneT, bneF] at hg); exact hg) (e1 : A0 → A1 → A2 → A3 → A4 → A5 → A6 → A7 → b = true → B = D := by intro a0 a1 a2 a3 a4 a5 a6 a7; intro hg; (try simp (disch := first | omega | assumption) only [wrapI, ia3_hdrN, ia3_rowN, ia3_hdrI, ia3_rowI, List.getElem?_eq_getElem, List.length_map, List.length_cons, List.length_nil, List.getElem_map, a0, a1, a2, a3, a4, a5, a6, a7]); (try simp only [hg]); (first | simp only [eq_true (beq_iff_eq.1 hg)] | simp only [eq_false (beq_eq_false_iff_ne.1 hg)] | simp only [eq_true (of_decide_eq_true hg)] | simp only [eq_false (of_decide_eq_false hg)] | skip); (first | done | rfl)) (e2 : A0 → A1 → A2 → A3 → A4 → A5 → A6 → A7 → b = false → C = E := by intro a0 a1 a2 a3 a4 a5 a6 a7; intro hg; (try simp (disch := first | omega | assumption) only [wrapI, ia3_hdrN, ia3_rowN, ia3_hdrI, ia3_rowI, List.getElem?_eq_getElem, List.length_map, List.length_cons, List.length_nil, List.getElem_map, a0, a1, a2, a3, a4, a5, a6, a7]); (try simp only [hg]); (first | simp only [eq_true (beq_iff_eq.1 hg)] | simp only [eq_false (beq_eq_false_iff_ne.1 hg)] | simp only [eq_true (of_decide_eq_true hg)] | simp only [eq_false (of_decide_eq_false hg)] | skip); (first | done | rfl)) : TT b B C .mk .mk := tt_i (fun g => (e1 a0 a1 a2 a3 a4 a5 a6 a7 (tb_eq g)).mpr (h1 (tb_eq g) (r1 (tb_eq g)))) fun g => (e2 a0 a1 a2 a3 a4 a5 a6 a7 (tb_eq g)).mpr (h2 (tb_eq g) (r2 (tb_eq g)))
theorem g9 {A0 A1 A2 A3 A4 A5 A6 A7 A8 P Q : Prop} (a0 : A0) (a1 : A1) (a2 : A2) (a3 : A3) (a4 : A4) (a5 : A5) (a6 : A6) (a7 : A7) (a8 : A8) (h : Q) (e : A0 → A1 → A2 → A3 → A4 → A5 → A6 → A7 → A8 → P = Q := by intro a0 a1 a2 a3 a4 a5 a6 a7 a8; simp (maxSteps := 1000000) only [go_sem, Int.cast_ofNat_Int, Int.reduceLT, Int.reduceLE, Int.reduceGT, Int.reduceGE, Int.reduceEq, Int.reduceBEq, Int.reduceAdd, Int.reduceSub, Int.reduceToNat, Nat.reduceShiftRight, Nat.reduceMod, Nat.reduceLT, Nat.reduceEqDiff, Nat.reduceAdd, Nat.reduceMul, Nat.reduceLeDiff, Nat.reduceBEq, reduceIte, List.getElem_map, a0, a1, a2, a3, a4, a5, a6, a7, a8]; first | done | rfl) : P := (e a0 a1 a2 a3 a4 a5 a6 a7 a8).mpr h
theorem d9 {A0 A1 A2 A3 A4 A5 A6 A7 A8 P Q : Prop} (a0 : A0) (a1 : A1) (a2 : A2) (a3 : A3) (a4 : A4) (a5 : A5) (a6 : A6) (a7 : A7) (a8 : A8) (h : Q) (e : A0 → A1 → A2 → A3 → A4 → A5 → A6 → A7 → A8 → P = Q := by intro a0 a1 a2 a3 a4 a5 a6 a7 a8; simp (disch := first | omega | assumption) only [wrapI, ia3_hdrN, ia3_rowN, ia3_hdrI, ia3_rowI, List.getElem?_eq_getElem, List.length_map, List.length_cons, List.length_nil, List.getElem_map, a0, a1, a2, a3, a4, a5, a6, a7, a8]; first | done | rfl) : P := (e a0 a1 a2 a3 a4 a5 a6 a7 a8).mpr h
theorem j9 {b : Bool} {A0 A1 A2 A3 A4 A5 A6 A7 A8 B C D E R T : Prop} (a0 : A0) (a1 : A1) (a2 : A2) (a3 : A3) (a4 : A4) (a5 : A5) (a6 : A6) (a7 : A7) (a8 : A8) (h1 : b = true → R → D) (h2 : b = false → T → E) (r1 : b = true → R := by intro hg; (try simp only [Bool.and_eq_true, Bool.or_eq_false_iff, Bool.or_eq_true, Bool.and_eq_false_iff, Bool.not_eq_true', Bool.not_eq_false', decide_eq_true_eq, decide_eq_false_iff_not, beqT, beqF, bneT, bneF] at hg); exact hg) (r2 : b = false → T := by intro hg; (try simp only [Bool.and_eq_true, Bool.or_eq_false_iff, Bool.or_eq_true, Bool.and_eq_false_iff, Bool.not_eq_true', Bool.not_eq_false', decide_eq_true_eq, decide_eq_false_iff_not, beqT, beqF, bneT, bneF] at hg); exact hg) (e1 : A0 → A1 → A2 → A3 → A4 → A5 → A6 → A7 → A8 → b = true → B = D := by intro a0 a1 a2 a3 a4 a5 a6 a7 a8; intro hg; (try simp (disch := first | omega | assumption) only [wrapI, ia3_hdrN, ia3_rowN, ia3_hdrI, ia3_rowI, List.getElem?_eq_getElem, List.length_map, List.length_cons, List.length_nil, List.getElem_map, a0, a1, a2, a3, a4, a5, a6, a7, a8]); (try simp only [hg]); (first | simp only [eq_true (beq_iff_eq.1 hg)] | simp only [eq_false (beq_eq_false_iff_ne.1 hg)] | simp only [eq_true (of_decide_eq_true hg)] | simp only [eq_false (of_decide_eq_false hg)] | skip); (first | done | rfl)) (e2 : A0 → A1 → A2 → A3 → A4 → A5 → A6 → A7 → A8 → b = false → C = E := by intro a0 a1 a2 a3 a4 a5 a6 a7 a8; intro hg; (try simp (disch := first | omega | assumption) only [wrapI, ia3_hdrN, ia3_rowN, ia3_hdrI, ia3_rowI, List.getElem?_eq_getElem, List.length_map, List.length_cons, List.length_nil, List.getElem_map, a0, a1, a2, a3, a4, a5, a6, a7, a8]); (try simp only [hg]); (first | simp only [eq_true (beq_iff_eq.1 hg)] | simp only [eq_false (beq_eq_false_iff_ne.1 hg)] | simp only [eq_true (of_decide_eq_true hg)] | simp only [eq_false (of_decide_eq_false hg)] | skip); (first | done | rfl)) : TT b B C .mk .mk := tt_i (fun g => (e1 a0 a1 a2 a3 a4 a5 a6 a7 a8 (tb_eq g)).mpr (h1 (tb_eq g) (r1 (tb_eq g)))) fun g => (e2 a0 a1 a2 a3 a4 a5 a6 a7 a8 (tb_eq g)).mpr (h2 (tb_eq g) (r2 (tb_eq g)))
theorem g10 {A0 A1 A2 A3 A4 A5 A6 A7 A8 A9 P Q : Prop} (a0 : A0) (a1 : A1) (a2 : A2) (a3 : A3) (a4 : A4) (a5 : A5) (a6 : A6) (a7 : A7) (a8 : A8) (a9 : A9) (h : Q) (e : A0 → A1 → A2 → A3 → A4 → A5 → A6 → A7 → A8 → A9 → P = Q := by intro a0 a1 a2 a3 a4 a5 a6 a7 a8 a9; simp (maxSteps := 1000000) only [go_sem, Int.cast_ofNat_Int, Int.reduceLT, Int.reduceLE, Int.reduceGT, Int.reduceGE, Int.reduceEq, Int.reduceBEq, Int.reduceAdd, Int.reduceSub, Int.reduceToNat, Nat.reduceShiftRight, Nat.reduceMod, Nat.reduceLT, Nat.reduceEqDiff, Nat.reduceAdd, Nat.reduceMul, Nat.reduceLeDiff, Nat.reduceBEq, reduceIte, List.getElem_map, a0, a1, a2, a3, a4, a5, a6, a7, a8, a9]; first | done | rfl) : P := (e a0 a1 a2 a3 a4 a5 a6 a7 a8 a9).mpr h
theorem d10 {A0 A1 A2 A3 A4 A5 A6 A7 A8 A9 P Q : Prop} (a0 : A0) (a1 : A1) (a2 : A2) (a3 : A3) (a4 : A4) (a5 : A5) (a6 : A6) (a7 : A7) (a8 : A8) (a9 : A9) (h : Q) (e : A0 → A1 → A2 → A3 → A4 → A5 → A6 → A7 → A8 → A9 → P = Q := by intro a0 a1 a2 a3 a4 a5 a6 a7 a8 a9; simp (disch := first | omega | assumption) only [wrapI, ia3_hdrN, ia3_rowN, ia3_hdrI, ia3_rowI, List.getElem?_eq_getElem, List.length_map, List.length_cons, List.length_nil, List.getElem_map, a0, a1, a2, a3, a4, a5, a6, a7, a8, a9]; first | done | rfl) : P := (e a0 a1 a2 a3 a4 a5 a6 a7 a8 a9).mpr h
theorem j10 {b : Bool} {A0 A1 A2 A3 A4 A5 A6 A7 A8 A9 B C D E R T : Prop} (a0 : A0) (a1 : A1) (a2 : A2) (a3 : A3) (a4 : A4) (a5 : A5) (a6 : A6) (a7 : A7) (a8 : A8) (a9 : A9) (h1 : b = true → R → D) (h2 : b = false → T → E) (r1 : b = true → R := by intro hg; (try simp only [Bool.and_eq_true, Bool.or_eq_false_iff, Bool.or_eq_true, Bool.and_eq_false_iff, Bool.not_eq_true', Bool.not_eq_false', decide_eq_true_eq, decide_eq_false_iff_not, beqT, beqF, bneT, bneF] at hg); exact hg) (r2 : b = false → T := by intro hg; (try simp only [Bool.and_eq_true, Bool.or_eq_false_iff, Bool.or_eq_true, Bool.and_eq_false_iff, Bool.not_eq_true', Bool.not_eq_false', decide_eq_true_eq, decide_eq_false_iff_not, beqT, beqF, bneT, bneF] at hg); exact hg) (e1 : A0 → A1 → A2 → A3 → A4 → A5 → A6 → A7 → A8 → A9 → b = true → B = D := by intro a0 a1 a2 a3 a4 a5 a6 a7 a8 a9; intro hg; (try simp (disch := first | omega | assumption) only [wrapI, ia3_hdrN, ia3_rowN, ia3_hdrI, ia3_rowI, List.getElem?_eq_getElem, List.length_map, List.length_cons, List.length_nil, List.getElem_map, a0, a1, a2, a3, a4, a5, a6, a7, a8, a9]); (try simp only [hg]); (first | simp only [eq_true (beq_iff_eq.1 hg)] | simp only [eq_false (beq_eq_false_iff_ne.1 hg)] | simp only [eq_true (of_decide_eq_true hg)] | simp only [eq_false (of_decide_eq_false hg)] | skip); (first | done | rfl)) (e2 : A0 → A1 → A2 → A3 → A4 → A5 → A6 → A7 → A8 → A9 → b = false → C = E := by intro a0 a1 a2 a3 a4 a5 a6 a7 a8 a9; intro hg; (try simp (disch := first | omega | assumption) only [wrapI, ia3_hdrN, ia3_rowN, ia3_hdrI, ia3_rowI, List.getElem?_eq_getElem, List.length_map, List.length_cons, List.length_nil, List.getElem_map, a0, a1, a2, a3, a4, a5, a6, a7, a8, a9]); (try simp only [hg]); (first | simp only [eq_true (beq_iff_eq.1 hg)] | simp only [eq_false (beq_eq_false_iff_ne.1 hg)] | simp only [eq_true (of_decide_eq_true hg)] | simp only [eq_false (of_decide_eq_false hg)] | skip); (first | done | rfl)) : TT b B C .mk .mk := tt_i (fun g => (e1 a0 a1 a2 a3 a4 a5 a6 a7 a8 a9 (tb_eq g)).mpr (h1 (tb_eq g) (r1 (tb_eq g)))) fun g => (e2 a0 a1 a2 a3 a4 a5 a6 a7 a8 a9 (tb_eq g)).mpr (h2 (tb_eq g) (r2 (tb_eq g)))
theorem cw {f : FuncId} {ds : List DV} {d : DV} {outs : List DV} {kq : Nat} {q : PC} {rs : List ResultVar} (kp : Nat) (fn : Func) (fz : Bool) (h : PW Γ E MU CC kq q (ini 0 ds) (EK Γ fz rs (eqP d outs) (cst outs))) (hF : F f = some fn := by rfl) (hb : fn.body = some (fn.body.getD .skip) := by rfl) (hp : prep (fn.body.getD .skip) = some ((prep (fn.body.getD .skip)).getD .skip) := by rfl) (hn : ds.length ≤ fn.ntmps := by exact Nat.le_of_ble_eq_true rfl) (hl : ds.length ≤ 900000 := by exact Nat.le_of_ble_eq_true rfl) (e1 : kp = kq := by conv => lhs; cbv) (e2 : (prep (fn.body.getD .skip)).getD .skip = q := by conv => lhs; cbv) (e3 : fn.results.toList = rs := by conv => lhs; cbv) : C2 CC f ds d outs := by
  subst e1; subst e2
  exact c2_fn _ fz hF hb hp hn hl e3 h
theorem cwW {f : FuncId} {ds : List DV} {d : DV} {outs : List DV} {kq : Nat} {q : PC} {rs : List ResultVar} (kp : Nat) (fn : Func) (fz : Bool) (h : PW Γ E MU CC kq q (ini 0 ds) (EK Γ fz rs (eqW d outs) (cst outs))) (hF : F f = some fn := by rfl) (hb : fn.body = some (fn.body.getD .skip) := by rfl) (hp : prep (fn.body.getD .skip) = some ((prep (fn.body.getD .skip)).getD .skip) := by rfl) (hn : ds.length ≤ fn.ntmps := by exact Nat.le_of_ble_eq_true rfl) (hl : ds.length ≤ 900000 := by exact Nat.le_of_ble_eq_true rfl) (e1 : kp = kq := by conv => lhs; cbv) (e2 : (prep (fn.body.getD .skip)).getD .skip = q := by conv => lhs; cbv) (e3 : fn.results.toList = rs := by conv => lhs; cbv) : C2 CC f ds d outs := by
  subst e1; subst e2
  exact c2_fnW _ fz hF hb hp hn hl e3 h
section
variable {MU : FuncId → Nat → Nat} {C : Rel} {kp : Nat} {Q : Ex → St → Prop} {st : St}
theorem pdx (t : Nat) {op : Op} {ty : TypeId} {pos : String} {af : Array Edge} {gd : Option (Tmp × Bool)} {rest : List Oper} (am kd : List Nat) {L : List POp} (h : OX Γ E MU C L st st (keK kp Q)) (h1 : drOk Γ ⟨⟨some t, op, ty, pos, af, gd⟩ :: rest⟩ am kd true = true := by kernel_rfl) (e : prepT kd ((prepO ⟨⟨some t, op, ty, pos, af, gd⟩ :: rest⟩ (⟨some t, op, ty, pos, af, gd⟩ :: rest)).getD []) = L := by conv => lhs; cbv) : PW Γ E MU C kp (.draw ⟨⟨some t, op, ty, pos, af, gd⟩ :: rest⟩) st Q := pw_drawX am kd h1 (e ▸ h)
theorem pd3 (t : Nat) {op : Op} {ty : TypeId} {pos : String} {af : Array Edge} {gd : Option (Tmp × Bool)} {rest : List Oper} (am kd : List Nat) (x : Bool) {L : List POp} (h : OW Γ E MU C x L st (keK kp Q)) (h1 : drOk Γ ⟨⟨some t, op, ty, pos, af, gd⟩ :: rest⟩ am kd x = true := by kernel_rfl) (e : prepT kd ((prepO ⟨⟨some t, op, ty, pos, af, gd⟩ :: rest⟩ (⟨some t, op, ty, pos, af, gd⟩ :: rest)).getD []) = L := by conv => lhs; cbv) : PW Γ E MU C kp (.draw ⟨⟨some t, op, ty, pos, af, gd⟩ :: rest⟩) st Q := pw_draw2 am kd x h1 (e ▸ h)
end
theorem dn {P : Prop} (h : P := by repeat' first | refine g0 ?_ | refine d0 ?_ | refine j0 (fun hg hgo => ?_) fun hg hgo => ?_ | refine ek_ret ?_ | refine ek_norm ?_ | refine ⟨by omega, ?_⟩ | rfl | trivial | intro _) : P := h
structure StepD where
  op : Int
  r : Int
  a : Int
  b : Int
  n : Int
  deriving DecidableEq
def StepD.wf (x : StepD) : Prop := I64 x.op ∧ I64 x.r ∧ I64 x.a ∧ I64 x.b ∧ I64 x.n
abbrev stF (s : StepD) : FV := .agg [.int .i64 s.op, .int .i64 s.r, .int .i64 s.a, .int .i64 s.b, .int .i64 s.n]
abbrev sF (s : StepD) : DV := .fv (stF s)
def ints (l : List Int) : List DV := l.map fun n => .fv (.int .i64 n)
@[go_sem] theorem nrs_ints {l : List Int} : noRefs (ints l) = true := nrs_map
@[go_sem] theorem fzL_ints {l : List Int} : fzL (ints l) = some (l.map (.int .i64)) := fzL_map
@[go_sem] theorem clDs_ints {l : List Int} : clDs (ints l) = true := clDs_map fun x => rfl
@[go_sem] theorem ints_len {l : List Int} : (ints l).length = l.length := by unfold ints; simp
structure ArmD where
  fr : Int
  v : Int
  deriving DecidableEq
structure PhiD where
  d : Int
  arms : List ArmD
  deriving DecidableEq
structure TermD where
  kind : Int
  a : Int
  to : Int
  els : Int
  deriving DecidableEq
structure BlockD where
  phis : List PhiD
  list : List StepD
  term : TermD
  deriving DecidableEq
structure FnD where
  blocks : List BlockD
  values : Int
  deriving DecidableEq
def PhiD.ok (p : PhiD) : Prop := p.arms.length < 1073741824
def BlockD.ok (b : BlockD) : Prop := b.phis.length < 1073741824 ∧ (∀ p ∈ b.phis, p.ok) ∧ b.list.length < 1073741824
def FnD.ok (f : FnD) : Prop := f.blocks.length < 1073741824 ∧ ∀ b ∈ f.blocks, b.ok
abbrev armF (x : ArmD) : FV := .agg [.int .i64 x.fr, .int .i64 x.v]
abbrev phiF (x : PhiD) : FV := .agg [.int .i64 x.d, .row 2 (x.arms.map armF)]
abbrev termF (x : TermD) : FV := .agg [.int .i64 x.kind, .int .i64 x.a, .int .i64 x.to, .int .i64 x.els]
abbrev blockF (x : BlockD) : FV := .agg [.row 2 (x.phis.map phiF), .row 5 (x.list.map stF), termF x.term]
abbrev fnF (x : FnD) : FV := .agg [.row 6 (x.blocks.map blockF), .int .i64 x.values]
def rowD {α : Type} (o : α → DV) (l : List α) : List DV := l.map o
abbrev armO (x : ArmD) : DV := .fv (armF x)
abbrev phiO (x : PhiD) : DV := .agg [iv x.d, .own 2 (rowD armO x.arms)]
abbrev blockO (x : BlockD) : DV := .agg [.own 2 (rowD phiO x.phis), .own 5 (rowD sF x.list), .fv (termF x.term)]
abbrev fnO (x : FnD) : DV := .agg [.own 6 (rowD blockO x.blocks), iv x.values]
def bld {α : Type} (o : α → DV) (z : DV) (j : Nat) (l : List α) : List DV := (l.take j).map o ++ List.replicate (l.length - j) z
theorem bld_0 {α : Type} {o : α → DV} {z : DV} {l : List α} : bld o z 0 l = List.replicate l.length z := by unfold bld; simp
theorem bld_n {α : Type} {o : α → DV} {z : DV} {l : List α} : bld o z l.length l = rowD o l := by unfold bld rowD; simp
theorem bld_len {α : Type} {o : α → DV} {z : DV} {l : List α} {j : Nat} (h : j ≤ l.length) : (bld o z j l).length = l.length := by unfold bld; simp; omega
theorem bld_set {α : Type} {o : α → DV} {z : DV} {l : List α} {j : Nat} (h : j < l.length) : (bld o z j l).set j (o l[j]) = bld o z (j + 1) l := by
  unfold bld
  have e : l.length - j = (l.length - (j + 1)) + 1 := by omega
  rw [List.set_append_right _ _ (by simp; omega), e, List.replicate_succ]
  simp only [List.length_map, List.length_take, Nat.min_eq_left (Nat.le_of_lt h), Nat.sub_self, List.set_cons_zero]
  rw [List.take_succ_eq_append_getElem h, List.map_append, List.append_assoc]; rfl
theorem bld_get {α : Type} {o : α → DV} {z : DV} {l : List α} {j : Nat} (h : j < l.length) : (bld o z j l)[j]? = some z := by
  unfold bld
  rw [List.getElem?_append_right (by simp; omega)]
  simp only [List.length_map, List.length_take, Nat.min_eq_left (Nat.le_of_lt h), Nat.sub_self]
  rw [List.getElem?_replicate, if_pos (by omega)]
theorem nrs_rowD {α : Type} {o : α → DV} {l : List α} (h : ∀ x, noRef (o x) = true) : noRefs (rowD o l) = true := by
  unfold rowD
  induction l with
  | nil => rfl
  | cons a l ih => rw [List.map_cons, nrs_cons, h a, ih]; rfl
theorem nrs_bld {α : Type} {o : α → DV} {z : DV} {l : List α} {j : Nat} (h : ∀ x, noRef (o x) = true) (hz : noRef z = true) : noRefs (bld o z j l) = true := by
  unfold bld
  rw [nrs_app]
  have h1 := nrs_rowD (l := l.take j) h
  unfold rowD at h1
  rw [h1]
  have : ∀ n : Nat, noRefs (List.replicate n z) = true := fun n => by
    induction n with
    | zero => rfl
    | succ n ih => rw [List.replicate_succ, nrs_cons, hz, ih]; rfl
  rw [this]; rfl
@[go_sem] theorem nr_armO {x : ArmD} : noRef (.fv (armF x)) = true := rfl
@[go_sem] theorem nrs_arms {l : List ArmD} : noRefs (rowD armO l) = true := nrs_rowD fun _ => rfl
@[go_sem] theorem nr_phiO {x : PhiD} : noRef (phiO x) = true := by
  show noRef (.agg _) = true; rw [nr_agg, nrs_cons, nrs_cons, nr_own, nrs_arms]; rfl
@[go_sem] theorem nrs_phis {l : List PhiD} : noRefs (rowD phiO l) = true := nrs_rowD fun _ => nr_phiO
@[go_sem] theorem nrs_ins {l : List StepD} : noRefs (rowD sF l) = true := nrs_rowD fun _ => rfl
@[go_sem] theorem nr_blockO {x : BlockD} : noRef (blockO x) = true := by
  show noRef (.agg _) = true; rw [nr_agg, nrs_cons, nrs_cons, nrs_cons, nr_own, nr_own, nrs_phis, nrs_ins]; rfl
@[go_sem] theorem nrs_blocks {l : List BlockD} : noRefs (rowD blockO l) = true := nrs_rowD fun _ => nr_blockO
@[go_sem] theorem rowD_len {α : Type} {o : α → DV} {l : List α} : (rowD o l).length = l.length := by unfold rowD; simp
theorem v_toArm (x : ArmD) : C2 CC F_laws_toArm [.fv (armF x)] (.fv (armF x)) [] := by
  obtain ⟨a, b⟩ := x
  refine cw (keepF Try.f122) Try.f122 false ?_
  repeat' first | refine g0 ?_ | refine d0 ?_ | refine j0 (fun hg hgo => ?_) fun hg hgo => ?_ | refine ek_ret ?_ | refine ek_norm ?_ | refine ⟨by omega, ?_⟩ | rfl | trivial | intro _
theorem v_toTerm (x : TermD) : C2 CC F_laws_toTerm [.fv (termF x)] (.fv (termF x)) [] := by
  obtain ⟨a, b, c, d⟩ := x
  refine cw (keepF Try.f84) Try.f84 false ?_
  repeat' first | refine g0 ?_ | refine d0 ?_ | refine j0 (fun hg hgo => ?_) fun hg hgo => ?_ | refine ek_ret ?_ | refine ek_norm ?_ | refine ⟨by omega, ?_⟩ | rfl | trivial | intro _
theorem list_ne {α : Type} {l1 l2 : List α} {j : Nat} (h1 : j < l1.length) (h2 : j < l2.length) (h : l1[j] ≠ l2[j]) : l1 ≠ l2 := fun e => by subst e; exact h rfl
theorem v_eqArm (x y : ArmD) : C2 CC F_laws_eqArm [.fv (armF x), .fv (armF y)] (bv (decide (x = y))) [] := by
  obtain ⟨a, b⟩ := x
  obtain ⟨a', b'⟩ := y
  have hd : decide ((⟨a, b⟩ : ArmD) = ⟨a', b'⟩) = (decide (a = a') && decide (b = b')) := by
    rw [Bool.eq_iff_iff]; simp
  rw [hd]
  refine cw (keepF Try.f123) Try.f123 false ?_
  repeat' first | refine g0 ?_ | refine d0 ?_ | refine j0 (fun hg hgo => ?_) fun hg hgo => ?_ | refine ek_ret ?_ | refine ek_norm ?_ | refine ⟨by omega, ?_⟩ | rfl | trivial | intro _
  all_goals first | rfl | (simp_all [beqD, bneT, bneF]; done) | ((try simp only [bneT, bneF]); (repeat' split) <;> first | omega | (simp_all [beqD]; done) | (simp_all [beqD]; omega)) | (simp_all [beqD, bneT, bneF]; (repeat' split) <;> first | rfl | omega | (simp_all; done))
theorem v_eqIns (x y : StepD) : C2 CC F_laws_eqIns [sF x, sF y] (bv (decide (x = y))) [] := by
  obtain ⟨op, r, a, b, n⟩ := x
  obtain ⟨op', r', a', b', n'⟩ := y
  have hd : decide ((⟨op, r, a, b, n⟩ : StepD) = ⟨op', r', a', b', n'⟩) = (decide (op = op') && decide (r = r') && decide (a = a') && decide (b = b') && decide (n = n')) := by
    rw [Bool.eq_iff_iff]; simp; simp only [and_assoc]
  rw [hd]
  refine cw (keepF Try.f115) Try.f115 false ?_
  repeat' first | refine g0 ?_ | refine d0 ?_ | refine j0 (fun hg hgo => ?_) fun hg hgo => ?_ | refine ek_ret ?_ | refine ek_norm ?_ | refine ⟨by omega, ?_⟩ | rfl | trivial | intro _
  all_goals first | rfl | (simp_all [beqD, bneT, bneF]; done) | ((try simp only [bneT, bneF]); (repeat' split) <;> first | omega | (simp_all [beqD]; done) | (simp_all [beqD]; omega)) | (simp_all [beqD, bneT, bneF]; (repeat' split) <;> first | rfl | omega | (simp_all; done))
theorem v_eqTerm (x y : TermD) : C2 CC F_laws_eqTerm [.fv (termF x), .fv (termF y)] (bv (decide (x = y))) [] := by
  obtain ⟨r, a, b, n⟩ := x
  obtain ⟨r', a', b', n'⟩ := y
  have hd : decide ((⟨r, a, b, n⟩ : TermD) = ⟨r', a', b', n'⟩) = (decide (r = r') && decide (a = a') && decide (b = b') && decide (n = n')) := by
    rw [Bool.eq_iff_iff]; simp; simp only [and_assoc]
  rw [hd]
  refine cw (keepF Try.f96) Try.f96 false ?_
  repeat' first | refine g0 ?_ | refine d0 ?_ | refine j0 (fun hg hgo => ?_) fun hg hgo => ?_ | refine ek_ret ?_ | refine ek_norm ?_ | refine ⟨by omega, ?_⟩ | rfl | trivial | intro _
  all_goals first | rfl | (simp_all [beqD, bneT, bneF]; done) | ((try simp only [bneT, bneF]); (repeat' split) <;> first | omega | (simp_all [beqD]; done) | (simp_all [beqD]; omega)) | (simp_all [beqD, bneT, bneF]; (repeat' split) <;> first | rfl | omega | (simp_all; done))
theorem v_eqArmS (l1 l2 : List ArmD) (hn1 : l1.length < 1073741824) (hn2 : l2.length < 1073741824) (hb1 : ∀ x ∈ l1, True) (hb2 : ∀ x ∈ l2, True) : C2 CC F_laws_eqArmS [.fv (.row 2 (l1.map armF)), .fv (.row 2 (l2.map armF))] (bv (decide (l1 = l2))) [] := by
  refine cw (keepF Try.f121) Try.f121 false ?_
  repeat' first | refine pd3 17 [0, 0, 3, 7, 0, 0, 48, 112, 255, 511] [0, 0, 0, 1, 0, 0, 0, 1, 5, 0] false ?_ | refine g0 ?_ | refine d0 ?_ | refine j0 (fun hg hgo => ?_) fun hg hgo => ?_ | refine ek_ret ?_ | refine ek_norm ?_ | refine ⟨by omega, ?_⟩ | rfl | trivial | intro _
  · have : l1 ≠ l2 := fun e => by subst e; simp at hg
    simp [this]
  · have hlen : l1.length = l2.length := by have := hg; simp at this; omega
    refine pw_loop (fun m st => ∃ j : Nat, j + m = l1.length ∧ (∀ i (h1 : i < l1.length) (h2 : i < l2.length), i < j → l1[i] = l2[i]) ∧ st = [(0, .fv (.row 2 (l1.map armF))), (1, .fv (.row 2 (l2.map armF))), (5, iv j)]) l1.length [(0, .fv (.row 2 (l1.map armF))), (1, .fv (.row 2 (l2.map armF))), (5, iv (0 : Nat))] (sub_of ?_) ⟨0, by omega, fun i _ _ hi => by omega, rfl⟩ ?_
    · exact dn
    · rintro m st ⟨j, hj, hb, rfl⟩
      by_cases hlt : j < l1.length
      · have hd : decide ((j : Int) < (l1.length : Int)) = true := by rw [decide_eq_true_eq]; omega
        have hlt2 : j < l2.length := by omega
        have hm1 : j < (l1.map armF).length := by rw [List.length_map]; exact hlt
        have hm2 : j < (l2.map armF).length := by rw [List.length_map]; exact hlt2
        replace hb : True → _ := fun _ => hb
        have hel := v_eqArm l1[j] l2[j]
        repeat' first | refine ck_intro (by first | exact hel) ?_ ?_ | refine pd3 17 [0, 0, 3, 7, 0, 0, 48, 112, 255, 511] [0, 0, 0, 1, 0, 0, 0, 1, 5, 0] false ?_ | refine g1 @hd ?_ | refine d1 @hd ?_ | refine j1 @hd (fun hg hgo => ?_) fun hg hgo => ?_ | refine ek_ret ?_ | refine ek_norm ?_ | refine ⟨by omega, ?_⟩ | rfl | trivial | intro _
        · simp [list_ne hlt hlt2 hgo]
        · refine rd_norm [(0, .fv (.row 2 (l1.map armF))), (1, .fv (.row 2 (l2.map armF))), (5, iv (j + 1 : Nat))] (sub_of ?_) (m - 1) (by omega) ⟨j + 1, by omega, fun i q1 q2 hi => ?_, rfl⟩
          · exact dn
          · by_cases hij : i = j
            · subst hij; exact hgo
            · exact hb trivial i q1 q2 (by omega)
      · have hd : decide ((j : Int) < (l1.length : Int)) = false := by rw [decide_eq_false_iff_not]; omega
        have hq : decide (l1 = l2) = true := by rw [decide_eq_true_eq]; exact List.ext_getElem hlen fun i q1 q2 => hb i q1 q2 (by omega)
        repeat' first | refine pd3 17 [0, 0, 3, 7, 0, 0, 48, 112, 255, 511] [0, 0, 0, 1, 0, 0, 0, 1, 5, 0] false ?_ | refine g2 @hd @hq ?_ | refine d2 @hd @hq ?_ | refine j2 @hd @hq (fun hg hgo => ?_) fun hg hgo => ?_ | refine ek_ret ?_ | refine ek_norm ?_ | refine ⟨by omega, ?_⟩ | rfl | trivial | intro _
theorem v_eqInsS (l1 l2 : List StepD) (hn1 : l1.length < 1073741824) (hn2 : l2.length < 1073741824) (hb1 : ∀ x ∈ l1, True) (hb2 : ∀ x ∈ l2, True) : C2 CC F_laws_eqInsS [.fv (.row 5 (l1.map stF)), .fv (.row 5 (l2.map stF))] (bv (decide (l1 = l2))) [] := by
  refine cw (keepF Try.f95) Try.f95 false ?_
  repeat' first | refine pd3 17 [0, 0, 3, 7, 0, 0, 48, 112, 255, 511] [0, 0, 0, 1, 0, 0, 0, 1, 5, 0] false ?_ | refine g0 ?_ | refine d0 ?_ | refine j0 (fun hg hgo => ?_) fun hg hgo => ?_ | refine ek_ret ?_ | refine ek_norm ?_ | refine ⟨by omega, ?_⟩ | rfl | trivial | intro _
  · have : l1 ≠ l2 := fun e => by subst e; simp at hg
    simp [this]
  · have hlen : l1.length = l2.length := by have := hg; simp at this; omega
    refine pw_loop (fun m st => ∃ j : Nat, j + m = l1.length ∧ (∀ i (h1 : i < l1.length) (h2 : i < l2.length), i < j → l1[i] = l2[i]) ∧ st = [(0, .fv (.row 5 (l1.map stF))), (1, .fv (.row 5 (l2.map stF))), (5, iv j)]) l1.length [(0, .fv (.row 5 (l1.map stF))), (1, .fv (.row 5 (l2.map stF))), (5, iv (0 : Nat))] (sub_of ?_) ⟨0, by omega, fun i _ _ hi => by omega, rfl⟩ ?_
    · exact dn
    · rintro m st ⟨j, hj, hb, rfl⟩
      by_cases hlt : j < l1.length
      · have hd : decide ((j : Int) < (l1.length : Int)) = true := by rw [decide_eq_true_eq]; omega
        have hlt2 : j < l2.length := by omega
        have hm1 : j < (l1.map stF).length := by rw [List.length_map]; exact hlt
        have hm2 : j < (l2.map stF).length := by rw [List.length_map]; exact hlt2
        replace hb : True → _ := fun _ => hb
        have hel := v_eqIns l1[j] l2[j]
        repeat' first | refine ck_intro (by first | exact hel) ?_ ?_ | refine pd3 17 [0, 0, 3, 7, 0, 0, 48, 112, 255, 511] [0, 0, 0, 1, 0, 0, 0, 1, 5, 0] false ?_ | refine g1 @hd ?_ | refine d1 @hd ?_ | refine j1 @hd (fun hg hgo => ?_) fun hg hgo => ?_ | refine ek_ret ?_ | refine ek_norm ?_ | refine ⟨by omega, ?_⟩ | rfl | trivial | intro _
        · simp [list_ne hlt hlt2 hgo]
        · refine rd_norm [(0, .fv (.row 5 (l1.map stF))), (1, .fv (.row 5 (l2.map stF))), (5, iv (j + 1 : Nat))] (sub_of ?_) (m - 1) (by omega) ⟨j + 1, by omega, fun i q1 q2 hi => ?_, rfl⟩
          · exact dn
          · by_cases hij : i = j
            · subst hij; exact hgo
            · exact hb trivial i q1 q2 (by omega)
      · have hd : decide ((j : Int) < (l1.length : Int)) = false := by rw [decide_eq_false_iff_not]; omega
        have hq : decide (l1 = l2) = true := by rw [decide_eq_true_eq]; exact List.ext_getElem hlen fun i q1 q2 => hb i q1 q2 (by omega)
        repeat' first | refine pd3 17 [0, 0, 3, 7, 0, 0, 48, 112, 255, 511] [0, 0, 0, 1, 0, 0, 0, 1, 5, 0] false ?_ | refine g2 @hd @hq ?_ | refine d2 @hd @hq ?_ | refine j2 @hd @hq (fun hg hgo => ?_) fun hg hgo => ?_ | refine ek_ret ?_ | refine ek_norm ?_ | refine ⟨by omega, ?_⟩ | rfl | trivial | intro _
theorem v_eqPhi (x y : PhiD) (hx : x.ok) (hy : y.ok) : C2 CC F_laws_eqPhi [.fv (phiF x), .fv (phiF y)] (bv (decide (x = y))) [] := by
  obtain ⟨d, l⟩ := x
  obtain ⟨d', l'⟩ := y
  have hd : decide ((⟨d, l⟩ : PhiD) = ⟨d', l'⟩) = (decide (d = d') && decide (l = l')) := by
    rw [Bool.eq_iff_iff]; simp
  rw [hd]
  have he := v_eqArmS l l' hx hy (fun _ _ => trivial) (fun _ _ => trivial)
  refine cw (keepF Try.f114) Try.f114 false ?_
  repeat' first | refine ck_intro (by first | exact he) ?_ ?_ | refine g0 ?_ | refine d0 ?_ | refine j0 (fun hg hgo => ?_) fun hg hgo => ?_ | refine ek_ret ?_ | refine ek_norm ?_ | refine ⟨by omega, ?_⟩ | rfl | trivial | intro _
  all_goals first | rfl | (simp_all [beqD, bneT, bneF]; done) | ((try simp only [bneT, bneF]); (repeat' split) <;> first | omega | (simp_all [beqD]; done) | (simp_all [beqD]; omega)) | (simp_all [beqD, bneT, bneF]; (repeat' split) <;> first | rfl | omega | (simp_all; done))
theorem v_eqPhiS (l1 l2 : List PhiD) (hn1 : l1.length < 1073741824) (hn2 : l2.length < 1073741824) (hb1 : ∀ x ∈ l1, x.ok) (hb2 : ∀ x ∈ l2, x.ok) : C2 CC F_laws_eqPhiS [.fv (.row 2 (l1.map phiF)), .fv (.row 2 (l2.map phiF))] (bv (decide (l1 = l2))) [] := by
  refine cw (keepF Try.f94) Try.f94 false ?_
  repeat' first | refine pd3 17 [0, 0, 3, 7, 0, 0, 48, 112, 255, 511] [0, 0, 0, 1, 0, 0, 0, 1, 5, 0] false ?_ | refine g0 ?_ | refine d0 ?_ | refine j0 (fun hg hgo => ?_) fun hg hgo => ?_ | refine ek_ret ?_ | refine ek_norm ?_ | refine ⟨by omega, ?_⟩ | rfl | trivial | intro _
  · have : l1 ≠ l2 := fun e => by subst e; simp at hg
    simp [this]
  · have hlen : l1.length = l2.length := by have := hg; simp at this; omega
    refine pw_loop (fun m st => ∃ j : Nat, j + m = l1.length ∧ (∀ i (h1 : i < l1.length) (h2 : i < l2.length), i < j → l1[i] = l2[i]) ∧ st = [(0, .fv (.row 2 (l1.map phiF))), (1, .fv (.row 2 (l2.map phiF))), (5, iv j)]) l1.length [(0, .fv (.row 2 (l1.map phiF))), (1, .fv (.row 2 (l2.map phiF))), (5, iv (0 : Nat))] (sub_of ?_) ⟨0, by omega, fun i _ _ hi => by omega, rfl⟩ ?_
    · exact dn
    · rintro m st ⟨j, hj, hb, rfl⟩
      by_cases hlt : j < l1.length
      · have hd : decide ((j : Int) < (l1.length : Int)) = true := by rw [decide_eq_true_eq]; omega
        have hlt2 : j < l2.length := by omega
        have hm1 : j < (l1.map phiF).length := by rw [List.length_map]; exact hlt
        have hm2 : j < (l2.map phiF).length := by rw [List.length_map]; exact hlt2
        replace hb : True → _ := fun _ => hb
        have hel := v_eqPhi l1[j] l2[j] (hb1 _ (List.getElem_mem hlt)) (hb2 _ (List.getElem_mem hlt2))
        repeat' first | refine ck_intro (by first | exact hel) ?_ ?_ | refine pd3 17 [0, 0, 3, 7, 0, 0, 48, 112, 255, 511] [0, 0, 0, 1, 0, 0, 0, 1, 5, 0] false ?_ | refine g1 @hd ?_ | refine d1 @hd ?_ | refine j1 @hd (fun hg hgo => ?_) fun hg hgo => ?_ | refine ek_ret ?_ | refine ek_norm ?_ | refine ⟨by omega, ?_⟩ | rfl | trivial | intro _
        · simp [list_ne hlt hlt2 hgo]
        · refine rd_norm [(0, .fv (.row 2 (l1.map phiF))), (1, .fv (.row 2 (l2.map phiF))), (5, iv (j + 1 : Nat))] (sub_of ?_) (m - 1) (by omega) ⟨j + 1, by omega, fun i q1 q2 hi => ?_, rfl⟩
          · exact dn
          · by_cases hij : i = j
            · subst hij; exact hgo
            · exact hb trivial i q1 q2 (by omega)
      · have hd : decide ((j : Int) < (l1.length : Int)) = false := by rw [decide_eq_false_iff_not]; omega
        have hq : decide (l1 = l2) = true := by rw [decide_eq_true_eq]; exact List.ext_getElem hlen fun i q1 q2 => hb i q1 q2 (by omega)
        repeat' first | refine pd3 17 [0, 0, 3, 7, 0, 0, 48, 112, 255, 511] [0, 0, 0, 1, 0, 0, 0, 1, 5, 0] false ?_ | refine g2 @hd @hq ?_ | refine d2 @hd @hq ?_ | refine j2 @hd @hq (fun hg hgo => ?_) fun hg hgo => ?_ | refine ek_ret ?_ | refine ek_norm ?_ | refine ⟨by omega, ?_⟩ | rfl | trivial | intro _
theorem v_eqBlock (x y : BlockD) (hx : x.ok) (hy : y.ok) : C2 CC F_laws_eqBlock [.fv (blockF x), .fv (blockF y)] (bv (decide (x = y))) [] := by
  obtain ⟨p, l, t⟩ := x
  obtain ⟨p', l', t'⟩ := y
  have hd : decide ((⟨p, l, t⟩ : BlockD) = ⟨p', l', t'⟩) = (decide (p = p') && decide (l = l') && decide (t = t')) := by
    rw [Bool.eq_iff_iff]; simp; simp only [and_assoc]
  rw [hd]
  have he := v_eqPhiS p p' hx.1 hy.1 hx.2.1 hy.2.1
  have he2 := v_eqInsS l l' hx.2.2 hy.2.2 (fun _ _ => trivial) (fun _ _ => trivial)
  have he3 := v_eqTerm t t'
  refine cw (keepF Try.f64) Try.f64 false ?_
  repeat' first | refine ck_intro (by first | exact he | exact he2 | exact he3) ?_ ?_ | refine g0 ?_ | refine d0 ?_ | refine j0 (fun hg hgo => ?_) fun hg hgo => ?_ | refine ek_ret ?_ | refine ek_norm ?_ | refine ⟨by omega, ?_⟩ | rfl | trivial | intro _
  all_goals first | rfl | (simp_all [beqD, bneT, bneF]; done) | ((try simp only [bneT, bneF]); (repeat' split) <;> first | omega | (simp_all [beqD]; done) | (simp_all [beqD]; omega)) | (simp_all [beqD, bneT, bneF]; (repeat' split) <;> first | rfl | omega | (simp_all; done))
theorem v_eqBlockS (l1 l2 : List BlockD) (hn1 : l1.length < 1073741824) (hn2 : l2.length < 1073741824) (hb1 : ∀ x ∈ l1, x.ok) (hb2 : ∀ x ∈ l2, x.ok) : C2 CC F_laws_eqBlockS [.fv (.row 6 (l1.map blockF)), .fv (.row 6 (l2.map blockF))] (bv (decide (l1 = l2))) [] := by
  refine cw (keepF Try.f41) Try.f41 false ?_
  repeat' first | refine pd3 17 [0, 0, 3, 7, 0, 0, 48, 112, 255, 511] [0, 0, 0, 1, 0, 0, 0, 1, 5, 0] false ?_ | refine g0 ?_ | refine d0 ?_ | refine j0 (fun hg hgo => ?_) fun hg hgo => ?_ | refine ek_ret ?_ | refine ek_norm ?_ | refine ⟨by omega, ?_⟩ | rfl | trivial | intro _
  · have : l1 ≠ l2 := fun e => by subst e; simp at hg
    simp [this]
  · have hlen : l1.length = l2.length := by have := hg; simp at this; omega
    refine pw_loop (fun m st => ∃ j : Nat, j + m = l1.length ∧ (∀ i (h1 : i < l1.length) (h2 : i < l2.length), i < j → l1[i] = l2[i]) ∧ st = [(0, .fv (.row 6 (l1.map blockF))), (1, .fv (.row 6 (l2.map blockF))), (5, iv j)]) l1.length [(0, .fv (.row 6 (l1.map blockF))), (1, .fv (.row 6 (l2.map blockF))), (5, iv (0 : Nat))] (sub_of ?_) ⟨0, by omega, fun i _ _ hi => by omega, rfl⟩ ?_
    · exact dn
    · rintro m st ⟨j, hj, hb, rfl⟩
      by_cases hlt : j < l1.length
      · have hd : decide ((j : Int) < (l1.length : Int)) = true := by rw [decide_eq_true_eq]; omega
        have hlt2 : j < l2.length := by omega
        have hm1 : j < (l1.map blockF).length := by rw [List.length_map]; exact hlt
        have hm2 : j < (l2.map blockF).length := by rw [List.length_map]; exact hlt2
        replace hb : True → _ := fun _ => hb
        have hel := v_eqBlock l1[j] l2[j] (hb1 _ (List.getElem_mem hlt)) (hb2 _ (List.getElem_mem hlt2))
        repeat' first | refine ck_intro (by first | exact hel) ?_ ?_ | refine pd3 17 [0, 0, 3, 7, 0, 0, 48, 112, 255, 511] [0, 0, 0, 1, 0, 0, 0, 1, 5, 0] false ?_ | refine g1 @hd ?_ | refine d1 @hd ?_ | refine j1 @hd (fun hg hgo => ?_) fun hg hgo => ?_ | refine ek_ret ?_ | refine ek_norm ?_ | refine ⟨by omega, ?_⟩ | rfl | trivial | intro _
        · simp [list_ne hlt hlt2 hgo]
        · refine rd_norm [(0, .fv (.row 6 (l1.map blockF))), (1, .fv (.row 6 (l2.map blockF))), (5, iv (j + 1 : Nat))] (sub_of ?_) (m - 1) (by omega) ⟨j + 1, by omega, fun i q1 q2 hi => ?_, rfl⟩
          · exact dn
          · by_cases hij : i = j
            · subst hij; exact hgo
            · exact hb trivial i q1 q2 (by omega)
      · have hd : decide ((j : Int) < (l1.length : Int)) = false := by rw [decide_eq_false_iff_not]; omega
        have hq : decide (l1 = l2) = true := by rw [decide_eq_true_eq]; exact List.ext_getElem hlen fun i q1 q2 => hb i q1 q2 (by omega)
        repeat' first | refine pd3 17 [0, 0, 3, 7, 0, 0, 48, 112, 255, 511] [0, 0, 0, 1, 0, 0, 0, 1, 5, 0] false ?_ | refine g2 @hd @hq ?_ | refine d2 @hd @hq ?_ | refine j2 @hd @hq (fun hg hgo => ?_) fun hg hgo => ?_ | refine ek_ret ?_ | refine ek_norm ?_ | refine ⟨by omega, ?_⟩ | rfl | trivial | intro _
theorem v_eqFn (x y : FnD) (hx : x.ok) (hy : y.ok) : C2 CC F_laws_eqFn [.fv (fnF x), .fv (fnF y)] (bv (decide (x = y))) [] := by
  obtain ⟨p, t⟩ := x
  obtain ⟨p', t'⟩ := y
  have hd : decide ((⟨p, t⟩ : FnD) = ⟨p', t'⟩) = (decide (p = p') && decide (t = t')) := by
    rw [Bool.eq_iff_iff]; simp
  rw [hd]
  have he := v_eqBlockS p p' hx.1 hy.1 hx.2 hy.2
  refine cw (keepF Try.f13) Try.f13 false ?_
  repeat' first | refine ck_intro (by first | exact he) ?_ ?_ | refine g0 ?_ | refine d0 ?_ | refine j0 (fun hg hgo => ?_) fun hg hgo => ?_ | refine ek_ret ?_ | refine ek_norm ?_ | refine ⟨by omega, ?_⟩ | rfl | trivial | intro _
  all_goals first | rfl | (simp_all [beqD, bneT, bneF]; done) | ((try simp only [bneT, bneF]); (repeat' split) <;> first | omega | (simp_all [beqD]; done) | (simp_all [beqD]; omega)) | (simp_all [beqD, bneT, bneF]; (repeat' split) <;> first | rfl | omega | (simp_all; done))
abbrev intR (l : List Int) : FV := .row 1 (l.map (.int .i64))
theorem ints_set {l : List Int} {i : Nat} {b : Int} : (ints l).set i (.fv (.int .i64 b)) = ints (l.set i b) := by unfold ints; rw [List.map_set]
theorem ints_rep {n : Nat} {b : Int} : List.replicate n (DV.fv (.int .i64 b)) = ints (List.replicate n b) := by unfold ints; simp
theorem ints_at {l : List Int} {i : Nat} (h : i < l.length) : (ints l)[i]? = some (.fv (.int .i64 l[i])) := by unfold ints; simp [h]
theorem v_eqIntS (l1 l2 : List Int) (hn1 : l1.length < 1073741824) (hn2 : l2.length < 1073741824) : C2 CC F_laws_eqIntS [.fv (intR l1), .fv (intR l2)] (bv (decide (l1 = l2))) [] := by
  refine cw (keepF Try.f14) Try.f14 false ?_
  repeat' first | refine pd3 17 [0, 0, 3, 7, 0, 0, 48, 112, 255] [0, 0, 0, 1, 0, 0, 0, 1, 0] false ?_ | refine g0 ?_ | refine d0 ?_ | refine j0 (fun hg hgo => ?_) fun hg hgo => ?_ | refine ek_ret ?_ | refine ek_norm ?_ | refine ⟨by omega, ?_⟩ | rfl | trivial | intro _
  · have : l1 ≠ l2 := fun e => by subst e; simp at hg
    simp [this]
  · have hlen : l1.length = l2.length := by have := hg; simp at this; omega
    refine pw_loop (fun m st => ∃ j : Nat, j + m = l1.length ∧ (∀ i (h1 : i < l1.length) (h2 : i < l2.length), i < j → l1[i] = l2[i]) ∧ st = [(0, .fv (intR l1)), (1, .fv (intR l2)), (5, iv j)]) l1.length [(0, .fv (intR l1)), (1, .fv (intR l2)), (5, iv (0 : Nat))] (sub_of ?_) ⟨0, by omega, fun i _ _ hi => by omega, rfl⟩ ?_
    · exact dn
    · rintro m st ⟨j, hj, hb, rfl⟩
      by_cases hlt : j < l1.length
      · have hd : decide ((j : Int) < (l1.length : Int)) = true := by rw [decide_eq_true_eq]; omega
        have hlt2 : j < l2.length := by omega
        have hm1 : j < (l1.map (FV.int .i64)).length := by rw [List.length_map]; exact hlt
        have hm2 : j < (l2.map (FV.int .i64)).length := by rw [List.length_map]; exact hlt2
        replace hb : True → _ := fun _ => hb
        have hx : l1[j] = l2[j] ∨ l1[j] ≠ l2[j] := Classical.em _
        replace hx : True → _ := fun _ => hx
        repeat' first | refine pd3 17 [0, 0, 3, 7, 0, 0, 48, 112, 255] [0, 0, 0, 1, 0, 0, 0, 1, 0] false ?_ | refine g1 @hd ?_ | refine d1 @hd ?_ | refine j1 @hd (fun hg hgo => ?_) fun hg hgo => ?_ | refine ek_ret ?_ | refine ek_norm ?_ | refine ⟨by omega, ?_⟩ | rfl | trivial | intro _
        · have hne : l1[j] ≠ l2[j] := by simpa using hg
          simp [list_ne hlt hlt2 hne]
        · have hee : l1[j] = l2[j] := by simpa using hg
          refine rd_norm [(0, .fv (intR l1)), (1, .fv (intR l2)), (5, iv (j + 1 : Nat))] (sub_of ?_) (m - 1) (by omega) ⟨j + 1, by omega, fun i q1 q2 hi => ?_, rfl⟩
          · exact dn
          · by_cases hij : i = j
            · subst hij; exact hee
            · exact hb trivial i q1 q2 (by omega)
      · have hd : decide ((j : Int) < (l1.length : Int)) = false := by rw [decide_eq_false_iff_not]; omega
        have hq : decide (l1 = l2) = true := by rw [decide_eq_true_eq]; exact List.ext_getElem hlen fun i q1 q2 => hb i q1 q2 (by omega)
        repeat' first | refine pd3 17 [0, 0, 3, 7, 0, 0, 48, 112, 255] [0, 0, 0, 1, 0, 0, 0, 1, 0] false ?_ | refine g2 @hd @hq ?_ | refine d2 @hd @hq ?_ | refine j2 @hd @hq (fun hg hgo => ?_) fun hg hgo => ?_ | refine ek_ret ?_ | refine ek_norm ?_ | refine ⟨by omega, ?_⟩ | rfl | trivial | intro _
theorem v_toIntS (l : List Int) (hn : l.length < 1073741824) : C2 CC F_laws_toIntS [.fv (intR l)] (.own 1 (ints l)) [] := by
  have hmk : 0 ≤ (l.length : Int) ∧ (l.length : Int) < 4294967296 := ⟨by omega, by omega⟩
  refine cw (keepF Try.f11) Try.f11 false ?_
  repeat' first | refine g1 @hmk ?_ | refine d1 @hmk ?_ | refine j1 @hmk (fun hg hgo => ?_) fun hg hgo => ?_ | refine ek_ret ?_ | refine ek_norm ?_ | refine ⟨by omega, ?_⟩ | rfl | trivial | intro _
  refine pw_loop (fun m st => ∃ j : Nat, j + m = l.length ∧ st = [(0, .fv (intR l)), (3, .own 1 (ints (l.take j ++ List.replicate (l.length - j) 0))), (4, iv j)]) l.length [(0, .fv (intR l)), (3, .own 1 (ints (l.take 0 ++ List.replicate (l.length - 0) 0))), (4, iv (0 : Nat))] (sub_of ?_) ⟨0, by omega, rfl⟩ ?_
  · rw [List.take_zero, List.nil_append, Nat.sub_zero, ← ints_rep]
    exact dn
  · rintro m st ⟨j, hj, rfl⟩
    by_cases hlt : j < l.length
    · have hd : decide ((j : Int) < (l.length : Int)) = true := by rw [decide_eq_true_eq]; omega
      have hm1 : j < (l.map (FV.int .i64)).length := by rw [List.length_map]; exact hlt
      have hs : (ints (l.take j ++ List.replicate (l.length - j) 0)).set j (.fv (.int .i64 l[j])) = ints (l.take (j + 1) ++ List.replicate (l.length - (j + 1)) 0) := by
        rw [ints_set, List.set_append_right _ _ (by rw [List.length_take]; omega), List.length_take, Nat.min_eq_left (by omega), Nat.sub_self, show l.length - j = l.length - (j + 1) + 1 by omega, List.replicate_succ, List.set_cons_zero, List.take_succ_eq_append_getElem hlt, List.append_assoc]; rfl
      have hL : (ints (l.take j ++ List.replicate (l.length - j) 0)).length = l.length := by rw [ints_len]; simp; omega
      have hnr : noRefs (ints (l.take j ++ List.replicate (l.length - j) 0)) = true := nrs_ints
      have hx : (ints (l.take j ++ List.replicate (l.length - j) 0))[j]? = some (iv 0) := by
        rw [ints_at (by simp; omega), List.getElem_append_right (by simp; omega)]
        simp
      generalize ints (l.take j ++ List.replicate (l.length - j) 0) = L at hs hL hnr hx
      have hjL : j < L.length := by omega
      repeat' first | refine g5 @hd @hL @hnr @hs @hx ?_ | refine d5 @hd @hL @hnr @hs @hx ?_ | refine j5 @hd @hL @hnr @hs @hx (fun hg hgo => ?_) fun hg hgo => ?_ | refine ek_ret ?_ | refine ek_norm ?_ | refine ⟨by omega, ?_⟩ | rfl | trivial | intro _
      refine rd_norm [(0, .fv (intR l)), (3, .own 1 (ints (l.take (j + 1) ++ List.replicate (l.length - (j + 1)) 0))), (4, iv (j + 1 : Nat))] (sub_of ?_) (m - 1) (by omega) ⟨j + 1, by omega, rfl⟩
      exact dn
    · have hd : decide ((j : Int) < (l.length : Int)) = false := by rw [decide_eq_false_iff_not]; omega
      have hjn : j = l.length := by omega
      subst hjn
      have h0 : ints (l.take l.length ++ List.replicate (l.length - l.length) 0) = ints l := by simp
      repeat' first | refine g2 @hd @h0 ?_ | refine d2 @hd @h0 ?_ | refine j2 @hd @h0 (fun hg hgo => ?_) fun hg hgo => ?_ | refine ek_ret ?_ | refine ek_norm ?_ | refine ⟨by omega, ?_⟩ | rfl | trivial | intro _
theorem v_toIns (x : StepD) : C2 CC F_laws_toIns [sF x] (sF x) [] := by
  obtain ⟨op, r, a, b, n⟩ := x
  refine cw (keepF Try.f108) Try.f108 false ?_
  repeat' first | refine g0 ?_ | refine d0 ?_ | refine j0 (fun hg hgo => ?_) fun hg hgo => ?_ | refine ek_ret ?_ | refine ek_norm ?_ | refine ⟨by omega, ?_⟩ | rfl | trivial | intro _
theorem v_toArmS (l : List ArmD) (hn : l.length < 1073741824) (hb : ∀ x ∈ l, True) : C2 CC F_laws_toArmS [.fv (.row 2 (l.map armF))] (.own 2 (rowD armO l)) [] := by
  have hmk : 0 ≤ (l.length : Int) ∧ (l.length : Int) < 4294967296 := ⟨by omega, by omega⟩
  refine cw (keepF Try.f119) Try.f119 false ?_
  repeat' first | refine g1 @hmk ?_ | refine d1 @hmk ?_ | refine j1 @hmk (fun hg hgo => ?_) fun hg hgo => ?_ | refine ek_ret ?_ | refine ek_norm ?_ | refine ⟨by omega, ?_⟩ | rfl | trivial | intro _
  refine pw_loop (fun m st => ∃ j : Nat, j + m = l.length ∧ st = [(0, .fv (.row 2 (l.map armF))), (3, .own 2 (bld armO (.fv (.agg [.int .i64 0, .int .i64 0])) j l)), (4, iv j)]) l.length [(0, .fv (.row 2 (l.map armF))), (3, .own 2 (bld armO (.fv (.agg [.int .i64 0, .int .i64 0])) 0 l)), (4, iv (0 : Nat))] (sub_of ?_) ⟨0, by omega, rfl⟩ ?_
  · rw [bld_0]
    exact dn
  · rintro m st ⟨j, hj, rfl⟩
    by_cases hlt : j < l.length
    · have hd : decide ((j : Int) < (l.length : Int)) = true := by rw [decide_eq_true_eq]; omega
      have hm1 : j < (l.map armF).length := by rw [List.length_map]; exact hlt
      have hel := v_toArm l[j]
      have hs : (bld armO (.fv (.agg [.int .i64 0, .int .i64 0])) j l).set j (armO l[j]) = bld armO (.fv (.agg [.int .i64 0, .int .i64 0])) (j + 1) l := bld_set hlt
      have hx : (bld armO (.fv (.agg [.int .i64 0, .int .i64 0])) j l)[j]? = some (.fv (.agg [.int .i64 0, .int .i64 0])) := bld_get hlt
      have hL : (bld armO (.fv (.agg [.int .i64 0, .int .i64 0])) j l).length = l.length := bld_len (by omega)
      have hnr : noRefs (bld armO (.fv (.agg [.int .i64 0, .int .i64 0])) j l) = true := nrs_bld (fun x => rfl) (by rfl)
      generalize bld armO (.fv (.agg [.int .i64 0, .int .i64 0])) j l = L at hs hx hL hnr
      have hjL : j < L.length := by omega
      skip
      repeat' first | refine ck_intro (by first | exact hel) ?_ ?_ | refine g4 @hd @hL @hx @hnr ?_ | refine d4 @hd @hL @hx @hnr ?_ | refine j4 @hd @hL @hx @hnr (fun hg hgo => ?_) fun hg hgo => ?_ | refine ek_ret ?_ | refine ek_norm ?_ | refine ⟨by omega, ?_⟩ | rfl | trivial | intro _
      refine rd_norm [(0, .fv (.row 2 (l.map armF))), (3, .own 2 (bld armO (.fv (.agg [.int .i64 0, .int .i64 0])) (j + 1) l)), (4, iv (j + 1 : Nat))] (sub_of ?_) (m - 1) (by omega) ⟨j + 1, by omega, rfl⟩
      rw [← hs]
      exact dn
      skip
    · have hd : decide ((j : Int) < (l.length : Int)) = false := by rw [decide_eq_false_iff_not]; omega
      have hjn : j = l.length := by omega
      subst hjn
      have h0 : bld armO (.fv (.agg [.int .i64 0, .int .i64 0])) l.length l = rowD armO l := bld_n
      repeat' first | refine g2 @hd @h0 ?_ | refine d2 @hd @h0 ?_ | refine j2 @hd @h0 (fun hg hgo => ?_) fun hg hgo => ?_ | refine ek_ret ?_ | refine ek_norm ?_ | refine ⟨by omega, ?_⟩ | rfl | trivial | intro _
theorem v_toPhi (x : PhiD) (h : x.ok) : C2 CC F_laws_toPhi [.fv (phiF x)] (phiO x) [] := by
  obtain ⟨d, arms⟩ := x
  have he := v_toArmS arms h (fun _ _ => trivial)
  refine cw (keepF Try.f107) Try.f107 false ?_
  repeat' first | refine ck_intro (by first | exact he) ?_ ?_ | refine g0 ?_ | refine d0 ?_ | refine j0 (fun hg hgo => ?_) fun hg hgo => ?_ | refine ek_ret ?_ | refine ek_norm ?_ | refine ⟨by omega, ?_⟩ | rfl | trivial | intro _
theorem v_toPhiS (l : List PhiD) (hn : l.length < 1073741824) (hb : ∀ x ∈ l, x.ok) : C2 CC F_laws_toPhiS [.fv (.row 2 (l.map phiF))] (.own 2 (rowD phiO l)) [] := by
  have hmk : 0 ≤ (l.length : Int) ∧ (l.length : Int) < 4294967296 := ⟨by omega, by omega⟩
  refine cw (keepF Try.f82) Try.f82 false ?_
  repeat' first | refine g1 @hmk ?_ | refine d1 @hmk ?_ | refine j1 @hmk (fun hg hgo => ?_) fun hg hgo => ?_ | refine ek_ret ?_ | refine ek_norm ?_ | refine ⟨by omega, ?_⟩ | rfl | trivial | intro _
  refine pw_loop (fun m st => ∃ j : Nat, j + m = l.length ∧ st = [(0, .fv (.row 2 (l.map phiF))), (3, .own 2 (bld phiO (.fv (.agg [.int .i64 0, .nil])) j l)), (4, iv j)]) l.length [(0, .fv (.row 2 (l.map phiF))), (3, .own 2 (bld phiO (.fv (.agg [.int .i64 0, .nil])) 0 l)), (4, iv (0 : Nat))] (sub_of ?_) ⟨0, by omega, rfl⟩ ?_
  · rw [bld_0]
    exact dn
  · rintro m st ⟨j, hj, rfl⟩
    by_cases hlt : j < l.length
    · have hd : decide ((j : Int) < (l.length : Int)) = true := by rw [decide_eq_true_eq]; omega
      have hm1 : j < (l.map phiF).length := by rw [List.length_map]; exact hlt
      have hel := v_toPhi l[j] (hb _ (List.getElem_mem hlt))
      have hs : (bld phiO (.fv (.agg [.int .i64 0, .nil])) j l).set j (phiO l[j]) = bld phiO (.fv (.agg [.int .i64 0, .nil])) (j + 1) l := bld_set hlt
      have hx : (bld phiO (.fv (.agg [.int .i64 0, .nil])) j l)[j]? = some (.fv (.agg [.int .i64 0, .nil])) := bld_get hlt
      have hL : (bld phiO (.fv (.agg [.int .i64 0, .nil])) j l).length = l.length := bld_len (by omega)
      have hnr : noRefs (bld phiO (.fv (.agg [.int .i64 0, .nil])) j l) = true := nrs_bld (fun x => nr_phiO) (by rfl)
      generalize bld phiO (.fv (.agg [.int .i64 0, .nil])) j l = L at hs hx hL hnr
      have hjL : j < L.length := by omega
      skip
      repeat' first | refine ck_intro (by first | exact hel) ?_ ?_ | refine g4 @hd @hL @hx @hnr ?_ | refine d4 @hd @hL @hx @hnr ?_ | refine j4 @hd @hL @hx @hnr (fun hg hgo => ?_) fun hg hgo => ?_ | refine ek_ret ?_ | refine ek_norm ?_ | refine ⟨by omega, ?_⟩ | rfl | trivial | intro _
      refine rd_norm [(0, .fv (.row 2 (l.map phiF))), (3, .own 2 (bld phiO (.fv (.agg [.int .i64 0, .nil])) (j + 1) l)), (4, iv (j + 1 : Nat))] (sub_of ?_) (m - 1) (by omega) ⟨j + 1, by omega, rfl⟩
      rw [← hs]
      exact dn
      skip
    · have hd : decide ((j : Int) < (l.length : Int)) = false := by rw [decide_eq_false_iff_not]; omega
      have hjn : j = l.length := by omega
      subst hjn
      have h0 : bld phiO (.fv (.agg [.int .i64 0, .nil])) l.length l = rowD phiO l := bld_n
      repeat' first | refine g2 @hd @h0 ?_ | refine d2 @hd @h0 ?_ | refine j2 @hd @h0 (fun hg hgo => ?_) fun hg hgo => ?_ | refine ek_ret ?_ | refine ek_norm ?_ | refine ⟨by omega, ?_⟩ | rfl | trivial | intro _
theorem v_toInsS (l : List StepD) (hn : l.length < 1073741824) (hb : ∀ x ∈ l, True) : C2 CC F_laws_toInsS [.fv (.row 5 (l.map stF))] (.own 5 (rowD sF l)) [] := by
  have hmk : 0 ≤ (l.length : Int) ∧ (l.length : Int) < 4294967296 := ⟨by omega, by omega⟩
  refine cw (keepF Try.f83) Try.f83 false ?_
  repeat' first | refine g1 @hmk ?_ | refine d1 @hmk ?_ | refine j1 @hmk (fun hg hgo => ?_) fun hg hgo => ?_ | refine ek_ret ?_ | refine ek_norm ?_ | refine ⟨by omega, ?_⟩ | rfl | trivial | intro _
  refine pw_loop (fun m st => ∃ j : Nat, j + m = l.length ∧ st = [(0, .fv (.row 5 (l.map stF))), (3, .own 5 (bld sF (.fv (.agg [.int .i64 0, .int .i64 0, .int .i64 0, .int .i64 0, .int .i64 0])) j l)), (4, iv j)]) l.length [(0, .fv (.row 5 (l.map stF))), (3, .own 5 (bld sF (.fv (.agg [.int .i64 0, .int .i64 0, .int .i64 0, .int .i64 0, .int .i64 0])) 0 l)), (4, iv (0 : Nat))] (sub_of ?_) ⟨0, by omega, rfl⟩ ?_
  · rw [bld_0]
    exact dn
  · rintro m st ⟨j, hj, rfl⟩
    by_cases hlt : j < l.length
    · have hd : decide ((j : Int) < (l.length : Int)) = true := by rw [decide_eq_true_eq]; omega
      have hm1 : j < (l.map stF).length := by rw [List.length_map]; exact hlt
      have hel := v_toIns l[j]
      have hs : (bld sF (.fv (.agg [.int .i64 0, .int .i64 0, .int .i64 0, .int .i64 0, .int .i64 0])) j l).set j (sF l[j]) = bld sF (.fv (.agg [.int .i64 0, .int .i64 0, .int .i64 0, .int .i64 0, .int .i64 0])) (j + 1) l := bld_set hlt
      have hx : (bld sF (.fv (.agg [.int .i64 0, .int .i64 0, .int .i64 0, .int .i64 0, .int .i64 0])) j l)[j]? = some (.fv (.agg [.int .i64 0, .int .i64 0, .int .i64 0, .int .i64 0, .int .i64 0])) := bld_get hlt
      have hL : (bld sF (.fv (.agg [.int .i64 0, .int .i64 0, .int .i64 0, .int .i64 0, .int .i64 0])) j l).length = l.length := bld_len (by omega)
      have hnr : noRefs (bld sF (.fv (.agg [.int .i64 0, .int .i64 0, .int .i64 0, .int .i64 0, .int .i64 0])) j l) = true := nrs_bld (fun x => rfl) (by rfl)
      generalize bld sF (.fv (.agg [.int .i64 0, .int .i64 0, .int .i64 0, .int .i64 0, .int .i64 0])) j l = L at hs hx hL hnr
      have hjL : j < L.length := by omega
      skip
      repeat' first | refine ck_intro (by first | exact hel) ?_ ?_ | refine g4 @hd @hL @hx @hnr ?_ | refine d4 @hd @hL @hx @hnr ?_ | refine j4 @hd @hL @hx @hnr (fun hg hgo => ?_) fun hg hgo => ?_ | refine ek_ret ?_ | refine ek_norm ?_ | refine ⟨by omega, ?_⟩ | rfl | trivial | intro _
      refine rd_norm [(0, .fv (.row 5 (l.map stF))), (3, .own 5 (bld sF (.fv (.agg [.int .i64 0, .int .i64 0, .int .i64 0, .int .i64 0, .int .i64 0])) (j + 1) l)), (4, iv (j + 1 : Nat))] (sub_of ?_) (m - 1) (by omega) ⟨j + 1, by omega, rfl⟩
      rw [← hs]
      exact dn
      skip
    · have hd : decide ((j : Int) < (l.length : Int)) = false := by rw [decide_eq_false_iff_not]; omega
      have hjn : j = l.length := by omega
      subst hjn
      have h0 : bld sF (.fv (.agg [.int .i64 0, .int .i64 0, .int .i64 0, .int .i64 0, .int .i64 0])) l.length l = rowD sF l := bld_n
      repeat' first | refine g2 @hd @h0 ?_ | refine d2 @hd @h0 ?_ | refine j2 @hd @h0 (fun hg hgo => ?_) fun hg hgo => ?_ | refine ek_ret ?_ | refine ek_norm ?_ | refine ⟨by omega, ?_⟩ | rfl | trivial | intro _
theorem v_toBlock (x : BlockD) (h : x.ok) : C2 CC F_laws_toBlock [.fv (blockF x)] (blockO x) [] := by
  obtain ⟨phis, list, term⟩ := x
  have he := v_toPhiS phis h.1 h.2.1
  have he2 := v_toInsS list h.2.2 (fun _ _ => trivial)
  have he3 := v_toTerm term
  refine cw (keepF Try.f59) Try.f59 false ?_
  repeat' first | refine ck_intro (by first | exact he | exact he2 | exact he3) ?_ ?_ | refine g0 ?_ | refine d0 ?_ | refine j0 (fun hg hgo => ?_) fun hg hgo => ?_ | refine ek_ret ?_ | refine ek_norm ?_ | refine ⟨by omega, ?_⟩ | rfl | trivial | intro _
theorem v_toBlockS (l : List BlockD) (hn : l.length < 1073741824) (hb : ∀ x ∈ l, x.ok) : C2 CC F_laws_toBlockS [.fv (.row 6 (l.map blockF))] (.own 6 (rowD blockO l)) [] := by
  have hmk : 0 ≤ (l.length : Int) ∧ (l.length : Int) < 4294967296 := ⟨by omega, by omega⟩
  refine cw (keepF Try.f35) Try.f35 false ?_
  repeat' first | refine g1 @hmk ?_ | refine d1 @hmk ?_ | refine j1 @hmk (fun hg hgo => ?_) fun hg hgo => ?_ | refine ek_ret ?_ | refine ek_norm ?_ | refine ⟨by omega, ?_⟩ | rfl | trivial | intro _
  refine pw_loop (fun m st => ∃ j : Nat, j + m = l.length ∧ st = [(0, .fv (.row 6 (l.map blockF))), (3, .own 6 (bld blockO (.fv (.agg [.nil, .nil, .agg [.int .i64 0, .int .i64 0, .int .i64 0, .int .i64 0]])) j l)), (4, iv j)]) l.length [(0, .fv (.row 6 (l.map blockF))), (3, .own 6 (bld blockO (.fv (.agg [.nil, .nil, .agg [.int .i64 0, .int .i64 0, .int .i64 0, .int .i64 0]])) 0 l)), (4, iv (0 : Nat))] (sub_of ?_) ⟨0, by omega, rfl⟩ ?_
  · rw [bld_0]
    exact dn
  · rintro m st ⟨j, hj, rfl⟩
    by_cases hlt : j < l.length
    · have hd : decide ((j : Int) < (l.length : Int)) = true := by rw [decide_eq_true_eq]; omega
      have hm1 : j < (l.map blockF).length := by rw [List.length_map]; exact hlt
      have hel := v_toBlock l[j] (hb _ (List.getElem_mem hlt))
      have hs : (bld blockO (.fv (.agg [.nil, .nil, .agg [.int .i64 0, .int .i64 0, .int .i64 0, .int .i64 0]])) j l).set j (blockO l[j]) = bld blockO (.fv (.agg [.nil, .nil, .agg [.int .i64 0, .int .i64 0, .int .i64 0, .int .i64 0]])) (j + 1) l := bld_set hlt
      have hx : (bld blockO (.fv (.agg [.nil, .nil, .agg [.int .i64 0, .int .i64 0, .int .i64 0, .int .i64 0]])) j l)[j]? = some (.fv (.agg [.nil, .nil, .agg [.int .i64 0, .int .i64 0, .int .i64 0, .int .i64 0]])) := bld_get hlt
      have hL : (bld blockO (.fv (.agg [.nil, .nil, .agg [.int .i64 0, .int .i64 0, .int .i64 0, .int .i64 0]])) j l).length = l.length := bld_len (by omega)
      have hnr : noRefs (bld blockO (.fv (.agg [.nil, .nil, .agg [.int .i64 0, .int .i64 0, .int .i64 0, .int .i64 0]])) j l) = true := nrs_bld (fun x => nr_blockO) (by rfl)
      generalize bld blockO (.fv (.agg [.nil, .nil, .agg [.int .i64 0, .int .i64 0, .int .i64 0, .int .i64 0]])) j l = L at hs hx hL hnr
      have hjL : j < L.length := by omega
      skip
      repeat' first | refine ck_intro (by first | exact hel) ?_ ?_ | refine g4 @hd @hL @hx @hnr ?_ | refine d4 @hd @hL @hx @hnr ?_ | refine j4 @hd @hL @hx @hnr (fun hg hgo => ?_) fun hg hgo => ?_ | refine ek_ret ?_ | refine ek_norm ?_ | refine ⟨by omega, ?_⟩ | rfl | trivial | intro _
      refine rd_norm [(0, .fv (.row 6 (l.map blockF))), (3, .own 6 (bld blockO (.fv (.agg [.nil, .nil, .agg [.int .i64 0, .int .i64 0, .int .i64 0, .int .i64 0]])) (j + 1) l)), (4, iv (j + 1 : Nat))] (sub_of ?_) (m - 1) (by omega) ⟨j + 1, by omega, rfl⟩
      rw [← hs]
      exact dn
      skip
    · have hd : decide ((j : Int) < (l.length : Int)) = false := by rw [decide_eq_false_iff_not]; omega
      have hjn : j = l.length := by omega
      subst hjn
      have h0 : bld blockO (.fv (.agg [.nil, .nil, .agg [.int .i64 0, .int .i64 0, .int .i64 0, .int .i64 0]])) l.length l = rowD blockO l := bld_n
      repeat' first | refine g2 @hd @h0 ?_ | refine d2 @hd @h0 ?_ | refine j2 @hd @h0 (fun hg hgo => ?_) fun hg hgo => ?_ | refine ek_ret ?_ | refine ek_norm ?_ | refine ⟨by omega, ?_⟩ | rfl | trivial | intro _
theorem v_toFn (x : FnD) (h : x.ok) : C2 CC F_laws_toFn [.fv (fnF x)] (fnO x) [] := by
  obtain ⟨blocks, values⟩ := x
  have he := v_toBlockS blocks h.1 h.2
  refine cw (keepF Try.f10) Try.f10 false ?_
  repeat' first | refine ck_intro (by first | exact he) ?_ ?_ | refine g0 ?_ | refine d0 ?_ | refine j0 (fun hg hgo => ?_) fun hg hgo => ?_ | refine ek_ret ?_ | refine ek_norm ?_ | refine ⟨by omega, ?_⟩ | rfl | trivial | intro _
def sub1 (left : Int) (n : Nat) : Int := if left - n < 0 then -1 else left - n
def szL {α : Type} (e : α → Int → Int) : List α → Int → Int
  | [], left => left
  | x :: l, left => if e x left < 0 then -1 else szL e l (e x left)
def szRow {α : Type} (e : α → Int → Int) (l : List α) (left : Int) : Int := if left - l.length < 0 then -1 else szL e l (left - l.length)
def szP (x : PhiD) (left : Int) : Int := sub1 left x.arms.length
def szB (x : BlockD) (left : Int) : Int := if szRow szP x.phis left < 0 then -1 else sub1 (szRow szP x.phis left) x.list.length
def szFn (x : FnD) (left : Int) : Int := if szRow szB x.blocks left < 0 then -1 else szRow szB x.blocks left
theorem sub1_le (left : Int) (n : Nat) (h : 0 ≤ left) : sub1 left n ≤ left ∧ -1 ≤ sub1 left n := by unfold sub1; split <;> omega
theorem szL_le {α : Type} {e : α → Int → Int} (he : ∀ x left, 0 ≤ left ∧ left ≤ 1048576 → e x left ≤ left ∧ -1 ≤ e x left) : ∀ (l : List α) (left : Int), 0 ≤ left ∧ left ≤ 1048576 → szL e l left ≤ left ∧ -1 ≤ szL e l left
  | [], left, h => by unfold szL; omega
  | x :: l, left, h => by
    unfold szL
    have h1 := he x left h
    split
    · omega
    · have := szL_le he l (e x left) (by omega); omega
theorem szRow_le {α : Type} {e : α → Int → Int} (he : ∀ x left, 0 ≤ left ∧ left ≤ 1048576 → e x left ≤ left ∧ -1 ≤ e x left) (l : List α) (left : Int) (h : 0 ≤ left ∧ left ≤ 1048576) : szRow e l left ≤ left ∧ -1 ≤ szRow e l left := by
  unfold szRow
  split
  · omega
  · have := szL_le he l (left - l.length) (by omega); omega
theorem szP_le (x : PhiD) (left : Int) (h : 0 ≤ left ∧ left ≤ 1048576) : szP x left ≤ left ∧ -1 ≤ szP x left := sub1_le _ _ h.1
theorem szB_le (x : BlockD) (left : Int) (h : 0 ≤ left ∧ left ≤ 1048576) : szB x left ≤ left ∧ -1 ≤ szB x left := by
  unfold szB
  have h1 := szRow_le szP_le x.phis left h
  split
  · omega
  · have := sub1_le (szRow szP x.phis left) x.list.length (by omega); omega
theorem szL_ok {α : Type} {e : α → Int → Int} {P : α → Prop} (he : ∀ x left, 0 ≤ left ∧ left ≤ 1048576 → e x left ≤ left ∧ (0 ≤ e x left → P x)) : ∀ (l : List α) (left : Int), 0 ≤ left ∧ left ≤ 1048576 → 0 ≤ szL e l left → ∀ x ∈ l, P x
  | [], left, h, hz => fun x hx => by simp at hx
  | x :: l, left, h, hz => by
    unfold szL at hz
    have h1 := he x left h
    split at hz
    · omega
    · intro y hy
      rcases List.mem_cons.1 hy with rfl | hy
      · exact h1.2 (by omega)
      · exact szL_ok he l (e x left) (by omega) hz y hy
theorem szRow_ok {α : Type} {e : α → Int → Int} {P : α → Prop} (he : ∀ x left, 0 ≤ left ∧ left ≤ 1048576 → e x left ≤ left ∧ (0 ≤ e x left → P x)) (l : List α) (left : Int) (h : 0 ≤ left ∧ left ≤ 1048576) (hz : 0 ≤ szRow e l left) : l.length ≤ 1048576 ∧ ∀ x ∈ l, P x := by
  unfold szRow at hz
  split at hz
  · omega
  · exact ⟨by omega, szL_ok he l _ (by omega) hz⟩
theorem szP_ok (x : PhiD) (left : Int) (h : 0 ≤ left ∧ left ≤ 1048576) (hz : 0 ≤ szP x left) : x.arms.length ≤ 1048576 := by unfold szP sub1 at hz; split at hz <;> omega
theorem szB_ok (x : BlockD) (left : Int) (h : 0 ≤ left ∧ left ≤ 1048576) (hz : 0 ≤ szB x left) : x.phis.length ≤ 1048576 ∧ (∀ p ∈ x.phis, p.arms.length ≤ 1048576) ∧ x.list.length ≤ 1048576 := by
  unfold szB at hz
  have h1 := szRow_le szP_le x.phis left h
  split at hz
  · omega
  · have h2 := szRow_ok (P := fun p => p.arms.length ≤ 1048576) (fun x left h => ⟨(szP_le x left h).1, szP_ok x left h⟩) x.phis left h (by omega)
    refine ⟨h2.1, h2.2, ?_⟩
    unfold sub1 at hz; split at hz <;> omega
theorem szFn_ok (x : FnD) (hz : 0 ≤ szFn x 1048576) : x.blocks.length ≤ 1048576 ∧ (∀ b ∈ x.blocks, b.phis.length ≤ 1048576 ∧ (∀ p ∈ b.phis, p.arms.length ≤ 1048576) ∧ b.list.length ≤ 1048576) ∧ x.ok := by
  unfold szFn at hz
  split at hz
  · omega
  · have h2 := szRow_ok (P := fun b : BlockD => b.phis.length ≤ 1048576 ∧ (∀ p ∈ b.phis, p.arms.length ≤ 1048576) ∧ b.list.length ≤ 1048576) (fun x left h => ⟨(szB_le x left h).1, szB_ok x left h⟩) x.blocks 1048576 (by omega) hz
    refine ⟨h2.1, h2.2, ?_, fun b hb => ?_⟩
    · have := h2.1; omega
    · obtain ⟨a, b1, c⟩ := h2.2 b hb
      exact ⟨by omega, fun p hp => by have := b1 p hp; unfold PhiD.ok; omega, by omega⟩
def PhiD.ln (p : PhiD) : Prop := p.arms.length ≤ 9223372036854775807
def BlockD.ln (b : BlockD) : Prop := b.phis.length ≤ 9223372036854775807 ∧ (∀ p ∈ b.phis, p.ln) ∧ b.list.length ≤ 9223372036854775807
def FnD.ln (f : FnD) : Prop := f.blocks.length ≤ 9223372036854775807 ∧ ∀ b ∈ f.blocks, b.ln
theorem v_szArmS (l : List ArmD) (left : Int) (h0 : 0 ≤ left ∧ left ≤ 1048576) (hn : l.length ≤ 9223372036854775807) : C2 CC F_laws_szArmS [.fv (.row 2 (l.map armF)), iv left] (iv (sub1 left l.length)) [] := by
  refine cw (keepF Try.f118) Try.f118 false ?_
  repeat' first | refine g0 ?_ | refine d0 ?_ | refine j0 (fun hg hgo => ?_) fun hg hgo => ?_ | refine ek_ret ?_ | refine ek_norm ?_ | refine ⟨by omega, ?_⟩ | rfl | trivial | intro _
  all_goals first | rfl | (simp_all [beqD, sub1]; done) | ((try simp only [sub1]); (repeat' split) <;> first | omega | (simp_all [beqD]; done) | (simp_all [beqD]; omega)) | (simp_all [beqD, sub1]; (repeat' split) <;> first | rfl | omega | (simp_all; done))
theorem v_szInsS (l : List StepD) (left : Int) (h0 : 0 ≤ left ∧ left ≤ 1048576) (hn : l.length ≤ 9223372036854775807) : C2 CC F_laws_szInsS [.fv (.row 5 (l.map stF)), iv left] (iv (sub1 left l.length)) [] := by
  refine cw (keepF Try.f78) Try.f78 false ?_
  repeat' first | refine g0 ?_ | refine d0 ?_ | refine j0 (fun hg hgo => ?_) fun hg hgo => ?_ | refine ek_ret ?_ | refine ek_norm ?_ | refine ⟨by omega, ?_⟩ | rfl | trivial | intro _
  all_goals first | rfl | (simp_all [beqD, sub1]; done) | ((try simp only [sub1]); (repeat' split) <;> first | omega | (simp_all [beqD]; done) | (simp_all [beqD]; omega)) | (simp_all [beqD, sub1]; (repeat' split) <;> first | rfl | omega | (simp_all; done))
theorem v_szPhi (x : PhiD) (left : Int) (h0 : 0 ≤ left ∧ left ≤ 1048576) (hx : x.ln) : C2 CC F_laws_szPhi [.fv (phiF x), iv left] (iv (szP x left)) [] := by
  obtain ⟨d, arms⟩ := x
  have he := v_szArmS arms left h0 hx
  refine cw (keepF Try.f104) Try.f104 false ?_
  repeat' first | refine ck_intro (by first | exact he) ?_ ?_ | refine g0 ?_ | refine d0 ?_ | refine j0 (fun hg hgo => ?_) fun hg hgo => ?_ | refine ek_ret ?_ | refine ek_norm ?_ | refine ⟨by omega, ?_⟩ | rfl | trivial | intro _
  all_goals first | rfl | (simp_all [beqD, szP, sub1]; done) | ((try simp only [szP, sub1]); (repeat' split) <;> first | omega | (simp_all [beqD]; done) | (simp_all [beqD]; omega)) | (simp_all [beqD, szP, sub1]; (repeat' split) <;> first | rfl | omega | (simp_all; done))
theorem v_szPhiS (l : List PhiD) (left : Int) (h0 : 0 ≤ left ∧ left ≤ 1048576) (hn : l.length ≤ 9223372036854775807) (hb : ∀ x ∈ l, x.ln) : C2 CC F_laws_szPhiS [.fv (.row 2 (l.map phiF)), iv left] (iv (szRow szP l left)) [] := by
  unfold szRow
  refine cw (keepF Try.f77) Try.f77 false ?_
  repeat' first | refine g0 ?_ | refine d0 ?_ | refine j0 (fun hg hgo => ?_) fun hg hgo => ?_ | refine ek_ret ?_ | refine ek_norm ?_ | refine ⟨by omega, ?_⟩ | rfl | trivial | intro _
  · refine pw_loop (fun m st => ∃ (j : Nat) (lf : Int), j + m = l.length ∧ szL szP l (left - l.length) = szL szP (l.drop j) lf ∧ 0 ≤ lf ∧ lf ≤ 1048576 ∧ st = [(0, .fv (.row 2 (l.map phiF))), (1, iv lf), (5, iv j)]) l.length [(0, .fv (.row 2 (l.map phiF))), (1, iv (left - l.length)), (5, iv (0 : Nat))] (sub_of ?_) ⟨0, _, by omega, by rw [List.drop_zero], by omega, by omega, rfl⟩ ?_
    · exact dn
    · rintro m st ⟨j, lf, hj, hz, hl0, hl1, rfl⟩
      rw [hz]
      by_cases hlt : j < l.length
      · have hd : decide ((j : Int) < (l.length : Int)) = true := by rw [decide_eq_true_eq]; omega
        have hm1 : j < (l.map phiF).length := by rw [List.length_map]; exact hlt
        have hel := v_szPhi l[j] lf ⟨hl0, hl1⟩ (hb _ (List.getElem_mem hlt))
        have hle := szP_le l[j] lf ⟨hl0, hl1⟩
        rw [List.drop_eq_getElem_cons hlt, szL] at hz ⊢
        repeat' first | refine ck_intro (by first | exact hel) ?_ ?_ | refine g1 @hd ?_ | refine d1 @hd ?_ | refine j1 @hd (fun hg hgo => ?_) fun hg hgo => ?_ | refine ek_ret ?_ | refine ek_norm ?_ | refine ⟨by omega, ?_⟩ | rfl | trivial | intro _
        · rw [if_neg (by omega)] at hz
          refine rd_norm [(0, .fv (.row 2 (l.map phiF))), (1, iv (szP l[j] lf)), (5, iv (j + 1 : Nat))] (sub_of ?_) (m - 1) (by omega) ⟨j + 1, _, by omega, rfl, by omega, by omega, rfl⟩
          exact dn
      · have hd : decide ((j : Int) < (l.length : Int)) = false := by rw [decide_eq_false_iff_not]; omega
        rw [List.drop_eq_nil_of_le (by omega), szL]
        repeat' first | refine g1 @hd ?_ | refine d1 @hd ?_ | refine j1 @hd (fun hg hgo => ?_) fun hg hgo => ?_ | refine ek_ret ?_ | refine ek_norm ?_ | refine ⟨by omega, ?_⟩ | rfl | trivial | intro _
theorem v_szBlock (x : BlockD) (left : Int) (h0 : 0 ≤ left ∧ left ≤ 1048576) (hx : x.ln) : C2 CC F_laws_szBlock [.fv (blockF x), iv left] (iv (szB x left)) [] := by
  obtain ⟨phis, list, term⟩ := x
  have he := v_szPhiS phis left h0 hx.1 hx.2.1
  have hle := szRow_le szP_le phis left h0
  have hll := hx.2.2
  unfold szB
  refine cw (keepF Try.f57) Try.f57 false ?_
  repeat' first | refine ck_intro (by first | exact he | exact v_szInsS _ _ (by omega) hll) ?_ ?_ | refine g0 ?_ | refine d0 ?_ | refine j0 (fun hg hgo => ?_) fun hg hgo => ?_ | refine ek_ret ?_ | refine ek_norm ?_ | refine ⟨by omega, ?_⟩ | rfl | trivial | intro _
  all_goals first | rfl | (simp_all [beqD, sub1]; done) | ((try simp only [sub1]); (repeat' split) <;> first | omega | (simp_all [beqD]; done) | (simp_all [beqD]; omega)) | (simp_all [beqD, sub1]; (repeat' split) <;> first | rfl | omega | (simp_all; done))
theorem v_szBlockS (l : List BlockD) (left : Int) (h0 : 0 ≤ left ∧ left ≤ 1048576) (hn : l.length ≤ 9223372036854775807) (hb : ∀ x ∈ l, x.ln) : C2 CC F_laws_szBlockS [.fv (.row 6 (l.map blockF)), iv left] (iv (szRow szB l left)) [] := by
  unfold szRow
  refine cw (keepF Try.f32) Try.f32 false ?_
  repeat' first | refine g0 ?_ | refine d0 ?_ | refine j0 (fun hg hgo => ?_) fun hg hgo => ?_ | refine ek_ret ?_ | refine ek_norm ?_ | refine ⟨by omega, ?_⟩ | rfl | trivial | intro _
  · refine pw_loop (fun m st => ∃ (j : Nat) (lf : Int), j + m = l.length ∧ szL szB l (left - l.length) = szL szB (l.drop j) lf ∧ 0 ≤ lf ∧ lf ≤ 1048576 ∧ st = [(0, .fv (.row 6 (l.map blockF))), (1, iv lf), (5, iv j)]) l.length [(0, .fv (.row 6 (l.map blockF))), (1, iv (left - l.length)), (5, iv (0 : Nat))] (sub_of ?_) ⟨0, _, by omega, by rw [List.drop_zero], by omega, by omega, rfl⟩ ?_
    · exact dn
    · rintro m st ⟨j, lf, hj, hz, hl0, hl1, rfl⟩
      rw [hz]
      by_cases hlt : j < l.length
      · have hd : decide ((j : Int) < (l.length : Int)) = true := by rw [decide_eq_true_eq]; omega
        have hm1 : j < (l.map blockF).length := by rw [List.length_map]; exact hlt
        have hel := v_szBlock l[j] lf ⟨hl0, hl1⟩ (hb _ (List.getElem_mem hlt))
        have hle := szB_le l[j] lf ⟨hl0, hl1⟩
        rw [List.drop_eq_getElem_cons hlt, szL] at hz ⊢
        repeat' first | refine ck_intro (by first | exact hel) ?_ ?_ | refine g1 @hd ?_ | refine d1 @hd ?_ | refine j1 @hd (fun hg hgo => ?_) fun hg hgo => ?_ | refine ek_ret ?_ | refine ek_norm ?_ | refine ⟨by omega, ?_⟩ | rfl | trivial | intro _
        · rw [if_neg (by omega)] at hz
          refine rd_norm [(0, .fv (.row 6 (l.map blockF))), (1, iv (szB l[j] lf)), (5, iv (j + 1 : Nat))] (sub_of ?_) (m - 1) (by omega) ⟨j + 1, _, by omega, rfl, by omega, by omega, rfl⟩
          exact dn
      · have hd : decide ((j : Int) < (l.length : Int)) = false := by rw [decide_eq_false_iff_not]; omega
        rw [List.drop_eq_nil_of_le (by omega), szL]
        repeat' first | refine g1 @hd ?_ | refine d1 @hd ?_ | refine j1 @hd (fun hg hgo => ?_) fun hg hgo => ?_ | refine ek_ret ?_ | refine ek_norm ?_ | refine ⟨by omega, ?_⟩ | rfl | trivial | intro _
theorem v_szFn (x : FnD) (left : Int) (h0 : 0 ≤ left ∧ left ≤ 1048576) (hx : x.ln) : C2 CC F_laws_szFn [.fv (fnF x), iv left] (iv (szFn x left)) [] := by
  obtain ⟨blocks, values⟩ := x
  have he := v_szBlockS blocks left h0 hx.1 hx.2
  unfold szFn
  refine cw (keepF Try.f8) Try.f8 false ?_
  repeat' first | refine ck_intro (by first | exact he) ?_ ?_ | refine g0 ?_ | refine d0 ?_ | refine j0 (fun hg hgo => ?_) fun hg hgo => ?_ | refine ek_ret ?_ | refine ek_norm ?_ | refine ⟨by omega, ?_⟩ | rfl | trivial | intro _
  all_goals first | rfl | (simp_all [beqD, sub1]; done) | ((try simp only [sub1]); (repeat' split) <;> first | omega | (simp_all [beqD]; done) | (simp_all [beqD]; omega)) | (simp_all [beqD, sub1]; (repeat' split) <;> first | rfl | omega | (simp_all; done))
theorem fzL_rowD {α : Type} {o : α → DV} {g : α → FV} (h : ∀ x, fzD (o x) = some (g x)) : ∀ (l : List α), fzL (rowD o l) = some (l.map g)
  | [] => rfl
  | a :: l => by
    have ih := fzL_rowD h l
    unfold rowD at ih ⊢
    rw [List.map_cons, fzL_cons, h a, ih]; rfl
@[go_sem] theorem fzL_arms {l : List ArmD} : fzL (rowD armO l) = some (l.map armF) := fzL_rowD (fun _ => rfl) l
@[go_sem] theorem fzD_phiO {x : PhiD} : fzD (phiO x) = some (phiF x) := by
  show fzD (.agg _) = _; rw [fzD_agg, fzL_cons, fzD_fv, fzL_cons, fzD_own, fzL_arms]; rfl
@[go_sem] theorem fzL_phis {l : List PhiD} : fzL (rowD phiO l) = some (l.map phiF) := fzL_rowD (fun _ => fzD_phiO) l
@[go_sem] theorem fzL_ins {l : List StepD} : fzL (rowD sF l) = some (l.map stF) := fzL_rowD (fun _ => rfl) l
@[go_sem] theorem fzD_blockO {x : BlockD} : fzD (blockO x) = some (blockF x) := by
  show fzD (.agg _) = _; rw [fzD_agg, fzL_cons, fzD_own, fzL_phis, fzL_cons, fzD_own, fzL_ins]; rfl
@[go_sem] theorem fzL_blocks {l : List BlockD} : fzL (rowD blockO l) = some (l.map blockF) := fzL_rowD (fun _ => fzD_blockO) l
section
variable {α : Type} {c : α → Nat} {e : Int → α → α} {l : List α} {j : Nat} {k : Int}
end
section
variable {α : Type} {c : α → Nat} {e : Int → α → α} {l : List α} {j : Nat} {k : Int}
end
theorem v_in (n lo hi : Int) : C2 CC F_impl_in [iv n, iv lo, iv hi] (bv (decide (n ≥ lo) && decide (n ≤ hi))) [] := by
  refine cw (keepF Try.f46) Try.f46 false ?_
  repeat' first | refine g0 ?_ | refine d0 ?_ | refine j0 (fun hg hgo => ?_) fun hg hgo => ?_ | refine ek_ret ?_ | refine ek_norm ?_ | refine ⟨by omega, ?_⟩ | rfl | trivial | intro _
  all_goals simp_all
theorem v_l1In (n lo hi : Int) : C2 CC F_spec_l1In [iv n, iv lo, iv hi] (bv (decide (n ≥ lo) && decide (n ≤ hi))) [] := by
  refine cw (keepF Try.f42) Try.f42 false ?_
  repeat' first | refine g0 ?_ | refine d0 ?_ | refine j0 (fun hg hgo => ?_) fun hg hgo => ?_ | refine ek_ret ?_ | refine ek_norm ?_ | refine ⟨by omega, ?_⟩ | rfl | trivial | intro _
  all_goals simp_all
def wok (op : Int) : Bool := decide (op ≥ 1) && decide (op ≤ 10)
theorem v_WordOk (op : Int) : C2 CC F_impl_WordOk [iv op] (bv (wok op)) [] := by
  refine cw (keepF Try.f116) Try.f116 false ?_
  repeat' first | refine ck_intro (by first | exact v_in _ _ _) ?_ ?_ | refine g0 ?_ | refine d0 ?_ | refine j0 (fun hg hgo => ?_) fun hg hgo => ?_ | refine ek_ret ?_ | refine ek_norm ?_ | refine ⟨by omega, ?_⟩ | rfl | trivial | intro _
theorem s_WordOk (op : Int) : C2 CC F_spec_WordOk [iv op] (bv (wok op)) [] := by
  refine cw (keepF Try.f106) Try.f106 false ?_
  repeat' first | refine ck_intro (by first | exact v_l1In _ _ _) ?_ ?_ | refine g0 ?_ | refine d0 ?_ | refine j0 (fun hg hgo => ?_) fun hg hgo => ?_ | refine ek_ret ?_ | refine ek_norm ?_ | refine ⟨by omega, ?_⟩ | rfl | trivial | intro _
def usesL (x : StepD) : List Int := if (wok x.op || x.op == 22) = true then [x.a, x.b] else if (x.op == 21 || x.op == 23 || x.op == 25) = true then [x.a] else []
theorem v_InsUses (x : StepD) : C2 CC F_spec_InsUses [sF x] (.own 1 (ints (usesL x))) [] := by
  refine cw (keepF Try.f98) Try.f98 false ?_
  repeat' first | refine ck_intro (by first | exact s_WordOk _) ?_ ?_ | refine g0 ?_ | refine d0 ?_ | refine j0 (fun hg hgo => ?_) fun hg hgo => ?_ | refine ek_ret ?_ | refine ek_norm ?_ | refine ⟨by omega, ?_⟩ | rfl | trivial | intro _
  all_goals first | rfl | (simp_all [beqD, usesL, ints]; done) | ((try simp only [usesL, ints]); (repeat' split) <;> first | omega | (simp_all [beqD]; done) | (simp_all [beqD]; omega)) | (simp_all [beqD, usesL, ints]; (repeat' split) <;> first | rfl | omega | (simp_all; done))
def rb (l : List Int) : FV := .row 1 (l.map (.int .u8))
def idxI (c : Int) : List Int → Int → Int
  | [], _ => -1
  | x :: l, j => if c = x then j else idxI c l (j + 1)
theorem idx_at (c : Int) : ∀ (l : List Int) (j : Nat) (k : Int), (∀ i (h : i < l.length), i < j → c ≠ l[i]) → idxI c l k = idxI c (l.drop j) (k + j)
  | l, 0, k, _ => by simp
  | [], j + 1, k, _ => by simp [idxI]
  | x :: l, j + 1, k, h => by
    have h0 := h 0 (by simp) (by omega)
    simp only [List.getElem_cons_zero] at h0
    rw [List.drop_succ_cons, idxI, if_neg h0, idx_at c l j (k + 1) (fun i hi hij => by have := h (i + 1) (by simpa using hi) (by omega); simpa using this)]
    congr 1; omega
theorem v_Index_byte (l : List Int) (c : Int) (hl : l.length < 4611686018427387904) : C2 CC F_slices_Index_byte [.fv (rb l), .fv (.int .u8 c)] (iv (idxI c l 0)) [] := by
  unfold rb
  refine cw (keepF Try.f117) Try.f117 false ?_
  repeat' first | refine g0 ?_ | refine d0 ?_ | refine j0 (fun hg hgo => ?_) fun hg hgo => ?_ | refine ek_ret ?_ | refine ek_norm ?_ | refine ⟨by omega, ?_⟩ | rfl | trivial | intro _
  refine pw_loop (fun m st => ∃ j : Nat, j + m = l.length ∧ (∀ i (h : i < l.length), i < j → c ≠ l[i]) ∧ st = [(0, .fv (rb l)), (1, .fv (.int .u8 c)), (7, iv l.length), (8, iv j)]) l.length [(0, .fv (rb l)), (1, .fv (.int .u8 c)), (7, iv l.length), (8, iv (0 : Nat))] (sub_of ?_) ⟨0, by omega, fun i _ hi => by omega, rfl⟩ ?_
  · unfold rb
    exact dn
  · rintro m st ⟨j, hj, hb, rfl⟩
    unfold rb
    have hidx := idx_at c l j 0 hb
    by_cases hlt : j < l.length
    · have hd : decide ((j : Int) < (l.length : Int)) = true := by rw [decide_eq_true_eq]; omega
      have hml : j < (l.map (FV.int .u8)).length := by rw [List.length_map]; exact hlt
      have hidx2 : idxI c l 0 = if c = l[j] then (j : Int) else idxI c (l.drop (j + 1)) (j + 1) := by
        rw [hidx, List.drop_eq_getElem_cons hlt, idxI]; simp
      repeat' first | refine g1 @hd ?_ | refine d1 @hd ?_ | refine j1 @hd (fun hg hgo => ?_) fun hg hgo => ?_ | refine ek_ret ?_ | refine ek_norm ?_ | refine ⟨by omega, ?_⟩ | rfl | trivial | intro _
      · rw [hidx2, if_pos (by simpa using hg)]
      · have hne : c ≠ l[j] := by simpa using hg
        refine rd_norm [(0, .fv (rb l)), (1, .fv (.int .u8 c)), (7, iv l.length), (8, iv (j + 1 : Nat))] (sub_of ?_) (m - 1) (by omega) ⟨j + 1, by omega, fun i hi h1 => ?_, rfl⟩
        · unfold rb
          exact dn
        · by_cases h2 : i = j
          · subst h2; exact hne
          · exact hb i hi (by omega)
    · have hd : decide ((j : Int) < (l.length : Int)) = false := by rw [decide_eq_false_iff_not]; omega
      have hidx2 : idxI c l 0 = -1 := by
        rw [hidx, List.drop_eq_nil_of_le (by omega)]; rfl
      repeat' first | refine g2 @hd @hidx2 ?_ | refine d2 @hd @hidx2 ?_ | refine j2 @hd @hidx2 (fun hg hgo => ?_) fun hg hgo => ?_ | refine ek_ret ?_ | refine ek_norm ?_ | refine ⟨by omega, ?_⟩ | rfl | trivial | intro _
def byI (b : ByteArray) : List Int := b.data.toList.map fun x => (x.toNat : Int)
theorem byI_len (b : ByteArray) : (byI b).length = b.size := by unfold byI; rw [List.length_map]; rfl
@[go_sem] theorem bytesF_eq (b : ByteArray) : bytesF b = (byI b).map fun n => .fv (.int .u8 n) := by
  unfold bytesF byI; rw [List.map_map]; rfl
def formB (op : Int) : ByteArray := if op = 20 then ⟨#[68, 78]⟩ else if op = 21 then ⟨#[68, 65]⟩ else if op = 25 then ⟨#[68, 65]⟩ else if op = 22 then ⟨#[65, 66]⟩ else if op = 23 then ⟨#[65]⟩ else if op = 24 then ⟨#[68]⟩ else ⟨#[68, 65, 66]⟩
def formK (op : Int) : Bool := if op = 20 then true else if op = 21 then true else if op = 25 then true else if op = 22 then true else if op = 23 then true else if op = 24 then true else wok op
theorem formB_len (op : Int) : (byI (formB op)).length < 4611686018427387904 := by
  rw [byI_len]; unfold formB; repeat' split
  all_goals decide
theorem v_formOf (op : Int) : C2 CC F_impl_formOf [iv op] (.tup [.fv (.str (formB op)), bv (formK op)]) [] := by
  refine cw (keepF Try.f102) Try.f102 false ?_
  repeat' first | refine ck_intro (by first | exact v_WordOk _) ?_ ?_ | refine g0 ?_ | refine d0 ?_ | refine j0 (fun hg hgo => ?_) fun hg hgo => ?_ | refine ek_ret ?_ | refine ek_norm ?_ | refine ⟨by omega, ?_⟩ | rfl | trivial | intro _
  all_goals simp_all [formB, formK]
def hasI (l : List Int) (c : Int) : Bool := decide (idxI c l 0 ≥ 0)
theorem v_Contains_byte (l : List Int) (c : Int) (hl : l.length < 4611686018427387904) : C2 CC F_slices_Contains_byte [.fv (rb l), .fv (.int .u8 c)] (bv (hasI l c)) [] := by
  refine cw (keepF Try.f103) Try.f103 false ?_
  repeat' first | refine ck_intro (by first | exact v_Index_byte _ _ hl) ?_ ?_ | refine g0 ?_ | refine d0 ?_ | refine j0 (fun hg hgo => ?_) fun hg hgo => ?_ | refine ek_ret ?_ | refine ek_norm ?_ | refine ⟨by omega, ?_⟩ | rfl | trivial | intro _
def hasP (op c : Int) : Bool := formK op && hasI (byI (formB op)) c
theorem v_has (op c : Int) : C2 CC F_impl_has [iv op, .fv (.int .u8 c)] (bv (hasP op c)) [] := by
  refine cw (keepF Try.f76) Try.f76 false ?_
  repeat' first | refine ck_intro (by first | exact v_formOf _ | exact v_Contains_byte _ _ (formB_len op)) ?_ ?_ | refine g0 ?_ | refine d0 ?_ | refine j0 (fun hg hgo => ?_) fun hg hgo => ?_ | refine ek_ret ?_ | refine ek_norm ?_ | refine ⟨by omega, ?_⟩ | rfl | trivial | intro _
  all_goals simp_all [hasP]
def makesB (op : Int) : Bool := wok op || op == 20 || op == 21 || op == 24 || op == 25
def hasA (op : Int) : Bool := wok op || op == 22 || op == 21 || op == 23 || op == 25
def hasBb (op : Int) : Bool := wok op || op == 22
theorem hasP_all (op : Int) : hasP op 65 = hasA op ∧ hasP op 66 = hasBb op ∧ hasP op 68 = makesB op := by
  by_cases h20 : op = 20
  · subst h20; decide
  by_cases h21 : op = 21
  · subst h21; decide
  by_cases h22 : op = 22
  · subst h22; decide
  by_cases h23 : op = 23
  · subst h23; decide
  by_cases h24 : op = 24
  · subst h24; decide
  by_cases h25 : op = 25
  · subst h25; decide
  have hb : formB op = ⟨#[68, 65, 66]⟩ := by simp [formB, h20, h21, h22, h23, h24, h25]
  have hk : formK op = wok op := by simp [formK, h20, h21, h22, h23, h24, h25]
  have i1 : hasI (byI ⟨#[68, 65, 66]⟩) 65 = true := by decide
  have i2 : hasI (byI ⟨#[68, 65, 66]⟩) 66 = true := by decide
  have i3 : hasI (byI ⟨#[68, 65, 66]⟩) 68 = true := by decide
  simp [hasP, hb, hk, i1, i2, i3, hasA, hasBb, makesB, beqD, h20, h21, h22, h23, h24, h25]
theorem v_hasA (op : Int) : C2 CC F_impl_has [iv op, .fv (.int .u8 65)] (bv (hasA op)) [] := by rw [← (hasP_all op).1]; exact v_has op 65
theorem v_hasB (op : Int) : C2 CC F_impl_has [iv op, .fv (.int .u8 66)] (bv (hasBb op)) [] := by rw [← (hasP_all op).2.1]; exact v_has op 66
theorem v_hasD (op : Int) : C2 CC F_impl_has [iv op, .fv (.int .u8 68)] (bv (makesB op)) [] := by rw [← (hasP_all op).2.2]; exact v_has op 68
def hasNb (op : Int) : Bool := op == 20
theorem hasP_N (op : Int) : hasP op 78 = hasNb op := by
  by_cases h20 : op = 20
  · subst h20; decide
  by_cases h21 : op = 21
  · subst h21; decide
  by_cases h22 : op = 22
  · subst h22; decide
  by_cases h23 : op = 23
  · subst h23; decide
  by_cases h24 : op = 24
  · subst h24; decide
  by_cases h25 : op = 25
  · subst h25; decide
  have hb : formB op = ⟨#[68, 65, 66]⟩ := by simp [formB, h20, h21, h22, h23, h24, h25]
  have i1 : hasI (byI ⟨#[68, 65, 66]⟩) 78 = false := by decide
  simp [hasP, hb, i1, hasNb, h20]
theorem v_hasN (op : Int) : C2 CC F_impl_has [iv op, .fv (.int .u8 78)] (bv (hasNb op)) [] := by rw [← hasP_N op]; exact v_has op 78
theorem v_l2Makes (op : Int) : C2 CC F_spec_l2Makes [iv op] (bv (makesB op)) [] := by
  refine cw (keepF Try.f101) Try.f101 false ?_
  repeat' first | refine ck_intro (by first | exact s_WordOk _) ?_ ?_ | refine g0 ?_ | refine d0 ?_ | refine j0 (fun hg hgo => ?_) fun hg hgo => ?_ | refine ek_ret ?_ | refine ek_norm ?_ | refine ⟨by omega, ?_⟩ | rfl | trivial | intro _
  all_goals first | rfl | (simp_all [beqD, makesB]; done) | ((try simp only [makesB]); (repeat' split) <;> first | omega | (simp_all [beqD]; done) | (simp_all [beqD]; omega)) | (simp_all [beqD, makesB]; (repeat' split) <;> first | rfl | omega | (simp_all; done))
def bools (l : List Bool) : List DV := l.map fun b => .fv (.bool b)
@[go_sem] theorem nrs_bools {l : List Bool} : noRefs (bools l) = true := nrs_map
@[go_sem] theorem fzL_bools {l : List Bool} : fzL (bools l) = some (l.map .bool) := fzL_map
@[go_sem] theorem clDs_bools {l : List Bool} : clDs (bools l) = true := clDs_map fun x => rfl
@[go_sem] theorem bools_len {l : List Bool} : (bools l).length = l.length := by unfold bools; simp
@[go_sem] theorem map_bools {l : List Bool} : (l.map FV.bool).map DV.fv = bools l := by unfold bools; rw [List.map_map]; rfl
theorem ints_get {l : List Int} {i : Nat} (h : i < l.length) : (ints l)[i]? = some (iv l[i]) := by unfold ints; simp [h]
theorem bools_set {l : List Bool} {i : Nat} {b : Bool} : (bools l).set i (.fv (.bool b)) = bools (l.set i b) := by unfold bools; rw [List.map_set]
theorem bools_get {l : List Bool} {i : Nat} (h : i < l.length) : (bools l)[i]? = some (.fv (.bool l[i])) := by unfold bools; simp [h]
theorem bools_rep {n : Nat} {b : Bool} : List.replicate n (DV.fv (.bool b)) = bools (List.replicate n b) := by unfold bools; simp
abbrev setF (l : List Bool) : FV := .row 1 (l.map .bool)
def insDefI (x : StepD) : Int := if makesB x.op = true then x.r else -1
def trmUses (t : TermD) : List Int := if t.kind = 2 ∨ t.kind = 3 then [t.a] else []
def succL (t : TermD) : List Int := if t.kind = 1 then [t.to] else if t.kind = 2 then (if t.to = t.els then [t.to] else [t.to, t.els]) else []
def backB (x : StepD) (live : List Bool) : List Bool := (usesL x).foldl (fun o u => o.set u.toNat true) (if insDefI x ≥ 0 then live.set (insDefI x).toNat false else live)
theorem v_InsDef_spec (x : StepD) : C2 CC F_spec_InsDef [sF x] (iv (insDefI x)) [] := by
  obtain ⟨op, r, a, b, n⟩ := x
  refine cw (keepF Try.f75) Try.f75 false ?_
  repeat' first | refine ck_intro (by first | exact v_l2Makes _) ?_ ?_ | refine g0 ?_ | refine d0 ?_ | refine j0 (fun hg hgo => ?_) fun hg hgo => ?_ | refine ek_ret ?_ | refine ek_norm ?_ | refine ⟨by omega, ?_⟩ | rfl | trivial | intro _
  all_goals first | rfl | (simp_all [beqD, insDefI]; done) | ((try simp only [insDefI]); (repeat' split) <;> first | omega | (simp_all [beqD]; done) | (simp_all [beqD]; omega)) | (simp_all [beqD, insDefI]; (repeat' split) <;> first | rfl | omega | (simp_all; done))
theorem v_TermUses_spec (x : TermD) : C2 CC F_spec_TermUses [.fv (termF x)] (.own 1 (ints (trmUses x))) [] := by
  obtain ⟨k, a, to, els⟩ := x
  refine cw (keepF Try.f97) Try.f97 false ?_
  repeat' first | refine g0 ?_ | refine d0 ?_ | refine j0 (fun hg hgo => ?_) fun hg hgo => ?_ | refine ek_ret ?_ | refine ek_norm ?_ | refine ⟨by omega, ?_⟩ | rfl | trivial | intro _
  all_goals first | rfl | (simp_all [beqD, trmUses, ints]; done) | ((try simp only [trmUses, ints]); (repeat' split) <;> first | omega | (simp_all [beqD]; done) | (simp_all [beqD]; omega)) | (simp_all [beqD, trmUses, ints]; (repeat' split) <;> first | rfl | omega | (simp_all; done))
theorem v_l3Succs (f : FnD) (b : Nat) (hb : b < f.blocks.length) (hf : f.blocks.length < 1073741824) : C2 CC F_spec_l3Succs [.fv (fnF f), iv b] (.own 1 (ints (succL f.blocks[b].term))) [] := by
  have hml : b < (f.blocks.map blockF).length := by rw [List.length_map]; exact hb
  refine cw (keepF Try.f74) Try.f74 false ?_
  repeat' first | refine g0 ?_ | refine d0 ?_ | refine j0 (fun hg hgo => ?_) fun hg hgo => ?_ | refine ek_ret ?_ | refine ek_norm ?_ | refine ⟨by omega, ?_⟩ | rfl | trivial | intro _
  all_goals first | rfl | (simp_all [beqD, succL, ints]; done) | ((try simp only [succL, ints]); (repeat' split) <;> first | omega | (simp_all [beqD]; done) | (simp_all [beqD]; omega)) | (simp_all [beqD, succL, ints]; (repeat' split) <;> first | rfl | omega | (simp_all; done))
def idxP {α : Type} (P : α → Bool) : List α → Int → Int
  | [], _ => -1
  | x :: l, j => if P x = true then j else idxP P l (j + 1)
theorem idxP_at {α : Type} (P : α → Bool) : ∀ (l : List α) (j : Nat) (k : Int), (∀ i (h : i < l.length), i < j → P l[i] = false) → idxP P l k = idxP P (l.drop j) (k + j)
  | l, 0, k, _ => by simp
  | [], j + 1, k, _ => by simp [idxP]
  | x :: l, j + 1, k, h => by
    have h0 := h 0 (by simp) (by omega)
    simp only [List.getElem_cons_zero] at h0
    rw [List.drop_succ_cons, idxP, if_neg (by simp [h0]), idxP_at P l j (k + 1) (fun i hi hij => by have := h (i + 1) (by simpa using hi) (by omega); simpa using this)]
    congr 1; omega
theorem idxP_ge {α : Type} (P : α → Bool) : ∀ (l : List α) (k : Int), 0 ≤ k → decide (idxP P l k ≥ 0) = l.any P
  | [], k, _ => by simp [idxP]
  | x :: l, k, hk => by
    unfold idxP
    cases hx : P x with
    | true => simp [hx, hk]
    | false => simp only [Bool.false_eq_true, if_false, List.any_cons, hx, Bool.false_or]; exact idxP_ge P l (k + 1) (by omega)
theorem idxP_any {α : Type} (P : α → Bool) (l : List α) : decide (idxP P l 0 ≥ 0) = l.any P := idxP_ge P l 0 (by omega)
theorem all_step {α : Type} {p : α → Bool} {l : List α} {j : Nat} (h : (l.take j).all p = true) (hj : j < l.length) (hp : p l[j] = true) : (l.take (j + 1)).all p = true := by
  rw [List.take_succ_eq_append_getElem hj, List.all_append, h]; simp [hp]
theorem all_bad {α : Type} {p : α → Bool} {l : List α} {j : Nat} (hj : j < l.length) (hp : p l[j] = false) : l.all p = false := by
  rw [List.all_eq_false]
  exact ⟨l[j], List.getElem_mem hj, by simp [hp]⟩
theorem all_end {α : Type} {p : α → Bool} {l : List α} {j : Nat} (h : (l.take j).all p = true) (hj : l.length ≤ j) : l.all p = true := by
  rw [List.take_of_length_le hj] at h; exact h
def rgB (n lo hi : Int) : Bool := decide (n ≥ lo) && decide (n ≤ hi)
def valB (n values : Int) : Bool := decide (n ≥ 0) && decide (n < values)
def insB (x : StepD) (values : Int) : Bool :=
  if wok x.op = true then valB x.r values && valB x.a values && valB x.b values && decide (x.n = 0)
  else if x.op = 20 then valB x.r values && decide (x.a = 0) && decide (x.b = 0)
  else if x.op = 21 ∨ x.op = 25 then valB x.r values && valB x.a values && decide (x.b = 0) && decide (x.n = 0)
  else if x.op = 22 then valB x.a values && valB x.b values && decide (x.r = 0) && decide (x.n = 0)
  else if x.op = 23 then valB x.a values && decide (x.r = 0) && decide (x.b = 0) && decide (x.n = 0)
  else if x.op = 24 then valB x.r values && decide (x.a = 0) && decide (x.b = 0) && decide (x.n = 0)
  else false
def termB (t : TermD) (blocks values : Int) : Bool :=
  if t.kind = 1 then rgB t.to 0 (blocks - 1) && decide (t.a = 0) && decide (t.els = 0)
  else if t.kind = 2 then rgB t.to 0 (blocks - 1) && rgB t.els 0 (blocks - 1) && valB t.a values
  else if t.kind = 3 then valB t.a values && decide (t.to = 0) && decide (t.els = 0)
  else false
def armB (pre : List ArmD) (a : ArmD) (blocks values : Int) : Bool := rgB a.fr 0 (blocks - 1) && valB a.v values && pre.all fun x => !decide (x.fr = a.fr)
def armsB (blocks values : Int) : List ArmD → List ArmD → Bool
  | _, [] => true
  | pre, a :: l => armB pre a blocks values && armsB blocks values (pre ++ [a]) l
def phiB (p : PhiD) (blocks values : Int) : Bool := valB p.d values && decide (p.arms.length ≤ 16) && armsB blocks values [] p.arms
def blockB (b : BlockD) (blocks values : Int) : Bool := decide (b.phis.length ≤ 24) && decide (b.list.length ≤ 24) && termB b.term blocks values && b.phis.all (fun p => phiB p blocks values) && b.list.all (fun x => insB x values)
def shapeB (f : FnD) : Bool := rgB f.blocks.length 1 16 && rgB f.values 0 80 && f.blocks.all (fun b => blockB b f.blocks.length f.values)
theorem v_l2Value (n values : Int) : C2 CC F_spec_l2Value [iv n, iv values] (bv (valB n values)) [] := by
  refine cw (keepF Try.f105) Try.f105 false ?_
  repeat' first | refine g0 ?_ | refine d0 ?_ | refine j0 (fun hg hgo => ?_) fun hg hgo => ?_ | refine ek_ret ?_ | refine ek_norm ?_ | refine ⟨by omega, ?_⟩ | rfl | trivial | intro _
  all_goals first | rfl | (simp_all [beqD, valB]; done) | ((try simp only [valB]); (repeat' split) <;> first | omega | (simp_all [beqD]; done) | (simp_all [beqD]; omega)) | (simp_all [beqD, valB]; (repeat' split) <;> first | rfl | omega | (simp_all; done))
theorem v_l2Ins (x : StepD) (values : Int) : C2 CC F_spec_l2Ins [sF x, iv values] (bv (insB x values)) [] := by
  obtain ⟨op, r, a, b, n⟩ := x
  refine cw (keepF Try.f81) Try.f81 false ?_
  repeat' first | refine ck_intro (by first | exact v_l2Value _ _ | exact s_WordOk _) ?_ ?_ | refine g0 ?_ | refine d0 ?_ | refine j0 (fun hg hgo => ?_) fun hg hgo => ?_ | refine ek_ret ?_ | refine ek_norm ?_ | refine ⟨by omega, ?_⟩ | rfl | trivial | intro _
  all_goals first | rfl | (simp_all [beqD, insB, beqT, beqF]; done) | ((try simp only [insB, beqT, beqF]); (repeat' split) <;> first | omega | (simp_all [beqD]; done) | (simp_all [beqD]; omega)) | (simp_all [beqD, insB, beqT, beqF]; (repeat' split) <;> first | rfl | omega | (simp_all; done))
theorem v_l2Term (x : TermD) (blocks values : Int) (hb : 0 ≤ blocks ∧ blocks ≤ 1000000000) : C2 CC F_spec_l2Term [.fv (termF x), iv blocks, iv values] (bv (termB x blocks values)) [] := by
  obtain ⟨k, a, to, els⟩ := x
  refine cw (keepF Try.f79) Try.f79 false ?_
  repeat' first | refine ck_intro (by first | exact v_l2Value _ _ | exact v_l1In _ _ _) ?_ ?_ | refine g0 ?_ | refine d0 ?_ | refine j0 (fun hg hgo => ?_) fun hg hgo => ?_ | refine ek_ret ?_ | refine ek_norm ?_ | refine ⟨by omega, ?_⟩ | rfl | trivial | intro _
  all_goals first | rfl | (simp_all [beqD, termB, rgB, beqT, beqF]; done) | ((try simp only [termB, rgB, beqT, beqF]); (repeat' split) <;> first | omega | (simp_all [beqD]; done) | (simp_all [beqD]; omega)) | (simp_all [beqD, termB, rgB, beqT, beqF]; (repeat' split) <;> first | rfl | omega | (simp_all; done))
theorem ints0 : ints [] = [] := rfl
def inU (x : StepD) (n : Nat) : Prop := (makesB x.op = true → 0 ≤ x.r ∧ x.r < n) ∧ ∀ u ∈ usesL x, 0 ≤ u ∧ u < n
theorem foldset_len : ∀ (us : List Int) (o : List Bool), (us.foldl (fun o u => o.set u.toNat true) o).length = o.length
  | [], o => rfl
  | u :: us, o => by rw [List.foldl_cons, foldset_len us]; simp
theorem backB_len (x : StepD) (live : List Bool) : (backB x live).length = live.length := by
  unfold backB; rw [foldset_len]; split <;> simp
theorem fold_take {us : List Int} {o : List Bool} {j : Nat} (h : j < us.length) : (us.take (j + 1)).foldl (fun o u => o.set u.toNat true) o = ((us.take j).foldl (fun o u => o.set u.toNat true) o).set us[j].toNat true := by
  rw [List.take_succ_eq_append_getElem h, List.foldl_append]; rfl
theorem v_l11Back (x : StepD) (live : List Bool) (hx : inU x live.length) (hl : live.length ≤ 1000) : C2 CC F_spec_l11Back [sF x, .fv (setF live)] (.own 1 (bools (backB x live))) [] := by
  have h1 := v_InsDef_spec x
  have h2 := v_InsUses x
  unfold backB
  have hu := hx.2
  have hul : (usesL x).length ≤ 2 := by unfold usesL; split; simp; split <;> simp
  generalize usesL x = us at h2 hu hul
  cases hm : makesB x.op with
  | true =>
    obtain ⟨a1, a2⟩ := hx.1 hm
    have hd : insDefI x = x.r := by unfold insDefI; rw [if_pos hm]
    have hge : decide (x.r ≥ 0) = true := by rw [decide_eq_true_eq]; omega
    rw [hd, if_pos (by omega)]
    rw [hd] at h1
    have hlt : x.r.toNat < live.length := by omega
    have hg := bools_get hlt
    have hxr : 0 ≤ x.r ∧ x.r < (live.length : Int) := ⟨a1, a2⟩
    refine cw (keepF Try.f66) Try.f66 false ?_
    repeat' first | refine ck_intro (by first | exact h1 | exact h2) ?_ ?_ | refine g4 @hge @hg @hxr @bools_set ?_ | refine d4 @hge @hg @hxr @bools_set ?_ | refine j4 @hge @hg @hxr @bools_set (fun hg hgo => ?_) fun hg hgo => ?_ | refine ek_ret ?_ | refine ek_norm ?_ | refine ⟨by omega, ?_⟩ | rfl | trivial | intro _
    generalize ho : live.set x.r.toNat false = o
    have hol : o.length = live.length := by rw [← ho]; simp
    refine pw_loop (fun m st => ∃ j : Nat, j + m = us.length ∧ st = [(5, .own 1 (bools ((us.take j).foldl (fun o u => o.set u.toNat true) o))), (7, .own 1 (ints us)), (8, iv j)]) us.length [(5, .own 1 (bools ((us.take 0).foldl (fun o u => o.set u.toNat true) o))), (7, .own 1 (ints us)), (8, iv (0 : Nat))] (sub_of ?_) ⟨0, by omega, rfl⟩ ?_
    · rw [List.take_zero, List.foldl_nil]
      repeat' first | refine g1 @ho ?_ | refine d1 @ho ?_ | refine j1 @ho (fun hg hgo => ?_) fun hg hgo => ?_ | refine ek_ret ?_ | refine ek_norm ?_ | refine ⟨by omega, ?_⟩ | rfl | trivial | intro _
    · rintro m st ⟨j, hj, rfl⟩
      by_cases hlt : j < us.length
      · have hd : decide ((j : Int) < (us.length : Int)) = true := by rw [decide_eq_true_eq]; omega
        have hgi := ints_get hlt
        have hul2 := hu us[j] (List.getElem_mem hlt)
        have hrow : ((us.take j).foldl (fun o u => o.set u.toNat true) o).length = live.length := by rw [foldset_len, hol]
        have hft := fold_take (o := o) hlt
        generalize (us.take j).foldl (fun o u => o.set u.toNat true) o = q at hrow hft
        have hltq : us[j].toNat < q.length := by omega
        have hgq := bools_get hltq
        have hb : 0 ≤ us[j] ∧ us[j] < (q.length : Int) := ⟨by omega, by omega⟩
        repeat' first | refine g5 @hd @hgi @hgq @hb @bools_set ?_ | refine d5 @hd @hgi @hgq @hb @bools_set ?_ | refine j5 @hd @hgi @hgq @hb @bools_set (fun hg hgo => ?_) fun hg hgo => ?_ | refine ek_ret ?_ | refine ek_norm ?_ | refine ⟨by omega, ?_⟩ | rfl | trivial | intro _
        refine rd_norm [(5, .own 1 (bools ((us.take (j + 1)).foldl (fun o u => o.set u.toNat true) o))), (7, .own 1 (ints us)), (8, iv (j + 1 : Nat))] (sub_of ?_) (m - 1) (by omega) ⟨j + 1, by omega, rfl⟩
        rw [hft]
        exact dn
      · have hd : decide ((j : Int) < (us.length : Int)) = false := by rw [decide_eq_false_iff_not]; omega
        rw [List.take_of_length_le (by omega)]
        repeat' first | refine g1 @hd ?_ | refine d1 @hd ?_ | refine j1 @hd (fun hg hgo => ?_) fun hg hgo => ?_ | refine ek_ret ?_ | refine ek_norm ?_ | refine ⟨by omega, ?_⟩ | rfl | trivial | intro _
  | false =>
    have hd : insDefI x = -1 := by unfold insDefI; rw [if_neg (by rw [hm]; simp)]
    rw [hd, if_neg (by omega)]
    rw [hd] at h1
    refine cw (keepF Try.f66) Try.f66 false ?_
    repeat' first | refine ck_intro (by first | exact h1 | exact h2) ?_ ?_ | refine g0 ?_ | refine d0 ?_ | refine j0 (fun hg hgo => ?_) fun hg hgo => ?_ | refine ek_ret ?_ | refine ek_norm ?_ | refine ⟨by omega, ?_⟩ | rfl | trivial | intro _
    generalize ho : live = o
    have hol : o.length = live.length := by rw [← ho]
    refine pw_loop (fun m st => ∃ j : Nat, j + m = us.length ∧ st = [(5, .own 1 (bools ((us.take j).foldl (fun o u => o.set u.toNat true) o))), (7, .own 1 (ints us)), (8, iv j)]) us.length [(5, .own 1 (bools ((us.take 0).foldl (fun o u => o.set u.toNat true) o))), (7, .own 1 (ints us)), (8, iv (0 : Nat))] (sub_of ?_) ⟨0, by omega, rfl⟩ ?_
    · rw [List.take_zero, List.foldl_nil]
      repeat' first | refine g1 @ho ?_ | refine d1 @ho ?_ | refine j1 @ho (fun hg hgo => ?_) fun hg hgo => ?_ | refine ek_ret ?_ | refine ek_norm ?_ | refine ⟨by omega, ?_⟩ | rfl | trivial | intro _
    · rintro m st ⟨j, hj, rfl⟩
      by_cases hlt : j < us.length
      · have hd : decide ((j : Int) < (us.length : Int)) = true := by rw [decide_eq_true_eq]; omega
        have hgi := ints_get hlt
        have hul2 := hu us[j] (List.getElem_mem hlt)
        have hrow : ((us.take j).foldl (fun o u => o.set u.toNat true) o).length = live.length := by rw [foldset_len, hol]
        have hft := fold_take (o := o) hlt
        generalize (us.take j).foldl (fun o u => o.set u.toNat true) o = q at hrow hft
        have hltq : us[j].toNat < q.length := by omega
        have hgq := bools_get hltq
        have hb : 0 ≤ us[j] ∧ us[j] < (q.length : Int) := ⟨by omega, by omega⟩
        repeat' first | refine g5 @hd @hgi @hgq @hb @bools_set ?_ | refine d5 @hd @hgi @hgq @hb @bools_set ?_ | refine j5 @hd @hgi @hgq @hb @bools_set (fun hg hgo => ?_) fun hg hgo => ?_ | refine ek_ret ?_ | refine ek_norm ?_ | refine ⟨by omega, ?_⟩ | rfl | trivial | intro _
        refine rd_norm [(5, .own 1 (bools ((us.take (j + 1)).foldl (fun o u => o.set u.toNat true) o))), (7, .own 1 (ints us)), (8, iv (j + 1 : Nat))] (sub_of ?_) (m - 1) (by omega) ⟨j + 1, by omega, rfl⟩
        rw [hft]
        exact dn
      · have hd : decide ((j : Int) < (us.length : Int)) = false := by rw [decide_eq_false_iff_not]; omega
        rw [List.take_of_length_le (by omega)]
        repeat' first | refine g1 @hd ?_ | refine d1 @hd ?_ | refine j1 @hd (fun hg hgo => ?_) fun hg hgo => ?_ | refine ek_ret ?_ | refine ek_norm ?_ | refine ⟨by omega, ?_⟩ | rfl | trivial | intro _
def orB (o s : List Bool) : List Bool := List.zipWith (fun a b => a || b) o s
def outB (t : TermD) (V : Nat) (ins : List (List Bool)) : List Bool := (succL t).foldl (fun o k => orB o ((ins[k.toNat]?).getD [])) (List.replicate V false)
abbrev insF (ins : List (List Bool)) : FV := .row 1 (ins.map setF)
structure InsOk (V n : Nat) (ins : List (List Bool)) : Prop where
  len : ins.length = n
  row : ∀ s ∈ ins, s.length = V
  small : V ≤ 1000 ∧ n ≤ 1000
theorem orB_len {o s : List Bool} (h : o.length = s.length) : (orB o s).length = o.length := by unfold orB; rw [List.length_zipWith, h]; simp
theorem fold_or_len {ins : List (List Bool)} {V : Nat} (hr : ∀ s ∈ ins, s.length = V) : ∀ (ks : List Int) (o : List Bool), o.length = V → (∀ k ∈ ks, 0 ≤ k ∧ k < ins.length) → (ks.foldl (fun o k => orB o ((ins[k.toNat]?).getD [])) o).length = V
  | [], o, ho, _ => ho
  | k :: ks, o, ho, hk => by
    rw [List.foldl_cons]
    have h1 := hk k (by simp)
    have h2 : k.toNat < ins.length := by omega
    refine fold_or_len hr ks _ ?_ (fun k hk2 => hk k (by simp [hk2]))
    rw [List.getElem?_eq_getElem h2, Option.getD_some, orB_len (by rw [ho, hr _ (List.getElem_mem h2)]), ho]
def orC (o s : List Bool) (v : Nat) : List Bool := (orB o s).take v ++ o.drop v
theorem orC_len {o s : List Bool} {v : Nat} (h : o.length = s.length) (hv : v ≤ o.length) : (orC o s v).length = o.length := by
  unfold orC; rw [List.length_append, List.length_take, List.length_drop, orB_len h]; omega
theorem orC_get {o s : List Bool} {v : Nat} (h : o.length = s.length) (hv : v < o.length) (hc : v < (orC o s v).length) : (orC o s v)[v] = o[v] := by
  have e : (orC o s v)[v]? = some o[v] := by
    unfold orC
    rw [List.getElem?_append_right (by rw [List.length_take, orB_len h]; omega)]
    simp only [List.length_take, orB_len h, Nat.min_eq_left (Nat.le_of_lt hv), Nat.sub_self]
    rw [List.getElem?_drop]; simp
  rw [List.getElem?_eq_getElem hc] at e
  injection e
theorem orC_set {o s : List Bool} {v : Nat} (h : o.length = s.length) (hv : v < o.length) (hs : v < s.length) : (orC o s v).set v (o[v] || s[v]) = orC o s (v + 1) := by
  unfold orC
  have hl : (orB o s).length = o.length := orB_len h
  rw [List.set_append_right _ _ (by rw [List.length_take, hl]; omega), List.length_take, hl, Nat.min_eq_left (Nat.le_of_lt hv), Nat.sub_self, List.drop_eq_getElem_cons hv, List.set_cons_zero, List.take_succ_eq_append_getElem (by rw [hl]; exact hv), List.append_assoc]
  congr 1
  unfold orB
  simp
theorem orC_0 {o s : List Bool} : orC o s 0 = o := by unfold orC; simp
theorem orC_n {o s : List Bool} {v : Nat} (h : o.length = s.length) (hv : o.length ≤ v) : orC o s v = orB o s := by
  unfold orC; rw [List.take_of_length_le (by rw [orB_len h]; exact hv), List.drop_eq_nil_of_le hv, List.append_nil]
theorem v_l11Out (f : FnD) (V b : Nat) (ins : List (List Bool)) (hV : f.values = (V : Int)) (hb : b < f.blocks.length) (hf : f.blocks.length ≤ 1000) (hi : InsOk V f.blocks.length ins) (hs : ∀ k ∈ succL f.blocks[b].term, 0 ≤ k ∧ k < f.blocks.length) : C2 CC F_spec_l11Out [.fv (fnF f), iv b, .fv (insF ins)] (.own 1 (bools (outB f.blocks[b].term V ins))) [] := by
  have h1 := v_l3Succs f b hb (by omega)
  obtain ⟨blocks, values⟩ := f
  simp only at hV hb hf hi hs h1
  subst hV
  obtain ⟨il, ir, iv1, in1⟩ := hi
  have hkl : (succL blocks[b].term).length ≤ 2 := by unfold succL; split; simp; split; split <;> simp; simp
  unfold outB
  generalize succL blocks[b].term = ks at h1 hs hkl
  have hmk : 0 ≤ (V : Int) ∧ (V : Int) < 4294967296 := ⟨by omega, by omega⟩
  refine cw (keepF Try.f51) Try.f51 false ?_
  repeat' first | refine ck_intro (by first | exact h1) ?_ ?_ | refine g1 @hmk ?_ | refine d1 @hmk ?_ | refine j1 @hmk (fun hg hgo => ?_) fun hg hgo => ?_ | refine ek_ret ?_ | refine ek_norm ?_ | refine ⟨by omega, ?_⟩ | rfl | trivial | intro _
  generalize hg0 : List.replicate V false = o0
  have hl0 : o0.length = V := by rw [← hg0]; simp
  refine pw_loop (fun m st => ∃ j : Nat, j + m = ks.length ∧ st = [(2, .fv (insF ins)), (3, .box (.fv (fnF ⟨blocks, V⟩))), (7, .own 1 (bools ((ks.take j).foldl (fun o k => orB o ((ins[k.toNat]?).getD [])) o0))), (8, .own 1 (ints ks)), (9, iv j)]) ks.length [(2, .fv (insF ins)), (3, .box (.fv (fnF ⟨blocks, V⟩))), (7, .own 1 (bools ((ks.take 0).foldl (fun o k => orB o ((ins[k.toNat]?).getD [])) o0))), (8, .own 1 (ints ks)), (9, iv (0 : Nat))] (sub_of ?_) ⟨0, by omega, rfl⟩ ?_
  · rw [List.take_zero, List.foldl_nil]
    repeat' first | refine g2 @bools_rep @hg0 ?_ | refine d2 @bools_rep @hg0 ?_ | refine j2 @bools_rep @hg0 (fun hg hgo => ?_) fun hg hgo => ?_ | refine ek_ret ?_ | refine ek_norm ?_ | refine ⟨by omega, ?_⟩ | rfl | trivial | intro _
  · rintro m st ⟨j, hj, rfl⟩
    by_cases hlt : j < ks.length
    · have hd : decide ((j : Int) < (ks.length : Int)) = true := by rw [decide_eq_true_eq]; omega
      have hgi := ints_get hlt
      have hk := hs ks[j] (List.getElem_mem hlt)
      have hki : ks[j].toNat < ins.length := by omega
      have hft : (ks.take (j + 1)).foldl (fun o k => orB o ((ins[k.toNat]?).getD [])) o0 = orB ((ks.take j).foldl (fun o k => orB o ((ins[k.toNat]?).getD [])) o0) ins[ks[j].toNat] := by
        rw [List.take_succ_eq_append_getElem hlt, List.foldl_append, List.foldl_cons, List.foldl_nil, List.getElem?_eq_getElem hki, Option.getD_some]
      have hol := fold_or_len ir (ks.take j) o0 hl0 (fun k hk2 => by have := hs k (List.mem_of_mem_take hk2); omega)
      generalize (ks.take j).foldl (fun o k => orB o ((ins[k.toNat]?).getD [])) o0 = o at hft hol
      have hsl := ir _ (List.getElem_mem hki)
      generalize hsd : ins[ks[j].toNat] = s at hft hsl
      have hos : o.length = s.length := by omega
      repeat' first | refine g1 @hd ?_ | refine d1 @hd ?_ | refine j1 @hd (fun hg hgo => ?_) fun hg hgo => ?_ | refine ek_ret ?_ | refine ek_norm ?_ | refine ⟨by omega, ?_⟩ | rfl | trivial | intro _
      refine pw_loop (fun m st => ∃ v : Nat, v + m = V ∧ st = [(2, .fv (insF ins)), (3, .box (.fv (fnF ⟨blocks, V⟩))), (7, .own 1 (bools (orC o s v))), (8, .own 1 (ints ks)), (9, iv j), (10, iv v)]) V [(2, .fv (insF ins)), (3, .box (.fv (fnF ⟨blocks, V⟩))), (7, .own 1 (bools (orC o s 0))), (8, .own 1 (ints ks)), (9, iv j), (10, iv (0 : Nat))] (sub_of ?_) ⟨0, by omega, rfl⟩ ?_
      · rw [orC_0]
        exact dn
      · rintro m2 st ⟨v, hv, rfl⟩
        by_cases hlv : v < V
        · have hdv : decide ((v : Int) < (V : Int)) = true := by rw [decide_eq_true_eq]; omega
          have hvo : v < o.length := by omega
          have hvs : v < s.length := by omega
          have hcl := orC_len hos (v := v) (by omega)
          have hcv : v < (orC o s v).length := by omega
          have hgq := bools_get hcv
          rw [orC_get hos hvo hcv] at hgq
          have hst := orC_set hos hvo hvs
          generalize orC o s v = q at hcl hcv hgq hst
          have hmi : ks[j].toNat < (ins.map setF).length := by rw [List.length_map]; exact hki
          have hms : v < (s.map FV.bool).length := by rw [List.length_map]; exact hvs
          have hkk : 0 ≤ ks[j] ∧ ks[j] < (ins.length : Int) := ⟨by omega, by omega⟩
          repeat' first | refine g6 @hdv @hgi @hgq @hkk @hsd @bools_set ?_ | refine d6 @hdv @hgi @hgq @hkk @hsd @bools_set ?_ | refine j6 @hdv @hgi @hgq @hkk @hsd @bools_set (fun hg hgo => ?_) fun hg hgo => ?_ | refine ek_ret ?_ | refine ek_norm ?_ | refine ⟨by omega, ?_⟩ | rfl | trivial | intro _
          · have e : (o[v] || s[v]) = true := by rw [hgo]; rfl
            rw [e] at hst
            refine rd_norm [(2, .fv (insF ins)), (3, .box (.fv (fnF ⟨blocks, V⟩))), (7, .own 1 (bools (orC o s (v + 1)))), (8, .own 1 (ints ks)), (9, iv j), (10, iv (v + 1 : Nat))] (sub_of ?_) (m2 - 1) (by omega) ⟨v + 1, by omega, rfl⟩
            rw [← hst]
            exact dn
          · have e : (o[v] || s[v]) = s[v] := by rw [hgo]; rfl
            rw [e] at hst
            refine rd_norm [(2, .fv (insF ins)), (3, .box (.fv (fnF ⟨blocks, V⟩))), (7, .own 1 (bools (orC o s (v + 1)))), (8, .own 1 (ints ks)), (9, iv j), (10, iv (v + 1 : Nat))] (sub_of ?_) (m2 - 1) (by omega) ⟨v + 1, by omega, rfl⟩
            rw [← hst]
            exact dn
        · have hdv : decide ((v : Int) < (V : Int)) = false := by rw [decide_eq_false_iff_not]; omega
          rw [orC_n hos (by omega)]
          repeat' first | refine g1 @hdv ?_ | refine d1 @hdv ?_ | refine j1 @hdv (fun hg hgo => ?_) fun hg hgo => ?_ | refine ek_ret ?_ | refine ek_norm ?_ | refine ⟨by omega, ?_⟩ | rfl | trivial | intro _
          refine rd_norm [(2, .fv (insF ins)), (3, .box (.fv (fnF ⟨blocks, V⟩))), (7, .own 1 (bools ((ks.take (j + 1)).foldl (fun o k => orB o ((ins[k.toNat]?).getD [])) o0))), (8, .own 1 (ints ks)), (9, iv (j + 1 : Nat))] (sub_of ?_) (m - 1) (by omega) ⟨j + 1, by omega, rfl⟩
          rw [hft]
          exact dn
    · have hd : decide ((j : Int) < (ks.length : Int)) = false := by rw [decide_eq_false_iff_not]; omega
      rw [List.take_of_length_le (by omega)]
      repeat' first | refine g1 @hd ?_ | refine d1 @hd ?_ | refine j1 @hd (fun hg hgo => ?_) fun hg hgo => ?_ | refine ek_ret ?_ | refine ek_norm ?_ | refine ⟨by omega, ?_⟩ | rfl | trivial | intro _
def endB (t : TermD) (V : Nat) (ins : List (List Bool)) : List Bool := (trmUses t).foldl (fun o u => o.set u.toNat true) (outB t V ins)
def beforeB (b : BlockD) (at_ V : Nat) (ins : List (List Bool)) : List Bool := (b.list.drop at_).foldr backB (endB b.term V ins)
structure BlkIn (b : BlockD) (V n : Nat) : Prop where
  succ : ∀ k ∈ succL b.term, 0 ≤ k ∧ k < n
  uses : ∀ u ∈ trmUses b.term, 0 ≤ u ∧ u < V
  list : ∀ x ∈ b.list, inU x V
  len : b.list.length ≤ 1000
theorem outB_len {t : TermD} {V n : Nat} {ins : List (List Bool)} (hi : InsOk V n ins) (hs : ∀ k ∈ succL t, 0 ≤ k ∧ k < n) : (outB t V ins).length = V := fold_or_len hi.row _ _ (by simp) (fun k hk => by have := hs k hk; have := hi.len; omega)
theorem endB_len {t : TermD} {V n : Nat} {ins : List (List Bool)} (hi : InsOk V n ins) (hs : ∀ k ∈ succL t, 0 ≤ k ∧ k < n) : (endB t V ins).length = V := by unfold endB; rw [foldset_len, outB_len hi hs]
theorem foldr_back_len : ∀ (l : List StepD) (o : List Bool), (l.foldr backB o).length = o.length
  | [], o => rfl
  | x :: l, o => by rw [List.foldr_cons, backB_len, foldr_back_len l o]
theorem v_l11End (f : FnD) (V b : Nat) (ins : List (List Bool)) (hV : f.values = (V : Int)) (hb : b < f.blocks.length) (hf : f.blocks.length ≤ 1000) (hi : InsOk V f.blocks.length ins) (hk : BlkIn f.blocks[b] V f.blocks.length) : C2 CC F_spec_l11End [.fv (fnF f), iv b, .fv (insF ins)] (.own 1 (bools (endB f.blocks[b].term V ins))) [] := by
  have h1 := v_l11Out f V b ins hV hb hf hi hk.succ
  have h2 := v_TermUses_spec f.blocks[b].term
  have hol := outB_len hi hk.succ
  obtain ⟨blocks, values⟩ := f
  simp only at hV hb hf hi hk h1 h2 hol
  subst hV
  have hml : b < (blocks.map blockF).length := by rw [List.length_map]; exact hb
  have hu := hk.uses
  have hul : (trmUses blocks[b].term).length ≤ 2 := by unfold trmUses; split <;> simp
  have hsm := hi.small
  unfold endB
  generalize trmUses blocks[b].term = us at h2 hu hul
  generalize outB blocks[b].term V ins = o at h1 hol
  refine cw (keepF Try.f65) Try.f65 false ?_
  repeat' first | refine ck_intro (by first | exact h1 | exact h2) ?_ ?_ | refine g0 ?_ | refine d0 ?_ | refine j0 (fun hg hgo => ?_) fun hg hgo => ?_ | refine ek_ret ?_ | refine ek_norm ?_ | refine ⟨by omega, ?_⟩ | rfl | trivial | intro _
  refine pw_loop (fun m st => ∃ j : Nat, j + m = us.length ∧ st = [(7, .own 1 (bools ((us.take j).foldl (fun o u => o.set u.toNat true) o))), (8, .own 1 (ints us)), (9, iv j)]) us.length [(7, .own 1 (bools ((us.take 0).foldl (fun o u => o.set u.toNat true) o))), (8, .own 1 (ints us)), (9, iv (0 : Nat))] (sub_of ?_) ⟨0, by omega, rfl⟩ ?_
  · rw [List.take_zero, List.foldl_nil]
    exact dn
  · rintro m st ⟨j, hj, rfl⟩
    by_cases hlt : j < us.length
    · have hd : decide ((j : Int) < (us.length : Int)) = true := by rw [decide_eq_true_eq]; omega
      have hgi := ints_get hlt
      have hul2 := hu us[j] (List.getElem_mem hlt)
      have hrow : ((us.take j).foldl (fun o u => o.set u.toNat true) o).length = V := by rw [foldset_len, hol]
      have hft := fold_take (o := o) hlt
      generalize (us.take j).foldl (fun o u => o.set u.toNat true) o = q at hrow hft
      have hltq : us[j].toNat < q.length := by omega
      have hgq := bools_get hltq
      have hb2 : 0 ≤ us[j] ∧ us[j] < (q.length : Int) := ⟨by omega, by omega⟩
      repeat' first | refine g5 @hd @hgi @hgq @hb2 @bools_set ?_ | refine d5 @hd @hgi @hgq @hb2 @bools_set ?_ | refine j5 @hd @hgi @hgq @hb2 @bools_set (fun hg hgo => ?_) fun hg hgo => ?_ | refine ek_ret ?_ | refine ek_norm ?_ | refine ⟨by omega, ?_⟩ | rfl | trivial | intro _
      refine rd_norm [(7, .own 1 (bools ((us.take (j + 1)).foldl (fun o u => o.set u.toNat true) o))), (8, .own 1 (ints us)), (9, iv (j + 1 : Nat))] (sub_of ?_) (m - 1) (by omega) ⟨j + 1, by omega, rfl⟩
      rw [hft]
      exact dn
    · have hd : decide ((j : Int) < (us.length : Int)) = false := by rw [decide_eq_false_iff_not]; omega
      rw [List.take_of_length_le (by omega)]
      repeat' first | refine g1 @hd ?_ | refine d1 @hd ?_ | refine j1 @hd (fun hg hgo => ?_) fun hg hgo => ?_ | refine ek_ret ?_ | refine ek_norm ?_ | refine ⟨by omega, ?_⟩ | rfl | trivial | intro _
theorem v_l11Before (f : FnD) (V b at_ : Nat) (ins : List (List Bool)) (hV : f.values = (V : Int)) (hb : b < f.blocks.length) (hf : f.blocks.length ≤ 1000) (hi : InsOk V f.blocks.length ins) (hk : BlkIn f.blocks[b] V f.blocks.length) (ha : at_ ≤ f.blocks[b].list.length) : C2 CC F_spec_l11Before [.fv (fnF f), iv b, iv at_, .fv (insF ins)] (.own 1 (bools (beforeB f.blocks[b] at_ V ins))) [] := by
  have h1 := v_l11End f V b ins hV hb hf hi hk
  have hel := endB_len hi hk.succ
  obtain ⟨blocks, values⟩ := f
  simp only at hV hb hf hi hk h1 hel ha
  subst hV
  have hml : b < (blocks.map blockF).length := by rw [List.length_map]; exact hb
  have hsm := hi.small
  have hln := hk.len
  unfold beforeB
  generalize endB blocks[b].term V ins = e at h1 hel
  refine cw (keepF Try.f44) Try.f44 false ?_
  repeat' first | refine ck_intro (by first | exact h1) ?_ ?_ | refine g0 ?_ | refine d0 ?_ | refine j0 (fun hg hgo => ?_) fun hg hgo => ?_ | refine ek_ret ?_ | refine ek_norm ?_ | refine ⟨by omega, ?_⟩ | rfl | trivial | intro _
  refine pw_loop (fun m st => at_ + m ≤ blocks[b].list.length ∧ st = [(1, iv b), (2, iv at_), (4, .box (.fv (fnF ⟨blocks, V⟩))), (9, .own 1 (bools ((blocks[b].list.drop (at_ + m)).foldr backB e))), (10, iv ((at_ : Int) + (m : Int) - 1))]) (blocks[b].list.length - at_) [(1, iv b), (2, iv at_), (4, .box (.fv (fnF ⟨blocks, V⟩))), (9, .own 1 (bools ((blocks[b].list.drop (at_ + (blocks[b].list.length - at_))).foldr backB e))), (10, iv ((at_ : Int) + ((blocks[b].list.length - at_ : Nat) : Int) - 1))] (sub_of ?_) ⟨by omega, rfl⟩ ?_
  · rw [show at_ + (blocks[b].list.length - at_) = blocks[b].list.length by omega, List.drop_length, List.foldr_nil, show (at_ : Int) + ((blocks[b].list.length - at_ : Nat) : Int) - 1 = (blocks[b].list.length : Int) - 1 by omega]
    exact dn
  · rintro m st ⟨hm, rfl⟩
    cases m with
    | succ m =>
      have hd : decide ((at_ : Int) + ((m + 1 : Nat) : Int) - 1 ≥ (at_ : Int)) = true := by rw [decide_eq_true_eq]; omega
      have hlt : at_ + m < blocks[b].list.length := by omega
      have hidx : (at_ : Int) + ((m + 1 : Nat) : Int) - 1 = ((at_ + m : Nat) : Int) := by omega
      have hms : at_ + m < (blocks[b].list.map stF).length := by rw [List.length_map]; exact hlt
      have hq : ((blocks[b].list.drop (at_ + (m + 1))).foldr backB e).length = V := by rw [foldr_back_len, hel]
      have hbk := v_l11Back blocks[b].list[at_ + m] ((blocks[b].list.drop (at_ + (m + 1))).foldr backB e) (by rw [hq]; exact hk.list _ (List.getElem_mem hlt)) (by omega)
      have hdr : (blocks[b].list.drop (at_ + m)).foldr backB e = backB blocks[b].list[at_ + m] ((blocks[b].list.drop (at_ + (m + 1))).foldr backB e) := by
        rw [List.drop_eq_getElem_cons hlt, List.foldr_cons]; rfl
      generalize (blocks[b].list.drop (at_ + (m + 1))).foldr backB e = q at hq hbk hdr
      rw [hidx] at hd ⊢
      have hge : decide (((at_ + m : Nat) : Int) ≥ (at_ : Int)) = true := by rw [decide_eq_true_eq]; omega
      repeat' first | refine ck_intro (by first | exact hbk) ?_ ?_ | refine g1 @hge ?_ | refine d1 @hge ?_ | refine j1 @hge (fun hg hgo => ?_) fun hg hgo => ?_ | refine ek_ret ?_ | refine ek_norm ?_ | refine ⟨by omega, ?_⟩ | rfl | trivial | intro _
      refine rd_norm [(1, iv b), (2, iv at_), (4, .box (.fv (fnF ⟨blocks, V⟩))), (9, .own 1 (bools ((blocks[b].list.drop (at_ + m)).foldr backB e))), (10, iv ((at_ : Int) + (m : Int) - 1))] (sub_of ?_) m (by omega) ⟨by omega, rfl⟩
      rw [hdr, show (at_ : Int) + (m : Int) - 1 = ((at_ + m : Nat) : Int) - 1 by omega]
      exact dn
    | zero =>
      have hd : decide ((at_ : Int) + 0 - 1 ≥ (at_ : Int)) = false := by rw [decide_eq_false_iff_not]; omega
      repeat' first | refine g1 @hd ?_ | refine d1 @hd ?_ | refine j1 @hd (fun hg hgo => ?_) fun hg hgo => ?_ | refine ek_ret ?_ | refine ek_norm ?_ | refine ⟨by omega, ?_⟩ | rfl | trivial | intro _
def leB (a b : List Bool) : Prop := a.length = b.length ∧ ∀ i : Nat, a[i]? = some true → b[i]? = some true
theorem leB_refl (a : List Bool) : leB a a := ⟨rfl, fun _ h => h⟩
theorem leB_trans {a b c : List Bool} (h : leB a b) (g : leB b c) : leB a c := ⟨h.1.trans g.1, fun i x => g.2 i (h.2 i x)⟩
theorem leB_set {a b : List Bool} (h : leB a b) (i : Nat) (v : Bool) : leB (a.set i v) (b.set i v) := by
  refine ⟨by simp [h.1], fun j hj => ?_⟩
  rw [List.getElem?_set] at hj ⊢
  split at hj
  · rename_i hij
    rw [if_pos hij]
    split at hj
    · rename_i hl; rw [if_pos (by have := h.1; omega)]; exact hj
    · cases hj
  · rename_i hij
    rw [if_neg hij]; exact h.2 j hj
theorem leB_fold {us : List Int} : ∀ {a b : List Bool}, leB a b → leB (us.foldl (fun o u => o.set u.toNat true) a) (us.foldl (fun o u => o.set u.toNat true) b) := by
  induction us with
  | nil => exact fun h => h
  | cons u us ih => exact fun h => ih (leB_set h _ _)
theorem leB_back (x : StepD) {a b : List Bool} (h : leB a b) : leB (backB x a) (backB x b) := by
  unfold backB
  split
  · exact leB_fold (leB_set h _ _)
  · exact leB_fold h
theorem leB_backs : ∀ (l : List StepD) {a b : List Bool}, leB a b → leB (l.foldr backB a) (l.foldr backB b)
  | [], _, _, h => h
  | x :: l, _, _, h => leB_back x (leB_backs l h)
theorem leB_or {a b s t : List Bool} (h : leB a b) (g : leB s t) : leB (orB a s) (orB b t) := by
  unfold orB
  refine ⟨by rw [List.length_zipWith, List.length_zipWith, h.1, g.1], fun i hi => ?_⟩
  rw [List.getElem?_zipWith] at hi ⊢
  cases ha : a[i]? with
  | none => rw [ha] at hi; cases hi
  | some x =>
    cases hs : s[i]? with
    | none => rw [ha, hs] at hi; cases hi
    | some y =>
      rw [ha, hs] at hi
      simp only [Option.some.injEq] at hi
      have hb : i < b.length := by have := (List.getElem?_eq_some_iff.1 ha).1; have := h.1; omega
      have ht : i < t.length := by have := (List.getElem?_eq_some_iff.1 hs).1; have := g.1; omega
      rw [List.getElem?_eq_getElem hb, List.getElem?_eq_getElem ht]
      simp only [Option.some.injEq]
      cases x with
      | true =>
        have := h.2 i ha
        rw [List.getElem?_eq_getElem hb] at this
        injection this with this
        rw [this]; rfl
      | false =>
        simp only [Bool.false_or] at hi
        subst hi
        have := g.2 i hs
        rw [List.getElem?_eq_getElem ht] at this
        injection this with this
        rw [this]; simp
def leI (a b : List (List Bool)) : Prop := a.length = b.length ∧ ∀ (i : Nat) (s t : List Bool), a[i]? = some s → b[i]? = some t → leB s t
theorem leI_getD {a b : List (List Bool)} (h : leI a b) (k : Nat) : leB ((a[k]?).getD []) ((b[k]?).getD []) := by
  cases ha : a[k]? with
  | none =>
    have : b[k]? = none := by rw [List.getElem?_eq_none_iff] at ha ⊢; have := h.1; omega
    rw [this]; exact leB_refl _
  | some s =>
    have hk := (List.getElem?_eq_some_iff.1 ha).1
    have hk2 : k < b.length := by have := h.1; omega
    have hb := List.getElem?_eq_getElem hk2
    rw [hb]
    exact h.2 k s _ ha hb
theorem leB_out {t : TermD} {V : Nat} {a b : List (List Bool)} (h : leI a b) : leB (outB t V a) (outB t V b) := by
  unfold outB
  have : ∀ (ks : List Int) {o p : List Bool}, leB o p → leB (ks.foldl (fun o k => orB o ((a[k.toNat]?).getD [])) o) (ks.foldl (fun o k => orB o ((b[k.toNat]?).getD [])) p) := by
    intro ks
    induction ks with
    | nil => exact fun h => h
    | cons k ks ih => exact fun hop => ih (leB_or hop (leI_getD h _))
  exact this _ (leB_refl _)
theorem leB_before {b : BlockD} {at_ V : Nat} {i j : List (List Bool)} (h : leI i j) : leB (beforeB b at_ V i) (beforeB b at_ V j) := leB_backs _ (leB_fold (leB_out h))
def bAt (bs : List BlockD) (b : Nat) : BlockD := (bs[b]?).getD ⟨[], [], ⟨0, 0, 0, 0⟩⟩
def nowB (bs : List BlockD) (V b : Nat) (ins : List (List Bool)) : List Bool := beforeB (bAt bs b) 0 V ins
def updB (bs : List BlockD) (V b : Nat) (ins : List (List Bool)) : List (List Bool) := ins.set b (nowB bs V b ins)
def sweepN (bs : List BlockD) (V : Nat) : Nat → List (List Bool) → List (List Bool)
  | 0, ins => ins
  | k + 1, ins => sweepN bs V k (updB bs V k ins)
def chgN (bs : List BlockD) (V : Nat) : Nat → List (List Bool) → Bool
  | 0, _ => false
  | k + 1, ins => !decide (ins[k]? = some (nowB bs V k ins)) || chgN bs V k (updB bs V k ins)
structure Grow (bs : List BlockD) (V : Nat) (ins : List (List Bool)) : Prop where
  ok : InsOk V bs.length ins
  blk : ∀ (b : Nat) (h : b < bs.length), BlkIn bs[b] V bs.length
  le : ∀ (b : Nat) (s : List Bool), ins[b]? = some s → leB s (nowB bs V b ins)
theorem before_len {b : BlockD} {at_ V n : Nat} {ins : List (List Bool)} (hi : InsOk V n ins) (hk : BlkIn b V n) : (beforeB b at_ V ins).length = V := by
  unfold beforeB; rw [foldr_back_len, endB_len hi hk.succ]
theorem bAt_lt {bs : List BlockD} {b : Nat} (h : b < bs.length) : bAt bs b = bs[b] := by unfold bAt; rw [List.getElem?_eq_getElem h]; rfl
theorem upd_le {bs : List BlockD} {V b : Nat} {ins : List (List Bool)} (g : Grow bs V ins) (hb : b < bs.length) : leI ins (updB bs V b ins) := by
  unfold updB
  refine ⟨by simp, fun i s t hs ht => ?_⟩
  rw [List.getElem?_set] at ht
  split at ht
  · rename_i hbi
    split at ht
    · injection ht with ht; subst ht; subst hbi
      exact g.le b s hs
    · cases ht
  · rw [hs] at ht; injection ht with ht; subst ht; exact leB_refl _
theorem upd_grow {bs : List BlockD} {V b : Nat} {ins : List (List Bool)} (g : Grow bs V ins) (hb : b < bs.length) : Grow bs V (updB bs V b ins) := by
  have hle := upd_le g hb
  refine ⟨⟨by unfold updB; rw [List.length_set]; exact g.ok.len, fun s hs => ?_, g.ok.small⟩, g.blk, fun i s hs => ?_⟩
  · unfold updB at hs
    rcases List.mem_or_eq_of_mem_set hs with h | rfl
    · exact g.ok.row s h
    · unfold nowB; rw [bAt_lt hb]; exact before_len g.ok (g.blk b hb)
  · have hmono : leB (nowB bs V i ins) (nowB bs V i (updB bs V b ins)) := leB_before hle
    unfold updB at hs
    rw [List.getElem?_set] at hs
    split at hs
    · rename_i hbi
      split at hs
      · injection hs with hs; subst hs; subst hbi; exact hmono
      · cases hs
    · exact leB_trans (g.le i s hs) hmono
def cntF (ins : List (List Bool)) : Nat := (ins.map fun s => s.count false).sum
theorem leB_cnt : ∀ {a b : List Bool}, leB a b → b.count false ≤ a.count false ∧ (a ≠ b → b.count false < a.count false)
  | [], b, h => by
    have : b = [] := List.eq_nil_of_length_eq_zero h.1.symm
    subst this; exact ⟨Nat.le_refl _, fun hh => absurd rfl hh⟩
  | x :: a, [], h => by have := h.1; simp at this
  | x :: a, y :: b, h => by
    have ht : leB a b := ⟨by have := h.1; simpa using this, fun i hi => by have := h.2 (i + 1) (by simpa using hi); simpa using this⟩
    obtain ⟨i1, i2⟩ := leB_cnt ht
    have h0 : x = true → y = true := fun hx => by
      have := h.2 0 (by simp [hx]); simpa using this
    cases x with
    | true =>
      have := h0 rfl; subst this
      simp only [List.count_cons, beq_iff_eq, Bool.true_eq_false, if_false, Nat.add_zero]
      exact ⟨i1, fun hh => i2 (fun e => hh (by rw [e]))⟩
    | false =>
      cases y with
      | true =>
        simp only [List.count_cons, beq_iff_eq, Bool.true_eq_false, if_false, Nat.add_zero, beq_self_eq_true, if_true]
        exact ⟨by omega, fun _ => by omega⟩
      | false =>
        simp only [List.count_cons, beq_self_eq_true, if_true]
        exact ⟨by omega, fun hh => by have := i2 (fun e => hh (by rw [e])); omega⟩
theorem sum_set {l : List (List Bool)} : ∀ {b : Nat} {s t : List Bool}, l[b]? = some s → ((l.set b t).map fun s => s.count false).sum + s.count false = (l.map fun s => s.count false).sum + t.count false := by
  induction l with
  | nil => intro b s t h; simp at h
  | cons a l ih =>
    intro b s t h
    cases b with
    | zero =>
      simp only [List.getElem?_cons_zero, Option.some.injEq] at h
      subst h
      simp only [List.set_cons_zero, List.map_cons, List.sum_cons]
      omega
    | succ b =>
      simp only [List.getElem?_cons_succ] at h
      have := ih (t := t) h
      simp only [List.set_cons_succ, List.map_cons, List.sum_cons]
      omega
theorem upd_cnt {bs : List BlockD} {V b : Nat} {ins : List (List Bool)} (g : Grow bs V ins) (hb : b < bs.length) : cntF (updB bs V b ins) ≤ cntF ins ∧ (ins[b]? ≠ some (nowB bs V b ins) → cntF (updB bs V b ins) < cntF ins) := by
  have hbi : b < ins.length := by rw [g.ok.len]; exact hb
  have hs := List.getElem?_eq_getElem hbi
  have h1 := sum_set (t := nowB bs V b ins) hs
  obtain ⟨c1, c2⟩ := leB_cnt (g.le b _ hs)
  unfold cntF updB
  refine ⟨by omega, fun hne => ?_⟩
  have := c2 (fun e => hne (by rw [hs, e]))
  omega
theorem sweep_grow {bs : List BlockD} {V : Nat} : ∀ (k : Nat) {ins : List (List Bool)}, k ≤ bs.length → Grow bs V ins → Grow bs V (sweepN bs V k ins) ∧ cntF (sweepN bs V k ins) ≤ cntF ins ∧ (chgN bs V k ins = true → cntF (sweepN bs V k ins) < cntF ins)
  | 0, ins, _, g => ⟨g, Nat.le_refl _, fun h => by cases h⟩
  | k + 1, ins, hk, g => by
    have g2 := upd_grow g (b := k) (by omega)
    obtain ⟨c1, c2⟩ := upd_cnt g (b := k) (by omega)
    obtain ⟨r1, r2, r3⟩ := sweep_grow k (by omega) g2
    refine ⟨r1, ?_, fun h => ?_⟩
    · unfold sweepN; omega
    · unfold sweepN
      unfold chgN at h
      rw [Bool.or_eq_true, Bool.not_eq_true', decide_eq_false_iff_not] at h
      rcases h with h | h
      · have := c2 h; omega
      · have := r3 h; omega
def fixN (bs : List BlockD) (V : Nat) : Nat → List (List Bool) → List (List Bool)
  | 0, ins => ins
  | k + 1, ins => if chgN bs V bs.length ins = true then fixN bs V k (sweepN bs V bs.length ins) else sweepN bs V bs.length ins
theorem fixN_more {bs : List BlockD} {V : Nat} : ∀ (k k' : Nat) {ins : List (List Bool)}, Grow bs V ins → cntF ins < k → cntF ins < k' → fixN bs V k ins = fixN bs V k' ins
  | 0, _, _, _, h, _ => by omega
  | _ + 1, 0, _, _, _, h => by omega
  | k + 1, k' + 1, ins, g, h1, h2 => by
    unfold fixN
    obtain ⟨r1, r2, r3⟩ := sweep_grow bs.length (Nat.le_refl _) g
    split
    · rename_i hc
      have := r3 hc
      exact fixN_more k k' r1 (by omega) (by omega)
    · rfl
def lfpB (bs : List BlockD) (V : Nat) (ins : List (List Bool)) : List (List Bool) := fixN bs V (cntF ins + 1) ins
theorem lfpB_eq {bs : List BlockD} {V : Nat} {ins : List (List Bool)} (g : Grow bs V ins) : lfpB bs V ins = if chgN bs V bs.length ins = true then lfpB bs V (sweepN bs V bs.length ins) else sweepN bs V bs.length ins := by
  conv => lhs; unfold lfpB fixN
  obtain ⟨r1, r2, r3⟩ := sweep_grow bs.length (Nat.le_refl _) g
  split
  · rename_i hc
    have := r3 hc
    unfold lfpB
    exact fixN_more _ _ r1 (by omega) (by omega)
  · rfl
theorem fixN_grow {bs : List BlockD} {V : Nat} : ∀ (k : Nat) {ins : List (List Bool)}, Grow bs V ins → Grow bs V (fixN bs V k ins)
  | 0, _, g => g
  | k + 1, ins, g => by
    unfold fixN
    obtain ⟨r1, _, _⟩ := sweep_grow bs.length (Nat.le_refl _) g
    split
    · exact fixN_grow k r1
    · exact r1
def emptyI (V n : Nat) : List (List Bool) := List.replicate n (List.replicate V false)
theorem leB_empty {V : Nat} {b : List Bool} (h : b.length = V) : leB (List.replicate V false) b := by
  refine ⟨by simp [h], fun i hi => ?_⟩
  rw [List.getElem?_replicate] at hi
  split at hi <;> cases hi
theorem empty_grow {bs : List BlockD} {V : Nat} (hV : V ≤ 1000) (hn : bs.length ≤ 1000) (hb : ∀ (b : Nat) (h : b < bs.length), BlkIn bs[b] V bs.length) : Grow bs V (emptyI V bs.length) := by
  have hok : InsOk V bs.length (emptyI V bs.length) := ⟨by unfold emptyI; simp, fun s hs => by unfold emptyI at hs; rw [List.mem_replicate] at hs; rw [hs.2]; simp, hV, hn⟩
  refine ⟨hok, hb, fun b s hs => ?_⟩
  unfold emptyI at hs
  rw [List.getElem?_replicate] at hs
  split at hs
  · rename_i hlt
    injection hs with hs; subst hs
    exact leB_empty (by unfold nowB; rw [bAt_lt hlt]; exact before_len hok (hb b hlt))
  · cases hs
def liveB (bs : List BlockD) (V : Nat) : List (List Bool) := lfpB bs V (emptyI V bs.length)
theorem live_grow {bs : List BlockD} {V : Nat} (hV : V ≤ 1000) (hn : bs.length ≤ 1000) (hb : ∀ (b : Nat) (h : b < bs.length), BlkIn bs[b] V bs.length) : Grow bs V (liveB bs V) := fixN_grow _ (empty_grow hV hn hb)
def insO (ins : List (List Bool)) : List DV := ins.map fun s => .own 1 (bools s)
@[go_sem] theorem insO_len {ins : List (List Bool)} : (insO ins).length = ins.length := by unfold insO; simp
@[go_sem] theorem nrs_insO {ins : List (List Bool)} : noRefs (insO ins) = true := by
  unfold insO
  induction ins with
  | nil => rfl
  | cons a l ih => rw [List.map_cons, nrs_cons, nr_own, nrs_bools, ih]; rfl
@[go_sem] theorem fzL_insO {ins : List (List Bool)} : fzL (insO ins) = some (ins.map setF) := by
  unfold insO
  induction ins with
  | nil => rfl
  | cons a l ih => rw [List.map_cons, fzL_cons, ih, fzD_own, fzL_bools]; rfl
@[go_sem] theorem fvs_ownc {z : Nat} {a l : List DV} : fvs (.own z a :: l) = false := nr rfl
@[go_sem] theorem emptyI_len {V j : Nat} : (emptyI V j).length = j := by unfold emptyI; simp
theorem insO_emp {V j : Nat} : insO (emptyI V j) ++ [.own 1 (List.replicate V (.fv (.bool false)))] = insO (emptyI V (j + 1)) := by
  unfold insO emptyI
  rw [List.replicate_succ', List.map_append, bools_rep]; rfl
theorem insO_get {ins : List (List Bool)} {i : Nat} (h : i < ins.length) : (insO ins)[i]? = some (.own 1 (bools ins[i])) := by unfold insO; simp [h]
theorem insO_set {ins : List (List Bool)} {i : Nat} {s : List Bool} : (insO ins).set i (.own 1 (bools s)) = insO (ins.set i s) := by unfold insO; rw [List.map_set]
def difU (a b : List Bool) (v : Nat) : Bool := !decide (a.take v = b.take v)
theorem difU_0 {a b : List Bool} : difU a b 0 = false := by unfold difU; simp
theorem difU_s {a b : List Bool} {v : Nat} (ha : v < a.length) (hb : v < b.length) : difU a b (v + 1) = (difU a b v || !(a[v] == b[v])) := by
  unfold difU
  rw [List.take_succ_eq_append_getElem ha, List.take_succ_eq_append_getElem hb, Bool.eq_iff_iff]
  simp only [Bool.not_eq_true', decide_eq_false_iff_not, Bool.or_eq_true, beq_eq_false_iff_ne, ne_eq]
  constructor
  · intro h
    by_cases h1 : a.take v = b.take v
    · right; intro h2; exact h (by rw [h1, h2])
    · exact .inl h1
  · rintro (h | h) h2
    · exact h (List.append_inj_left' h2 rfl)
    · have := List.append_inj_right' h2 rfl
      injection this with this; exact h this
theorem difU_n {a b : List Bool} {v : Nat} (ha : a.length ≤ v) (hb : b.length ≤ v) : difU a b v = !decide (a = b) := by
  unfold difU; rw [List.take_of_length_le ha, List.take_of_length_le hb]
theorem v_l11In (f : FnD) (V : Nat) (hV : f.values = (V : Int)) (hV2 : V ≤ 1000) (hf : f.blocks.length ≤ 1000) (hk : ∀ (b : Nat) (h : b < f.blocks.length), BlkIn f.blocks[b] V f.blocks.length) : C2 CC F_spec_l11In [.fv (fnF f)] (.own 1 (insO (liveB f.blocks V))) [] := by
  have hgr := empty_grow hV2 hf hk
  obtain ⟨blocks, values⟩ := f
  simp only at hV hf hk hgr
  subst hV
  have hmk : 0 ≤ (V : Int) ∧ (V : Int) < 4294967296 := ⟨by omega, by omega⟩
  refine cw (keepF Try.f45) Try.f45 false ?_
  repeat' first | refine pd3 42 [0, 1, 3, 3, 15, 31, 3, 3, 195, 451, 3, 1987, 4035, 8191, 16383, 32767] [0, 0, 0, 0, 0, 1, 0, 0, 0, 1, 0, 0, 1, 0, 0, 0] false ?_ | refine g0 ?_ | refine d0 ?_ | refine j0 (fun hg hgo => ?_) fun hg hgo => ?_ | refine ek_ret ?_ | refine ek_norm ?_ | refine ⟨by omega, ?_⟩ | rfl | trivial | intro _
  refine pw_loop (fun m st => ∃ j : Nat, j + m = blocks.length ∧ st = [(1, .box (.fv (fnF ⟨blocks, V⟩))), (3, .own 1 (insO (emptyI V j))), (4, iv j)]) blocks.length [(1, .box (.fv (fnF ⟨blocks, V⟩))), (3, .own 1 (insO (emptyI V 0))), (4, iv (0 : Nat))] (sub_of ?_) ⟨0, by omega, rfl⟩ ?_
  · exact dn
  · rintro m st ⟨j, hj, rfl⟩
    by_cases hlt : j < blocks.length
    · have hd : decide ((j : Int) < (blocks.length : Int)) = true := by rw [decide_eq_true_eq]; omega
      repeat' first | refine g5 @hd @hmk @insO_emp @insO_len @emptyI_len ?_ | refine d5 @hd @hmk @insO_emp @insO_len @emptyI_len ?_ | refine j5 @hd @hmk @insO_emp @insO_len @emptyI_len (fun hg hgo => ?_) fun hg hgo => ?_ | refine ek_ret ?_ | refine ek_norm ?_ | refine ⟨by omega, ?_⟩ | rfl | trivial | intro _
      refine rd_norm [(1, .box (.fv (fnF ⟨blocks, V⟩))), (3, .own 1 (insO (emptyI V (j + 1)))), (4, iv (j + 1 : Nat))] (sub_of ?_) (m - 1) (by omega) ⟨j + 1, by omega, rfl⟩
      exact dn
    · have hd : decide ((j : Int) < (blocks.length : Int)) = false := by rw [decide_eq_false_iff_not]; omega
      have hjn : j = blocks.length := by omega
      subst hjn
      repeat' first | refine g1 @hd ?_ | refine d1 @hd ?_ | refine j1 @hd (fun hg hgo => ?_) fun hg hgo => ?_ | refine ek_ret ?_ | refine ek_norm ?_ | refine ⟨by omega, ?_⟩ | rfl | trivial | intro _
      unfold liveB
      generalize hL : lfpB blocks V (emptyI V blocks.length) = L
      refine pw_loop (fun m st => ∃ (ins : List (List Bool)) (more : Bool), Grow blocks V ins ∧ m = (if more = true then cntF ins + 1 else 0) ∧ (if more = true then lfpB blocks V ins = L else ins = L) ∧ st = [(1, .box (.fv (fnF ⟨blocks, V⟩))), (3, .own 1 (insO ins)), (5, bv more)]) (cntF (emptyI V blocks.length) + 1) [(1, .box (.fv (fnF ⟨blocks, V⟩))), (3, .own 1 (insO (emptyI V blocks.length))), (5, bv true)] (sub_of ?_) ⟨_, true, hgr, rfl, hL, rfl⟩ ?_
      · exact dn
      · rintro m2 st ⟨ins, more, hg, hm, hfix, rfl⟩
        cases more with
        | false =>
          simp only [Bool.false_eq_true, if_false] at hfix
          subst hfix
          exact dn
        | true =>
          simp only [if_true] at hm hfix
          have heq := lfpB_eq hg
          rw [hfix] at heq
          obtain ⟨w1, w2, w3⟩ := sweep_grow blocks.length (Nat.le_refl _) hg
          generalize hS : sweepN blocks V blocks.length ins = S at heq w1 w2 w3
          generalize hC : chgN blocks V blocks.length ins = c at heq w3
          repeat' first | refine g0 ?_ | refine d0 ?_ | refine j0 (fun hg hgo => ?_) fun hg hgo => ?_ | refine ek_ret ?_ | refine ek_norm ?_ | refine ⟨by omega, ?_⟩ | rfl | trivial | intro _
          refine pw_loop (fun m st => ∃ (cu : List (List Bool)) (mo : Bool), m ≤ blocks.length ∧ Grow blocks V cu ∧ sweepN blocks V m cu = S ∧ (mo || chgN blocks V m cu) = c ∧ st = [(1, .box (.fv (fnF ⟨blocks, V⟩))), (3, .own 1 (insO cu)), (5, bv mo), (6, iv ((m : Int) - 1))]) blocks.length [(1, .box (.fv (fnF ⟨blocks, V⟩))), (3, .own 1 (insO ins)), (5, bv false), (6, iv ((blocks.length : Int) - 1))] (sub_of ?_) ⟨ins, false, Nat.le_refl _, hg, hS, by rw [Bool.false_or]; exact hC, rfl⟩ ?_
          · exact dn
          · rintro k st ⟨cu, mo, hkn, hgc, hsw, hch, rfl⟩
            cases k with
            | zero =>
              have hdz : decide (((0 : Nat) : Int) - 1 ≥ 0) = false := by rw [decide_eq_false_iff_not]; omega
              rw [show ((0 : Nat) : Int) - 1 = -1 by omega]
              have hsw' : cu = S := hsw
              have hch' : mo = c := by have := hch; unfold chgN at this; rw [Bool.or_false] at this; exact this
              subst hsw'; subst hch'
              repeat' first | refine g0 ?_ | refine d0 ?_ | refine j0 (fun hg hgo => ?_) fun hg hgo => ?_ | refine ek_ret ?_ | refine ek_norm ?_ | refine ⟨by omega, ?_⟩ | rfl | trivial | intro _
              refine rd_norm [(1, .box (.fv (fnF ⟨blocks, V⟩))), (3, .own 1 (insO cu)), (5, bv mo)] (sub_of ?_) (if mo = true then cntF cu + 1 else 0) ?_ ⟨cu, mo, hgc, rfl, ?_, rfl⟩
              · exact dn
              · cases mo with
                | true => simp only [if_true]; have := w3 rfl; omega
                | false => simp only [Bool.false_eq_true, if_false]; omega
              · rw [heq]; cases mo <;> rfl
            | succ k =>
              have hki : ((k + 1 : Nat) : Int) - 1 = (k : Int) := by omega
              rw [hki]
              have hge : decide ((k : Int) ≥ 0) = true := by rw [decide_eq_true_eq]; omega
              have hkl : k < blocks.length := by omega
              have hbk := hk k hkl
              have hbf0 := v_l11Before ⟨blocks, V⟩ V k 0 cu rfl hkl hf hgc.ok hbk (Nat.zero_le _)
              have hnow : beforeB blocks[k] 0 V cu = nowB blocks V k cu := by unfold nowB; rw [bAt_lt hkl]
              simp only at hbf0
              rw [hnow] at hbf0
              have hnl : (nowB blocks V k cu).length = V := by rw [← hnow]; exact before_len hgc.ok hbk
              have hgu := upd_grow hgc hkl
              have hcl : k < cu.length := by rw [hgc.ok.len]; exact hkl
              unfold sweepN at hsw
              unfold chgN at hch
              have hrl := hgc.ok.row _ (List.getElem_mem hcl)
              have hcs : (cu[k]? = some (nowB blocks V k cu)) ↔ nowB blocks V k cu = cu[k] := by rw [List.getElem?_eq_getElem hcl]; constructor <;> (intro h; first | (injection h with h; exact h.symm) | rw [h])
              have hup : updB blocks V k cu = cu.set k (nowB blocks V k cu) := rfl
              generalize nowB blocks V k cu = now at hbf0 hnl hch hcs hup
              repeat' first | refine ck_intro (by first | exact hbf0) ?_ ?_ | refine g1 @hge ?_ | refine d1 @hge ?_ | refine j1 @hge (fun hg hgo => ?_) fun hg hgo => ?_ | refine ek_ret ?_ | refine ek_norm ?_ | refine ⟨by omega, ?_⟩ | rfl | trivial | intro _
              have hgi := insO_get hcl
              refine pw_loop (fun m st => ∃ v : Nat, v + m = V ∧ st = [(1, .box (.fv (fnF ⟨blocks, V⟩))), (3, .own 1 (insO cu)), (5, bv (mo || difU now cu[k] v)), (6, iv k), (7, .own 1 (bools now)), (8, iv v)]) V [(1, .box (.fv (fnF ⟨blocks, V⟩))), (3, .own 1 (insO cu)), (5, bv (mo || difU now cu[k] 0)), (6, iv k), (7, .own 1 (bools now)), (8, iv (0 : Nat))] (sub_of ?_) ⟨0, by omega, rfl⟩ ?_
              · rw [difU_0, Bool.or_false]
                exact dn
              · rintro m3 st ⟨v, hv, rfl⟩
                by_cases hlv : v < V
                · have hdv : decide ((v : Int) < (V : Int)) = true := by rw [decide_eq_true_eq]; omega
                  have hvn : v < now.length := by omega
                  have hvc : v < cu[k].length := by omega
                  have hgn := bools_get hvn
                  have hgv := bools_get hvc
                  have hdf := difU_s hvn hvc
                  have hst : (mo || difU now cu[k] (v + 1)) = ((mo || difU now cu[k] v) || !(now[v] == cu[k][v])) := by rw [hdf, Bool.or_assoc]
                  generalize (mo || difU now cu[k] v) = mv at hst
                  repeat' first | refine pd3 42 [0, 1, 3, 3, 15, 31, 3, 3, 195, 451, 3, 1987, 4035, 8191, 16383, 32767] [0, 0, 0, 0, 0, 1, 0, 0, 0, 1, 0, 0, 1, 0, 0, 0] false ?_ | refine g4 @hdv @hgn @hgi @hgv ?_ | refine d4 @hdv @hgn @hgi @hgv ?_ | refine j4 @hdv @hgn @hgi @hgv (fun hg hgo => ?_) fun hg hgo => ?_ | refine ek_ret ?_ | refine ek_norm ?_ | refine ⟨by omega, ?_⟩ | rfl | trivial | intro _
                  · refine rd_norm [(1, .box (.fv (fnF ⟨blocks, V⟩))), (3, .own 1 (insO cu)), (5, bv (mo || difU now cu[k] (v + 1))), (6, iv k), (7, .own 1 (bools now)), (8, iv (v + 1 : Nat))] (sub_of ?_) (m3 - 1) (by omega) ⟨v + 1, by omega, rfl⟩
                    rw [hst, show mv = true by assumption, Bool.true_or]
                    exact dn
                  · refine rd_norm [(1, .box (.fv (fnF ⟨blocks, V⟩))), (3, .own 1 (insO cu)), (5, bv (mo || difU now cu[k] (v + 1))), (6, iv k), (7, .own 1 (bools now)), (8, iv (v + 1 : Nat))] (sub_of ?_) (m3 - 1) (by omega) ⟨v + 1, by omega, rfl⟩
                    rw [hst, show mv = false by assumption, Bool.false_or]
                    exact dn
                · have hdv : decide ((v : Int) < (V : Int)) = false := by rw [decide_eq_false_iff_not]; omega
                  rw [difU_n (by omega) (by omega)]
                  repeat' first | refine g4 @hdv @hgi @insO_set @insO_len ?_ | refine d4 @hdv @hgi @insO_set @insO_len ?_ | refine j4 @hdv @hgi @insO_set @insO_len (fun hg hgo => ?_) fun hg hgo => ?_ | refine ek_ret ?_ | refine ek_norm ?_ | refine ⟨by omega, ?_⟩ | rfl | trivial | intro _
                  refine rd_norm [(1, .box (.fv (fnF ⟨blocks, V⟩))), (3, .own 1 (insO (updB blocks V k cu))), (5, bv (mo || !decide (now = cu[k]))), (6, iv ((k : Int) - 1))] (sub_of ?_) k (by omega) ⟨_, _, by omega, hgu, hsw, ?_, rfl⟩
                  · rw [hup]
                    exact dn
                  · rw [← hch, Bool.or_assoc]
                    congr 2
                    rw [Bool.eq_iff_iff]; simp [hcs]
def set2 (out : List (List Bool)) (i j : Nat) : List (List Bool) := out.set i (((out[i]?).getD []).set j true)
theorem set2_eq {out : List (List Bool)} {i j : Nat} (h : i < out.length) : set2 out i j = out.set i (out[i].set j true) := by unfold set2; rw [List.getElem?_eq_getElem h]; rfl
def cndC (d : Int) (x : StepD) (lv : Bool) (v : Nat) : Bool := !decide ((v : Int) = d) && lv && (!decide (x.op = 25) || !decide ((v : Int) = x.a))
def markC (d : Int) (x : StepD) (live : List Bool) (out : List (List Bool)) (v : Nat) : List (List Bool) := if cndC d x ((live[v]?).getD false) v = true then set2 (set2 out d.toNat v) v d.toNat else out
def stpC (x : StepD) (live : List Bool) (V : Nat) (out : List (List Bool)) : List (List Bool) := if insDefI x ≥ 0 then (List.range V).foldl (markC (insDefI x) x live) out else out
def mrkC (x : StepD) (live : List Bool) (v : Nat) (out : List (List Bool)) : List (List Bool) := (List.range v).foldl (markC (insDefI x) x live) out
def insAt (l : List StepD) (k : Nat) : StepD := (l[k]?).getD ⟨0, 0, 0, 0, 0⟩
def blkC (b : BlockD) (V : Nat) (ins : List (List Bool)) (n : Nat) (out : List (List Bool)) : List (List Bool) := (List.range n).foldl (fun out k => stpC (insAt b.list k) (beforeB b (k + 1) V ins) V out) out
def clashN (bs : List BlockD) (V : Nat) (ins : List (List Bool)) (n : Nat) : List (List Bool) := (List.range n).foldl (fun out b => blkC (bAt bs b) V ins (bAt bs b).list.length out) (emptyI V V)
theorem set2_ok {V i j : Nat} {out : List (List Bool)} (h : InsOk V V out) : InsOk V V (set2 out i j) := by
  refine ⟨by unfold set2; rw [List.length_set]; exact h.len, fun s hs => ?_, h.small⟩
  unfold set2 at hs
  by_cases hi : i < out.length
  · rcases List.mem_or_eq_of_mem_set hs with hs | rfl
    · exact h.row s hs
    · rw [List.getElem?_eq_getElem hi, Option.getD_some, List.length_set]; exact h.row _ (List.getElem_mem hi)
  · rw [List.set_eq_of_length_le (by omega)] at hs; exact h.row s hs
theorem markC_ok {V : Nat} {d : Int} {x : StepD} {live : List Bool} {out : List (List Bool)} {v : Nat} (h : InsOk V V out) : InsOk V V (markC d x live out v) := by
  unfold markC; split
  · exact set2_ok (set2_ok h)
  · exact h
theorem foldl_ok {V : Nat} {f : List (List Bool) → Nat → List (List Bool)} (hf : ∀ o k, InsOk V V o → InsOk V V (f o k)) : ∀ (l : List Nat) {out : List (List Bool)}, InsOk V V out → InsOk V V (l.foldl f out)
  | [], _, h => h
  | k :: l, _, h => foldl_ok hf l (hf _ k h)
theorem mrkC_ok {V v : Nat} {x : StepD} {live : List Bool} {out : List (List Bool)} (h : InsOk V V out) : InsOk V V (mrkC x live v out) := foldl_ok (fun o k ho => markC_ok ho) _ h
theorem stpC_ok {V : Nat} {x : StepD} {live : List Bool} {out : List (List Bool)} (h : InsOk V V out) : InsOk V V (stpC x live V out) := by
  unfold stpC; split
  · exact foldl_ok (fun o k ho => markC_ok ho) _ h
  · exact h
theorem blkC_ok {V n : Nat} {b : BlockD} {ins out : List (List Bool)} (h : InsOk V V out) : InsOk V V (blkC b V ins n out) := foldl_ok (fun o k ho => stpC_ok ho) _ h
theorem empty_ok {V n : Nat} (hV : V ≤ 1000) (hn : n ≤ 1000) : InsOk V n (emptyI V n) := ⟨by unfold emptyI; simp, fun s hs => by unfold emptyI at hs; rw [List.mem_replicate] at hs; rw [hs.2]; simp, hV, hn⟩
theorem clashN_ok {V n : Nat} {bs : List BlockD} {ins : List (List Bool)} (hV : V ≤ 1000) : InsOk V V (clashN bs V ins n) := foldl_ok (fun o k ho => blkC_ok ho) _ (empty_ok hV hV)
theorem range_fold {α : Type} {f : α → Nat → α} {a : α} {n : Nat} : (List.range (n + 1)).foldl f a = f ((List.range n).foldl f a) n := by rw [List.range_succ, List.foldl_append]; rfl
theorem v_l12Clashes (f : FnD) (V : Nat) (hV : f.values = (V : Int)) (hV2 : V ≤ 1000) (hf : f.blocks.length ≤ 1000) (hk : ∀ (b : Nat) (h : b < f.blocks.length), BlkIn f.blocks[b] V f.blocks.length) : C2 CC F_spec_l12Clashes [.fv (fnF f)] (.own 1 (insO (clashN f.blocks V (liveB f.blocks V) f.blocks.length))) [] := by
  have h1 := v_l11In f V hV hV2 hf hk
  have hlg := live_grow hV2 hf hk
  obtain ⟨blocks, values⟩ := f
  simp only at hV hf hk h1 hlg
  subst hV
  have hlok := hlg.ok
  generalize liveB blocks V = ins at h1 hlok
  have hmk : 0 ≤ (V : Int) ∧ (V : Int) < 4294967296 := ⟨by omega, by omega⟩
  refine cw (keepF Try.f52) Try.f52 false ?_
  repeat' first | refine g0 ?_ | refine d0 ?_ | refine j0 (fun hg hgo => ?_) fun hg hgo => ?_ | refine ek_ret ?_ | refine ek_norm ?_ | refine ⟨by omega, ?_⟩ | rfl | trivial | intro _
  refine pw_loop (fun m st => ∃ j : Nat, j + m = V ∧ st = [(1, .box (.fv (fnF ⟨blocks, V⟩))), (3, .own 1 (insO (emptyI V j))), (4, iv j)]) V [(1, .box (.fv (fnF ⟨blocks, V⟩))), (3, .own 1 (insO (emptyI V 0))), (4, iv (0 : Nat))] (sub_of ?_) ⟨0, by omega, rfl⟩ ?_
  · exact dn
  · rintro m st ⟨j, hj, rfl⟩
    by_cases hlt : j < V
    · have hd : decide ((j : Int) < (V : Int)) = true := by rw [decide_eq_true_eq]; omega
      repeat' first | refine g4 @hd @hmk @insO_emp @emptyI_len ?_ | refine d4 @hd @hmk @insO_emp @emptyI_len ?_ | refine j4 @hd @hmk @insO_emp @emptyI_len (fun hg hgo => ?_) fun hg hgo => ?_ | refine ek_ret ?_ | refine ek_norm ?_ | refine ⟨by omega, ?_⟩ | rfl | trivial | intro _
      refine rd_norm [(1, .box (.fv (fnF ⟨blocks, V⟩))), (3, .own 1 (insO (emptyI V (j + 1)))), (4, iv (j + 1 : Nat))] (sub_of ?_) (m - 1) (by omega) ⟨j + 1, by omega, rfl⟩
      exact dn
    · have hd : decide ((j : Int) < (V : Int)) = false := by rw [decide_eq_false_iff_not]; omega
      have hjn : j = V := by omega
      subst hjn
      repeat' first | refine ck_intro (by first | exact h1) ?_ ?_ | refine g1 @hd ?_ | refine d1 @hd ?_ | refine j1 @hd (fun hg hgo => ?_) fun hg hgo => ?_ | refine ek_ret ?_ | refine ek_norm ?_ | refine ⟨by omega, ?_⟩ | rfl | trivial | intro _
      refine pw_loop (fun m st => ∃ b : Nat, b + m = blocks.length ∧ st = [(1, .box (.fv (fnF ⟨blocks, j⟩))), (3, .own 1 (insO (clashN blocks j ins b))), (5, .own 1 (insO ins)), (6, iv b)]) blocks.length [(1, .box (.fv (fnF ⟨blocks, j⟩))), (3, .own 1 (insO (clashN blocks j ins 0))), (5, .own 1 (insO ins)), (6, iv (0 : Nat))] (sub_of ?_) ⟨0, by omega, rfl⟩ ?_
      · have h0 : clashN blocks j ins 0 = emptyI j j := rfl
        rw [h0]
        exact dn
      · rintro m st ⟨b, hb, rfl⟩
        by_cases hlb : b < blocks.length
        · have hdb : decide ((b : Int) < (blocks.length : Int)) = true := by rw [decide_eq_true_eq]; omega
          have hcn : clashN blocks j ins (b + 1) = blkC blocks[b] j ins blocks[b].list.length (clashN blocks j ins b) := by unfold clashN; rw [range_fold, bAt_lt hlb]
          have hco := clashN_ok (bs := blocks) (ins := ins) (n := b) hV2
          generalize clashN blocks j ins b = out0 at hcn hco
          have hml : b < (blocks.map blockF).length := by rw [List.length_map]; exact hlb
          have hbk := hk b hlb
          repeat' first | refine g1 @hdb ?_ | refine d1 @hdb ?_ | refine j1 @hdb (fun hg hgo => ?_) fun hg hgo => ?_ | refine ek_ret ?_ | refine ek_norm ?_ | refine ⟨by omega, ?_⟩ | rfl | trivial | intro _
          refine pw_loop (fun m st => ∃ k : Nat, k + m = blocks[b].list.length ∧ st = [(1, .box (.fv (fnF ⟨blocks, j⟩))), (3, .own 1 (insO (blkC blocks[b] j ins k out0))), (5, .own 1 (insO ins)), (6, iv b), (7, iv k)]) blocks[b].list.length [(1, .box (.fv (fnF ⟨blocks, j⟩))), (3, .own 1 (insO (blkC blocks[b] j ins 0 out0))), (5, .own 1 (insO ins)), (6, iv b), (7, iv (0 : Nat))] (sub_of ?_) ⟨0, by omega, rfl⟩ ?_
          · have h0 : blkC blocks[b] j ins 0 out0 = out0 := rfl
            rw [h0]
            exact dn
          · rintro m2 st ⟨k, hkm, rfl⟩
            by_cases hlk : k < blocks[b].list.length
            · have hdk : decide ((k : Int) < (blocks[b].list.length : Int)) = true := by rw [decide_eq_true_eq]; omega
              have hbn : blkC blocks[b] j ins (k + 1) out0 = stpC blocks[b].list[k] (beforeB blocks[b] (k + 1) j ins) j (blkC blocks[b] j ins k out0) := by
                unfold blkC; rw [range_fold]
                unfold insAt; rw [List.getElem?_eq_getElem hlk, Option.getD_some]
              have hbo := blkC_ok (n := k) (b := blocks[b]) (ins := ins) hco
              generalize blkC blocks[b] j ins k out0 = out1 at hbn hbo
              have hmk2 : k < (blocks[b].list.map stF).length := by rw [List.length_map]; exact hlk
              have hid := v_InsDef_spec blocks[b].list[k]
              have hbf := v_l11Before ⟨blocks, j⟩ j b (k + 1) ins rfl hlb hf hlok hbk (by show k + 1 ≤ blocks[b].list.length; omega)
              simp only at hbf
              have hln := before_len (at_ := k + 1) hlok hbk
              generalize beforeB blocks[b] (k + 1) j ins = live at hbn hbf hln
              have hkc : ((k + 1 : Nat) : Int) = (k : Int) + 1 := by omega
              rw [hkc] at hbf
              have hblen := hbk.len
              have hxd : insDefI blocks[b].list[k] ≥ 0 → insDefI blocks[b].list[k] < (j : Int) := fun h => by
                have h2 := (hbk.list _ (List.getElem_mem hlk)).1; unfold insDefI at h ⊢; split at h <;> rename_i hm <;> simp only [hm, if_true, if_false, Bool.false_eq_true] <;> first | exact (h2 hm).2 | omega
              repeat' first | refine ck_intro (by first | exact hid | exact hbf) ?_ ?_ | refine g2 @hdk @hdb ?_ | refine d2 @hdk @hdb ?_ | refine j2 @hdk @hdb (fun hg hgo => ?_) fun hg hgo => ?_ | refine ek_ret ?_ | refine ek_norm ?_ | refine ⟨by omega, ?_⟩ | rfl | trivial | intro _
              generalize blocks[b].list[k] = x at hid hbn hxd
              refine pw_loop (fun m st => ∃ v : Nat, v + m = j ∧ v ≤ j ∧ (insDefI x < 0 → v = 0) ∧ st = [(1, .box (.fv (fnF ⟨blocks, j⟩))), (3, .own 1 (insO (mrkC x live v out1))), (5, .own 1 (insO ins)), (6, iv b), (7, iv k), (8, .box (sF x)), (9, iv (insDefI x)), (10, .own 1 (bools live)), (11, iv v)]) j [(1, .box (.fv (fnF ⟨blocks, j⟩))), (3, .own 1 (insO (mrkC x live 0 out1))), (5, .own 1 (insO ins)), (6, iv b), (7, iv k), (8, .box (sF x)), (9, iv (insDefI x)), (10, .own 1 (bools live)), (11, iv (0 : Nat))] (sub_of ?_) ⟨0, by omega, by omega, fun _ => rfl, rfl⟩ ?_
              · have h0 : mrkC x live 0 out1 = out1 := rfl
                rw [h0]
                exact dn
              · rintro m3 st ⟨v, hvm, hvj, hv0, rfl⟩
                by_cases hge : insDefI x ≥ 0
                · have hdg : decide (insDefI x ≥ 0) = true := by rw [decide_eq_true_eq]; exact hge
                  by_cases hlv : v < j
                  · have hdv : decide ((v : Int) < (j : Int)) = true := by rw [decide_eq_true_eq]; omega
                    have hmn : mrkC x live (v + 1) out1 = markC (insDefI x) x live (mrkC x live v out1) v := range_fold
                    have hmo := mrkC_ok (x := x) (live := live) (v := v) hbo
                    generalize mrkC x live v out1 = out2 at hmn hmo
                    obtain ⟨d, hdn⟩ := Int.eq_ofNat_of_zero_le hge
                    have hdlt : d < j := by have := hxd hge; omega
                    rw [hdn] at hmn ⊢
                    have hlo := hmo.len
                    have hdl : d < out2.length := by omega
                    have hgd := insO_get hdl
                    have hrd := hmo.row _ (List.getElem_mem hdl)
                    have hlvl : v < live.length := by omega
                    have hgl := bools_get hlvl
                    unfold markC cndC at hmn
                    rw [List.getElem?_eq_getElem hlvl, Option.getD_some] at hmn
                    have hgv := bools_get (l := out2[d]) (i := v) (by omega)
                    have hs3 : (insO out2).set d (.own 1 (bools (out2[d].set v true))) = insO (set2 out2 d v) := by rw [insO_set, set2_eq hdl]
                    have hmo3 := set2_ok (i := d) (j := v) hmo
                    have hdd : (d : Int).toNat = d := rfl
                    rw [hdd] at hmn
                    generalize set2 out2 d v = out3 at hs3 hmo3 hmn
                    have hlo3 := hmo3.len
                    have hvl : v < out3.length := by omega
                    have hgd3 := insO_get hvl
                    have hrd3 := hmo3.row _ (List.getElem_mem hvl)
                    have hgv3 := bools_get (l := out3[v]) (i := d) (by omega)
                    have hs4 : (insO out3).set v (.own 1 (bools (out3[v].set d true))) = insO (set2 out3 v d) := by rw [insO_set, set2_eq hvl]
                    repeat' first | refine g10 @hdv @hdg @hgd @hgl @hgv @bools_set @hs3 @hgd3 @hgv3 @hs4 ?_ | refine d10 @hdv @hdg @hgd @hgl @hgv @bools_set @hs3 @hgd3 @hgv3 @hs4 ?_ | refine j10 @hdv @hdg @hgd @hgl @hgv @bools_set @hs3 @hgd3 @hgv3 @hs4 (fun hg hgo => ?_) fun hg hgo => ?_ | refine ek_ret ?_ | refine ek_norm ?_ | refine ⟨by omega, ?_⟩ | rfl | trivial | intro _
                    all_goals first
                      | (exfalso; omega)
                      | (have hc : (!decide ((v : Int) = (d : Int)) && live[v] && (!decide (x.op = 25) || !decide ((v : Int) = x.a))) = true := by
                           simp only [Bool.and_eq_true, Bool.or_eq_true, Bool.not_eq_true', decide_eq_false_iff_not]
                           exact ⟨⟨by omega, by assumption⟩, by omega⟩
                         rw [if_pos hc] at hmn
                         refine rd_norm [(1, .box (.fv (fnF ⟨blocks, j⟩))), (3, .own 1 (insO (mrkC x live (v + 1) out1))), (5, .own 1 (insO ins)), (6, iv b), (7, iv k), (8, .box (sF x)), (9, iv (d : Int)), (10, .own 1 (bools live)), (11, iv (v + 1 : Nat))] (sub_of ?_) (m3 - 1) (by omega) ⟨v + 1, by omega, by omega, fun h => by omega, rfl⟩
                         rw [hmn]
                         exact dn)
                      | (have hc : ¬ ((!decide ((v : Int) = (d : Int)) && live[v] && (!decide (x.op = 25) || !decide ((v : Int) = x.a))) = true) := by
                           simp only [Bool.and_eq_true, Bool.or_eq_true, Bool.not_eq_true', decide_eq_false_iff_not]
                           rintro ⟨⟨a1, a2⟩, a3⟩
                           first | omega | cases a2.symm.trans ‹live[v] = false›
                         rw [if_neg hc] at hmn
                         refine rd_norm [(1, .box (.fv (fnF ⟨blocks, j⟩))), (3, .own 1 (insO (mrkC x live (v + 1) out1))), (5, .own 1 (insO ins)), (6, iv b), (7, iv k), (8, .box (sF x)), (9, iv (d : Int)), (10, .own 1 (bools live)), (11, iv (v + 1 : Nat))] (sub_of ?_) (m3 - 1) (by omega) ⟨v + 1, by omega, by omega, fun h => by omega, rfl⟩
                         rw [hmn]
                         exact dn)
                  · have hdv : decide ((v : Int) < (j : Int)) = false := by rw [decide_eq_false_iff_not]; omega
                    have hvn : j = v := by omega
                    subst hvn
                    repeat' first | refine g1 @hdv ?_ | refine d1 @hdv ?_ | refine j1 @hdv (fun hg hgo => ?_) fun hg hgo => ?_ | refine ek_ret ?_ | refine ek_norm ?_ | refine ⟨by omega, ?_⟩ | rfl | trivial | intro _
                    all_goals first
                      | (exfalso; omega)
                      | (refine rd_norm [(1, .box (.fv (fnF ⟨blocks, j⟩))), (3, .own 1 (insO (blkC blocks[b] j ins (k + 1) out0))), (5, .own 1 (insO ins)), (6, iv b), (7, iv (k + 1 : Nat))] (sub_of ?_) (m2 - 1) (by omega) ⟨k + 1, by omega, rfl⟩
                         rw [hbn]
                         rw [show stpC x live j out1 = mrkC x live j out1 from if_pos hge]
                         exact dn)
                · have hdg : decide (insDefI x ≥ 0) = false := by rw [decide_eq_false_iff_not]; exact hge
                  have hv00 := hv0 (by omega)
                  subst hv00
                  by_cases hlv : 0 < j
                  · have hdv : decide (((0 : Nat) : Int) < (j : Int)) = true := by rw [decide_eq_true_eq]; omega
                    rw [show mrkC x live 0 out1 = out1 from rfl]
                    repeat' first | refine g2 @hdv @hdg ?_ | refine d2 @hdv @hdg ?_ | refine j2 @hdv @hdg (fun hg hgo => ?_) fun hg hgo => ?_ | refine ek_ret ?_ | refine ek_norm ?_ | refine ⟨by omega, ?_⟩ | rfl | trivial | intro _
                    all_goals first
                      | (exfalso; omega)
                      | (refine rd_norm [(1, .box (.fv (fnF ⟨blocks, j⟩))), (3, .own 1 (insO (blkC blocks[b] j ins (k + 1) out0))), (5, .own 1 (insO ins)), (6, iv b), (7, iv (k + 1 : Nat))] (sub_of ?_) (m2 - 1) (by omega) ⟨k + 1, by omega, rfl⟩
                         rw [hbn]
                         rw [show stpC x live j out1 = out1 from if_neg hge]
                         exact dn)
                  · have hdv : decide (((0 : Nat) : Int) < (j : Int)) = false := by rw [decide_eq_false_iff_not]; omega
                    rw [show mrkC x live 0 out1 = out1 from rfl]
                    repeat' first | refine g1 @hdv ?_ | refine d1 @hdv ?_ | refine j1 @hdv (fun hg hgo => ?_) fun hg hgo => ?_ | refine ek_ret ?_ | refine ek_norm ?_ | refine ⟨by omega, ?_⟩ | rfl | trivial | intro _
                    all_goals first
                      | (exfalso; omega)
                      | (refine rd_norm [(1, .box (.fv (fnF ⟨blocks, j⟩))), (3, .own 1 (insO (blkC blocks[b] j ins (k + 1) out0))), (5, .own 1 (insO ins)), (6, iv b), (7, iv (k + 1 : Nat))] (sub_of ?_) (m2 - 1) (by omega) ⟨k + 1, by omega, rfl⟩
                         rw [hbn]
                         rw [show stpC x live j out1 = out1 from if_neg hge]
                         exact dn)
            · have hdk : decide ((k : Int) < (blocks[b].list.length : Int)) = false := by rw [decide_eq_false_iff_not]; omega
              have hkn : k = blocks[b].list.length := by omega
              subst hkn
              rw [← hcn]
              repeat' first | refine g1 @hdk ?_ | refine d1 @hdk ?_ | refine j1 @hdk (fun hg hgo => ?_) fun hg hgo => ?_ | refine ek_ret ?_ | refine ek_norm ?_ | refine ⟨by omega, ?_⟩ | rfl | trivial | intro _
              refine rd_norm [(1, .box (.fv (fnF ⟨blocks, j⟩))), (3, .own 1 (insO (clashN blocks j ins (b + 1)))), (5, .own 1 (insO ins)), (6, iv (b + 1 : Nat))] (sub_of ?_) (m - 1) (by omega) ⟨b + 1, by omega, rfl⟩
              exact dn
        · have hdb : decide ((b : Int) < (blocks.length : Int)) = false := by rw [decide_eq_false_iff_not]; omega
          have hbn : b = blocks.length := by omega
          subst hbn
          repeat' first | refine g1 @hdb ?_ | refine d1 @hdb ?_ | refine j1 @hdb (fun hg hgo => ?_) fun hg hgo => ?_ | refine ek_ret ?_ | refine ek_norm ?_ | refine ⟨by omega, ?_⟩ | rfl | trivial | intro _
end Go.Proofs.YtjkcliabfboecaaM
