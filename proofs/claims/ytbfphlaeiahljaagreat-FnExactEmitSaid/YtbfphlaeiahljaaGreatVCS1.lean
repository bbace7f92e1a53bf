import Derived.Test.YtbfphlaeiahljaaGreatVCV
import Derived.Test.YtbfphlaeiahljaaGreatVCMvm
namespace Go.Proofs.YtbfphlaeiahljaaGreatM
open Go
open Int renaming cast_ofNat_Int → Q0, reduceLT → Q1, reduceLE → Q2, reduceGT → Q3, reduceGE → Q4, reduceEq → Q5, reduceBEq → Q6, reduceAdd → Q7, reduceSub → Q8, reduceToNat → Q9
open Nat renaming reduceShiftRight → Z0, reduceMod → Z1, reduceLT → Z2, reduceEqDiff → Z3, reduceAdd → Z4, reduceMul → Z5, reduceLeDiff → Z6, reduceBEq → Z7
open List renaming getElem?_eq_getElem → L0, length_map → L1, length_cons → L2, length_nil → L3
open Bool renaming and_eq_true → B0, or_eq_false_iff → B1, or_eq_true → B2, and_eq_false_iff → B3, not_eq_true' → B4, not_eq_false' → B5
set_option linter.unusedVariables false
set_option linter.unusedSimpArgs false
set_option maxRecDepth 100000
set_option maxHeartbeats 4000000
attribute [local irreducible] PW CK EK C2 PXM XK LX axK rdK thK blK FK SK LK AK GK CD unK TT keK
def MU (f : FuncId) (i : Nat) : Nat := match f with
  | 7 => 1
  | 9 => 1
  | 10 => 1
  | 11 => 1
  | 12 => (if i = 0 then 2 else 0)
  | 13 => (if i = 0 then 2 else 0)
  | 14 => (if i = 0 then 1 else 0)
  | 15 => 1
  | 17 => 1
  | 18 => 1
  | 19 => (if i = 0 then 2 else 0)
  | 20 => (if i = 0 then 1 else 0)
  | 21 => 1
  | 22 => 1
  | 23 => (if i = 0 then 1 else 0)
  | 25 => 1
  | 29 => 1
  | 31 => 1
  | 32 => 1
  | 36 => 1
  | 39 => (if i = 0 then 2 else 0)
  | 40 => 1
  | 44 => 1
  | 50 => 1
  | 52 => 1
  | 53 => (if i = 0 then 2 else 0)
  | 55 => 1
  | 56 => 1
  | 59 => 1
  | 60 => (if i = 2 then 2 else (if i = 3 then 2 else 0))
  | 64 => (if i = 0 then 2 else 0)
  | 70 => 1
  | 84 => (if i = 0 then 2 else 0)
  | 85 => (if i = 0 then 2 else 0)
  | 91 => (if i = 3 then 1 else 0)
  | 93 => (if i = 2 then 1 else 0)
  | 117 => (if i = 2 then 2 else (if i = 3 then 2 else 0))
  | 118 => 2
  | 127 => (if i = 0 then 2 else 0)
  | 130 => (if i = 2 then 1 else 0)
  | 132 => 1
  | 151 => (if i = 2 then 1 else 0)
  | _ => 0
@[go_sem] theorem mu_6 {i : Nat} : MU 6 i = 0 := nr rfl
@[go_sem] theorem mu_7 {i : Nat} : MU 7 i = 1 := nr rfl
@[go_sem] theorem mu_8 {i : Nat} : MU 8 i = 0 := nr rfl
@[go_sem] theorem mu_9 {i : Nat} : MU 9 i = 1 := nr rfl
@[go_sem] theorem mu_10 {i : Nat} : MU 10 i = 1 := nr rfl
@[go_sem] theorem mu_11 {i : Nat} : MU 11 i = 1 := nr rfl
@[go_sem] theorem mu_12 {i : Nat} : MU 12 i = (if i = 0 then 2 else 0) := nr rfl
@[go_sem] theorem mu_13 {i : Nat} : MU 13 i = (if i = 0 then 2 else 0) := nr rfl
@[go_sem] theorem mu_14 {i : Nat} : MU 14 i = (if i = 0 then 1 else 0) := nr rfl
@[go_sem] theorem mu_24 {i : Nat} : MU 24 i = 0 := nr rfl
@[go_sem] theorem mu_25 {i : Nat} : MU 25 i = 1 := nr rfl
@[go_sem] theorem mu_26 {i : Nat} : MU 26 i = 0 := nr rfl
@[go_sem] theorem mu_27 {i : Nat} : MU 27 i = 0 := nr rfl
@[go_sem] theorem mu_28 {i : Nat} : MU 28 i = 0 := nr rfl
@[go_sem] theorem mu_29 {i : Nat} : MU 29 i = 1 := nr rfl
@[go_sem] theorem mu_30 {i : Nat} : MU 30 i = 0 := nr rfl
@[go_sem] theorem mu_31 {i : Nat} : MU 31 i = 1 := nr rfl
@[go_sem] theorem mu_32 {i : Nat} : MU 32 i = 1 := nr rfl
@[go_sem] theorem mu_33 {i : Nat} : MU 33 i = 0 := nr rfl
@[go_sem] theorem mu_34 {i : Nat} : MU 34 i = 0 := nr rfl
@[go_sem] theorem mu_35 {i : Nat} : MU 35 i = 0 := nr rfl
@[go_sem] theorem mu_36 {i : Nat} : MU 36 i = 1 := nr rfl
@[go_sem] theorem mu_37 {i : Nat} : MU 37 i = 0 := nr rfl
@[go_sem] theorem mu_38 {i : Nat} : MU 38 i = 0 := nr rfl
@[go_sem] theorem mu_39 {i : Nat} : MU 39 i = (if i = 0 then 2 else 0) := nr rfl
@[go_sem] theorem mu_42 {i : Nat} : MU 42 i = 0 := nr rfl
@[go_sem] theorem mu_57 {i : Nat} : MU 57 i = 0 := nr rfl
@[go_sem] theorem mu_58 {i : Nat} : MU 58 i = 0 := nr rfl
@[go_sem] theorem mu_59 {i : Nat} : MU 59 i = 1 := nr rfl
@[go_sem] theorem mu_60 {i : Nat} : MU 60 i = (if i = 2 then 2 else (if i = 3 then 2 else 0)) := nr rfl
@[go_sem] theorem mu_61 {i : Nat} : MU 61 i = 0 := nr rfl
@[go_sem] theorem mu_62 {i : Nat} : MU 62 i = 0 := nr rfl
@[go_sem] theorem mu_63 {i : Nat} : MU 63 i = 0 := nr rfl
@[go_sem] theorem mu_64 {i : Nat} : MU 64 i = (if i = 0 then 2 else 0) := nr rfl
@[go_sem] theorem mu_65 {i : Nat} : MU 65 i = 0 := nr rfl
@[go_sem] theorem mu_66 {i : Nat} : MU 66 i = 0 := nr rfl
@[go_sem] theorem mu_67 {i : Nat} : MU 67 i = 0 := nr rfl
@[go_sem] theorem mu_68 {i : Nat} : MU 68 i = 0 := nr rfl
@[go_sem] theorem mu_69 {i : Nat} : MU 69 i = 0 := nr rfl
@[go_sem] theorem mu_70 {i : Nat} : MU 70 i = 1 := nr rfl
@[go_sem] theorem mu_71 {i : Nat} : MU 71 i = 0 := nr rfl
@[go_sem] theorem mu_73 {i : Nat} : MU 73 i = 0 := nr rfl
@[go_sem] theorem mu_74 {i : Nat} : MU 74 i = 0 := nr rfl
@[go_sem] theorem mu_75 {i : Nat} : MU 75 i = 0 := nr rfl
@[go_sem] theorem mu_76 {i : Nat} : MU 76 i = 0 := nr rfl
@[go_sem] theorem mu_77 {i : Nat} : MU 77 i = 0 := nr rfl
@[go_sem] theorem mu_78 {i : Nat} : MU 78 i = 0 := nr rfl
@[go_sem] theorem mu_79 {i : Nat} : MU 79 i = 0 := nr rfl
@[go_sem] theorem mu_80 {i : Nat} : MU 80 i = 0 := nr rfl
@[go_sem] theorem mu_82 {i : Nat} : MU 82 i = 0 := nr rfl
@[go_sem] theorem mu_83 {i : Nat} : MU 83 i = 0 := nr rfl
@[go_sem] theorem mu_84 {i : Nat} : MU 84 i = (if i = 0 then 2 else 0) := nr rfl
@[go_sem] theorem mu_85 {i : Nat} : MU 85 i = (if i = 0 then 2 else 0) := nr rfl
@[go_sem] theorem mu_98 {i : Nat} : MU 98 i = 0 := nr rfl
@[go_sem] theorem mu_99 {i : Nat} : MU 99 i = 0 := nr rfl
@[go_sem] theorem mu_100 {i : Nat} : MU 100 i = 0 := nr rfl
@[go_sem] theorem mu_101 {i : Nat} : MU 101 i = 0 := nr rfl
@[go_sem] theorem mu_102 {i : Nat} : MU 102 i = 0 := nr rfl
@[go_sem] theorem mu_103 {i : Nat} : MU 103 i = 0 := nr rfl
@[go_sem] theorem mu_104 {i : Nat} : MU 104 i = 0 := nr rfl
@[go_sem] theorem mu_105 {i : Nat} : MU 105 i = 0 := nr rfl
@[go_sem] theorem mu_106 {i : Nat} : MU 106 i = 0 := nr rfl
@[go_sem] theorem mu_107 {i : Nat} : MU 107 i = 0 := nr rfl
@[go_sem] theorem mu_109 {i : Nat} : MU 109 i = 0 := nr rfl
@[go_sem] theorem mu_110 {i : Nat} : MU 110 i = 0 := nr rfl
@[go_sem] theorem mu_112 {i : Nat} : MU 112 i = 0 := nr rfl
@[go_sem] theorem mu_113 {i : Nat} : MU 113 i = 0 := nr rfl
@[go_sem] theorem mu_115 {i : Nat} : MU 115 i = 0 := nr rfl
@[go_sem] theorem mu_116 {i : Nat} : MU 116 i = 0 := nr rfl
@[go_sem] theorem mu_117 {i : Nat} : MU 117 i = (if i = 2 then 2 else (if i = 3 then 2 else 0)) := nr rfl
@[go_sem] theorem mu_118 {i : Nat} : MU 118 i = 2 := nr rfl
@[go_sem] theorem mu_119 {i : Nat} : MU 119 i = 0 := nr rfl
@[go_sem] theorem mu_120 {i : Nat} : MU 120 i = 0 := nr rfl
@[go_sem] theorem mu_121 {i : Nat} : MU 121 i = 0 := nr rfl
@[go_sem] theorem mu_122 {i : Nat} : MU 122 i = 0 := nr rfl
@[go_sem] theorem mu_123 {i : Nat} : MU 123 i = 0 := nr rfl
@[go_sem] theorem mu_124 {i : Nat} : MU 124 i = 0 := nr rfl
@[go_sem] theorem mu_125 {i : Nat} : MU 125 i = 0 := nr rfl
@[go_sem] theorem mu_126 {i : Nat} : MU 126 i = 0 := nr rfl
@[go_sem] theorem mu_127 {i : Nat} : MU 127 i = (if i = 0 then 2 else 0) := nr rfl
@[go_sem] theorem mu_133 {i : Nat} : MU 133 i = 0 := nr rfl
@[go_sem] theorem mu_138 {i : Nat} : MU 138 i = 0 := nr rfl
@[go_sem] theorem mu_139 {i : Nat} : MU 139 i = 0 := nr rfl
@[go_sem] theorem mu_140 {i : Nat} : MU 140 i = 0 := nr rfl
@[go_sem] theorem mu_141 {i : Nat} : MU 141 i = 0 := nr rfl
@[go_sem] theorem mu_142 {i : Nat} : MU 142 i = 0 := nr rfl
@[go_sem] theorem mu_143 {i : Nat} : MU 143 i = 0 := nr rfl
@[go_sem] theorem mu_144 {i : Nat} : MU 144 i = 0 := nr rfl
@[go_sem] theorem mu_146 {i : Nat} : MU 146 i = 0 := nr rfl
@[go_sem] theorem mu_147 {i : Nat} : MU 147 i = 0 := nr rfl
@[go_sem] theorem mu_148 {i : Nat} : MU 148 i = 0 := nr rfl
@[go_sem] theorem mu_149 {i : Nat} : MU 149 i = 0 := nr rfl
@[go_sem] theorem mu_150 {i : Nat} : MU 150 i = 0 := nr rfl
@[go_sem] theorem mu_154 {i : Nat} : MU 154 i = 0 := nr rfl
@[go_sem] theorem mu_155 {i : Nat} : MU 155 i = 0 := nr rfl
@[go_sem] theorem mu_156 {i : Nat} : MU 156 i = 0 := nr rfl
@[go_sem] theorem mu_157 {i : Nat} : MU 157 i = 0 := nr rfl
@[go_sem] theorem mu_159 {i : Nat} : MU 159 i = 0 := nr rfl
@[go_sem] theorem mu_160 {i : Nat} : MU 160 i = 0 := nr rfl
theorem beqD {a b : Int} : (a == b) = decide (a = b) := by rw [Bool.eq_iff_iff]; simp
abbrev iv (n : Int) : DV := .fv (.int .i64 n)
abbrev bv (b : Bool) : DV := .fv (.bool b)
def I64 (n : Int) : Prop := -9223372036854775808 ≤ n ∧ n ≤ 9223372036854775807
theorem g0 { P Q : Prop} (h : Q) (e : P = Q := by simp (maxSteps := 1000000) only [go_sem, Int.cast_ofNat_Int, Int.reduceLT, Int.reduceLE, Int.reduceGT, Int.reduceGE, Int.reduceEq, Int.reduceBEq, Int.reduceAdd, Int.reduceSub, Int.reduceToNat, Nat.reduceShiftRight, Nat.reduceMod, Nat.reduceLT, Nat.reduceEqDiff, Nat.reduceAdd, Nat.reduceMul, Nat.reduceLeDiff, Nat.reduceBEq, reduceIte, List.getElem_map]; first | done | rfl) : P := (e).mpr h
theorem d0 { P Q : Prop} (h : Q) (e : P = Q := by simp (disch := first | omega | assumption) only [wrapI, ia3_hdrN, ia3_rowN, ia3_hdrI, ia3_rowI, List.getElem?_eq_getElem, List.length_map, List.length_cons, List.length_nil, List.getElem_map]; first | done | rfl) : P := (e).mpr h
theorem j0 {b : Bool} {B C D E R T : Prop} (h1 : b = true → R → D) (h2 : b = false → T → E) (r1 : b = true → R := by intro hg; (try simp only [Bool.and_eq_true, Bool.or_eq_false_iff, Bool.or_eq_true, Bool.and_eq_false_iff, Bool.not_eq_true', Bool.not_eq_false', decide_eq_true_eq, decide_eq_false_iff_not, beqT, beqF, bneT, bneF] at hg); exact hg) (r2 : b = false → T := by intro hg; (try simp only [Bool.and_eq_true, Bool.or_eq_false_iff, Bool.or_eq_true, Bool.and_eq_false_iff, Bool.not_eq_true', Bool.not_eq_false', decide_eq_true_eq, decide_eq_false_iff_not, beqT, beqF, bneT, bneF] at hg); exact hg) (e1 : b = true → B = D := by intro hg; (try simp (disch := first | omega | assumption) only [wrapI, ia3_hdrN, ia3_rowN, ia3_hdrI, ia3_rowI, List.getElem?_eq_getElem, List.length_map, List.length_cons, List.length_nil, List.getElem_map]); (try simp only [hg]); (first | simp only [eq_true (beq_iff_eq.1 hg)] | simp only [eq_false (beq_eq_false_iff_ne.1 hg)] | simp only [eq_true (of_decide_eq_true hg)] | simp only [eq_false (of_decide_eq_false hg)] | skip); (first | done | rfl)) (e2 : b = false → C = E := by intro hg; (try simp (disch := first | omega | assumption) only [wrapI, ia3_hdrN, ia3_rowN, ia3_hdrI, ia3_rowI, List.getElem?_eq_getElem, List.length_map, List.length_cons, List.length_nil, List.getElem_map]); (try simp only [hg]); (first | simp only [eq_true (beq_iff_eq.1 hg)] | simp only [eq_false (beq_eq_false_iff_ne.1 hg)] | simp only [eq_true (of_decide_eq_true hg)] | simp only [eq_false (of_decide_eq_false hg)] | skip); (first | done | rfl)) : TT b B C .mk .mk := tt_i (fun g => (e1 (tb_eq g)).mpr (h1 (tb_eq g) (r1 (tb_eq g)))) fun g => (e2 (tb_eq g)).mpr (h2 (tb_eq g) (r2 (tb_eq g)))
theorem g1 {A0 P Q : Prop} (a0 : A0) (h : Q) (e : A0 → P = Q := by intro a0; simp (maxSteps := 1000000) only [go_sem, Int.cast_ofNat_Int, Int.reduceLT, Int.reduceLE, Int.reduceGT, Int.reduceGE, Int.reduceEq, Int.reduceBEq, Int.reduceAdd, Int.reduceSub, Int.reduceToNat, Nat.reduceShiftRight, Nat.reduceMod, Nat.reduceLT, Nat.reduceEqDiff, Nat.reduceAdd, Nat.reduceMul, Nat.reduceLeDiff, Nat.reduceBEq, reduceIte, List.getElem_map, a0]; first | done | rfl) : P := (e a0).mpr h
theorem d1 {A0 P Q : Prop} (a0 : A0) (h : Q) (e : A0 → P = Q := by intro a0; simp (disch := first | omega | assumption) only [wrapI, ia3_hdrN, ia3_rowN, ia3_hdrI, ia3_rowI, List.getElem?_eq_getElem, List.length_map, List.length_cons, List.length_nil, List.getElem_map, a0]; first | done | rfl) : P := (e a0).mpr h
theorem j1 {b : Bool} {A0 B C D E R T : Prop} (a0 : A0) (h1 : b = true → R → D) (h2 : b = false → T → E) (r1 : b = true → R := by intro hg; (try simp only [Bool.and_eq_true, Bool.or_eq_false_iff, Bool.or_eq_true, Bool.and_eq_false_iff, Bool.not_eq_true', Bool.not_eq_false', decide_eq_true_eq, decide_eq_false_iff_not, beqT, beqF, bneT, bneF] at hg); exact hg) (r2 : b = false → T := by intro hg; (try simp only [Bool.and_eq_true, Bool.or_eq_false_iff, Bool.or_eq_true, Bool.and_eq_false_iff, Bool.not_eq_true', Bool.not_eq_false', decide_eq_true_eq, decide_eq_false_iff_not, beqT, beqF, bneT, bneF] at hg); exact hg) (e1 : A0 → b = true → B = D := by intro a0; intro hg; (try simp (disch := first | omega | assumption) only [wrapI, ia3_hdrN, ia3_rowN, ia3_hdrI, ia3_rowI, List.getElem?_eq_getElem, List.length_map, List.length_cons, List.length_nil, List.getElem_map, a0]); (try simp only [hg]); (first | simp only [eq_true (beq_iff_eq.1 hg)] | simp only [eq_false (beq_eq_false_iff_ne.1 hg)] | simp only [eq_true (of_decide_eq_true hg)] | simp only [eq_false (of_decide_eq_false hg)] | skip); (first | done | rfl)) (e2 : A0 → b = false → C = E := by intro a0; intro hg; (try simp (disch := first | omega | assumption) only [wrapI, ia3_hdrN, ia3_rowN, ia3_hdrI, ia3_rowI, List.getElem?_eq_getElem, List.length_map, List.length_cons, List.length_nil, List.getElem_map, a0]); (try simp only [hg]); (first | simp only [eq_true (beq_iff_eq.1 hg)] | simp only [eq_false (beq_eq_false_iff_ne.1 hg)] | simp only [eq_true (of_decide_eq_true hg)] | simp only [eq_false (of_decide_eq_false hg)] | skip); (first | done | rfl)) : TT b B C .mk .mk := tt_i (fun g => (e1 a0 (tb_eq g)).mpr (h1 (tb_eq g) (r1 (tb_eq g)))) fun g => (e2 a0 (tb_eq g)).mpr (h2 (tb_eq g) (r2 (tb_eq g)))
theorem g2 {A0 A1 P Q : Prop} (a0 : A0) (a1 : A1) (h : Q) (e : A0 → A1 → P = Q := by intro a0 a1; simp (maxSteps := 1000000) only [go_sem, Int.cast_ofNat_Int, Int.reduceLT, Int.reduceLE, Int.reduceGT, Int.reduceGE, Int.reduceEq, Int.reduceBEq, Int.reduceAdd, Int.reduceSub, Int.reduceToNat, Nat.reduceShiftRight, Nat.reduceMod, Nat.reduceLT, Nat.reduceEqDiff, Nat.reduceAdd, Nat.reduceMul, Nat.reduceLeDiff, Nat.reduceBEq, reduceIte, List.getElem_map, a0, a1]; first | done | rfl) : P := (e a0 a1).mpr h
theorem d2 {A0 A1 P Q : Prop} (a0 : A0) (a1 : A1) (h : Q) (e : A0 → A1 → P = Q := by intro a0 a1; simp (disch := first | omega | assumption) only [wrapI, ia3_hdrN, ia3_rowN, ia3_hdrI, ia3_rowI, List.getElem?_eq_getElem, List.length_map, List.length_cons, List.length_nil, List.getElem_map, a0, a1]; first | done | rfl) : P := (e a0 a1).mpr h
theorem j2 {b : Bool} {A0 A1 B C D E R T : Prop} (a0 : A0) (a1 : A1) (h1 : b = true → R → D) (h2 : b = false → T → E) (r1 : b = true → R := by intro hg; (try simp only [Bool.and_eq_true, Bool.or_eq_false_iff, Bool.or_eq_true, Bool.and_eq_false_iff, Bool.not_eq_true', Bool.not_eq_false', decide_eq_true_eq, decide_eq_false_iff_not, beqT, beqF, bneT, bneF] at hg); exact hg) (r2 : b = false → T := by intro hg; (try simp only [Bool.and_eq_true, Bool.or_eq_false_iff, Bool.or_eq_true, Bool.and_eq_false_iff, Bool.not_eq_true', Bool.not_eq_false', decide_eq_true_eq, decide_eq_false_iff_not, beqT, beqF, bneT, bneF] at hg); exact hg) (e1 : A0 → A1 → b = true → B = D := by intro a0 a1; intro hg; (try simp (disch := first | omega | assumption) only [wrapI, ia3_hdrN, ia3_rowN, ia3_hdrI, ia3_rowI, List.getElem?_eq_getElem, List.length_map, List.length_cons, List.length_nil, List.getElem_map, a0, a1]); (try simp only [hg]); (first | simp only [eq_true (beq_iff_eq.1 hg)] | simp only [eq_false (beq_eq_false_iff_ne.1 hg)] | simp only [eq_true (of_decide_eq_true hg)] | simp only [eq_false (of_decide_eq_false hg)] | skip); (first | done | rfl)) (e2 : A0 → A1 → b = false → C = E := by intro a0 a1; intro hg; (try simp (disch := first | omega | assumption) only [wrapI, ia3_hdrN, ia3_rowN, ia3_hdrI, ia3_rowI, List.getElem?_eq_getElem, List.length_map, List.length_cons, List.length_nil, List.getElem_map, a0, a1]); (try simp only [hg]); (first | simp only [eq_true (beq_iff_eq.1 hg)] | simp only [eq_false (beq_eq_false_iff_ne.1 hg)] | simp only [eq_true (of_decide_eq_true hg)] | simp only [eq_false (of_decide_eq_false hg)] | skip); (first | done | rfl)) : TT b B C .mk .mk := tt_i (fun g => (e1 a0 a1 (tb_eq g)).mpr (h1 (tb_eq g) (r1 (tb_eq g)))) fun g => (e2 a0 a1 (tb_eq g)).mpr (h2 (tb_eq g) (r2 (tb_eq g)))
theorem g3 {A0 A1 A2 P Q : Prop} (a0 : A0) (a1 : A1) (a2 : A2) (h : Q) (e : A0 → A1 → A2 → P = Q := by intro a0 a1 a2; simp (maxSteps := 1000000) only [go_sem, Int.cast_ofNat_Int, Int.reduceLT, Int.reduceLE, Int.reduceGT, Int.reduceGE, Int.reduceEq, Int.reduceBEq, Int.reduceAdd, Int.reduceSub, Int.reduceToNat, Nat.reduceShiftRight, Nat.reduceMod, Nat.reduceLT, Nat.reduceEqDiff, Nat.reduceAdd, Nat.reduceMul, Nat.reduceLeDiff, Nat.reduceBEq, reduceIte, List.getElem_map, a0, a1, a2]; first | done | rfl) : P := (e a0 a1 a2).mpr h
theorem d3 {A0 A1 A2 P Q : Prop} (a0 : A0) (a1 : A1) (a2 : A2) (h : Q) (e : A0 → A1 → A2 → P = Q := by intro a0 a1 a2; simp (disch := first | omega | assumption) only [wrapI, ia3_hdrN, ia3_rowN, ia3_hdrI, ia3_rowI, List.getElem?_eq_getElem, List.length_map, List.length_cons, List.length_nil, List.getElem_map, a0, a1, a2]; first | done | rfl) : P := (e a0 a1 a2).mpr h
theorem j3 {b : Bool} {A0 A1 A2 B C D E R T : Prop} (a0 : A0) (a1 : A1) (a2 : A2) (h1 : b = true → R → D) (h2 : b = false → T → E) (r1 : b = true → R := by intro hg; (try simp only [Bool.and_eq_true, Bool.or_eq_false_iff, Bool.or_eq_true, Bool.and_eq_false_iff, Bool.not_eq_true', Bool.not_eq_false', decide_eq_true_eq, decide_eq_false_iff_not, beqT, beqF, bneT, bneF] at hg); exact hg) (r2 : b = false → T := by intro hg; (try simp only [Bool.and_eq_true, Bool.or_eq_false_iff, Bool.or_eq_true, Bool.and_eq_false_iff, Bool.not_eq_true', Bool.not_eq_false', decide_eq_true_eq, decide_eq_false_iff_not, beqT, beqF, bneT, bneF] at hg); exact hg) (e1 : A0 → A1 → A2 → b = true → B = D := by intro a0 a1 a2; intro hg; (try simp (disch := first | omega | assumption) only [wrapI, ia3_hdrN, ia3_rowN, ia3_hdrI, ia3_rowI, List.getElem?_eq_getElem, List.length_map, List.length_cons, List.length_nil, List.getElem_map, a0, a1, a2]); (try simp only [hg]); (first | simp only [eq_true (beq_iff_eq.1 hg)] | simp only [eq_false (beq_eq_false_iff_ne.1 hg)] | simp only [eq_true (of_decide_eq_true hg)] | simp only [eq_false (of_decide_eq_false hg)] | skip); (first | done | rfl)) (e2 : A0 → A1 → A2 → b = false → C = E := by intro a0 a1 a2; intro hg; (try simp (disch := first | omega | assumption) only [wrapI, ia3_hdrN, ia3_rowN, ia3_hdrI, ia3_rowI, List.getElem?_eq_getElem, List.length_map, List.length_cons, List.length_nil, List.getElem_map, a0, a1, a2]); (try simp only [hg]); (first | simp only [eq_true (beq_iff_eq.1 hg)] | simp only [eq_false (beq_eq_false_iff_ne.1 hg)] | simp only [eq_true (of_decide_eq_true hg)] | simp only [eq_false (of_decide_eq_false hg)] | skip); (first | done | rfl)) : TT b B C .mk .mk := tt_i (fun g => (e1 a0 a1 a2 (tb_eq g)).mpr (h1 (tb_eq g) (r1 (tb_eq g)))) fun g => (e2 a0 a1 a2 (tb_eq g)).mpr (h2 (tb_eq g) (r2 (tb_eq g)))
theorem g4 {A0 A1 A2 A3 P Q : Prop} (a0 : A0) (a1 : A1) (a2 : A2) (a3 : A3) (h : Q) (e : A0 → A1 → A2 → A3 → P = Q := by intro a0 a1 a2 a3; simp (maxSteps := 1000000) only [go_sem, Int.cast_ofNat_Int, Int.reduceLT, Int.reduceLE, Int.reduceGT, Int.reduceGE, Int.reduceEq, Int.reduceBEq, Int.reduceAdd, Int.reduceSub, Int.reduceToNat, Nat.reduceShiftRight, Nat.reduceMod, Nat.reduceLT, Nat.reduceEqDiff, Nat.reduceAdd, Nat.reduceMul, Nat.reduceLeDiff, Nat.reduceBEq, reduceIte, List.getElem_map, a0, a1, a2, a3]; first | done | rfl) : P := (e a0 a1 a2 a3).mpr h
theorem d4 {A0 A1 A2 A3 P Q : Prop} (a0 : A0) (a1 : A1) (a2 : A2) (a3 : A3) (h : Q) (e : A0 → A1 → A2 → A3 → P = Q := by intro a0 a1 a2 a3; simp (disch := first | omega | assumption) only [wrapI, ia3_hdrN, ia3_rowN, ia3_hdrI, ia3_rowI, List.getElem?_eq_getElem, List.length_map, List.length_cons, List.length_nil, List.getElem_map, a0, a1, a2, a3]; first | done | rfl) : P := (e a0 a1 a2 a3).mpr h
theorem j4 {b : Bool} {A0 A1 A2 A3 B C D E R T : Prop} (a0 : A0) (a1 : A1) (a2 : A2) (a3 : A3) (h1 : b = true → R → D) (h2 : b = false → T → E) (r1 : b = true → R := by intro hg; (try simp only [Bool.and_eq_true, Bool.or_eq_false_iff, Bool.or_eq_true, Bool.and_eq_false_iff, Bool.not_eq_true', Bool.not_eq_false', decide_eq_true_eq, decide_eq_false_iff_not, beqT, beqF, bneT, bneF] at hg); exact hg) (r2 : b = false → T := by intro hg; (try simp only [Bool.and_eq_true, Bool.or_eq_false_iff, Bool.or_eq_true, Bool.and_eq_false_iff, Bool.not_eq_true', Bool.not_eq_false', decide_eq_true_eq, decide_eq_false_iff_not, beqT, beqF, bneT, bneF] at hg); exact hg) (e1 : A0 → A1 → A2 → A3 → b = true → B = D := by intro a0 a1 a2 a3; intro hg; (try simp (disch := first | omega | assumption) only [wrapI, ia3_hdrN, ia3_rowN, ia3_hdrI, ia3_rowI, List.getElem?_eq_getElem, List.length_map, List.length_cons, List.length_nil, List.getElem_map, a0, a1, a2, a3]); (try simp only [hg]); (first | simp only [eq_true (beq_iff_eq.1 hg)] | simp only [eq_false (beq_eq_false_iff_ne.1 hg)] | simp only [eq_true (of_decide_eq_true hg)] | simp only [eq_false (of_decide_eq_false hg)] | skip); (first | done | rfl)) (e2 : A0 → A1 → A2 → A3 → b = false → C = E := by intro a0 a1 a2 a3; intro hg; (try simp (disch := first | omega | assumption) only [wrapI, ia3_hdrN, ia3_rowN, ia3_hdrI, ia3_rowI, List.getElem?_eq_getElem, List.length_map, List.length_cons, List.length_nil, List.getElem_map, a0, a1, a2, a3]); (try simp only [hg]); (first | simp only [eq_true (beq_iff_eq.1 hg)] | simp only [eq_false (beq_eq_false_iff_ne.1 hg)] | simp only [eq_true (of_decide_eq_true hg)] | simp only [eq_false (of_decide_eq_false hg)] | skip); (first | done | rfl)) : TT b B C .mk .mk := tt_i (fun g => (e1 a0 a1 a2 a3 (tb_eq g)).mpr (h1 (tb_eq g) (r1 (tb_eq g)))) fun g => (e2 a0 a1 a2 a3 (tb_eq g)).mpr (h2 (tb_eq g) (r2 (tb_eq g)))
theorem g5 {A0 A1 A2 A3 A4 P Q : Prop} (a0 : A0) (a1 : A1) (a2 : A2) (a3 : A3) (a4 : A4) (h : Q) (e : A0 → A1 → A2 → A3 → A4 → P = Q := by intro a0 a1 a2 a3 a4; simp (maxSteps := 1000000) only [go_sem, Int.cast_ofNat_Int, Int.reduceLT, Int.reduceLE, Int.reduceGT, Int.reduceGE, Int.reduceEq, Int.reduceBEq, Int.reduceAdd, Int.reduceSub, Int.reduceToNat, Nat.reduceShiftRight, Nat.reduceMod, Nat.reduceLT, Nat.reduceEqDiff, Nat.reduceAdd, Nat.reduceMul, Nat.reduceLeDiff, Nat.reduceBEq, reduceIte, List.getElem_map, a0, a1, a2, a3, a4]; first | done | rfl) : P := (e a0 a1 a2 a3 a4).mpr h
theorem d5 {A0 A1 A2 A3 A4 P Q : Prop} (a0 : A0) (a1 : A1) (a2 : A2) (a3 : A3) (a4 : A4) (h : Q) (e : A0 → A1 → A2 → A3 → A4 → P = Q := by intro a0 a1 a2 a3 a4; simp (disch := first | omega | assumption) only [wrapI, ia3_hdrN, ia3_rowN, ia3_hdrI, ia3_rowI, List.getElem?_eq_getElem, List.length_map, List.length_cons, List.length_nil, List.getElem_map, a0, a1, a2, a3, a4]; first | done | rfl) : P := (e a0 a1 a2 a3 a4).mpr h
theorem j5 {b : Bool} {A0 A1 A2 A3 A4 B C D E R T : Prop} (a0 : A0) (a1 : A1) (a2 : A2) (a3 : A3) (a4 : A4) (h1 : b = true → R → D) (h2 : b = false → T → E) (r1 : b = true → R := by intro hg; (try simp only [Bool.and_eq_true, Bool.or_eq_false_iff, Bool.or_eq_true, Bool.and_eq_false_iff, Bool.not_eq_true', Bool.not_eq_false', decide_eq_true_eq, decide_eq_false_iff_not, beqT, beqF, bneT, bneF] at hg); exact hg) (r2 : b = false → T := by intro hg; (try simp only [Bool.and_eq_true, Bool.or_eq_false_iff, Bool.or_eq_true, Bool.and_eq_false_iff, Bool.not_eq_true', Bool.not_eq_false', decide_eq_true_eq, decide_eq_false_iff_not, beqT, beqF, bneT, bneF] at hg); exact hg) (e1 : A0 → A1 → A2 → A3 → A4 → b = true → B = D := by intro a0 a1 a2 a3 a4; intro hg; (try simp (disch := first | omega | assumption) only [wrapI, ia3_hdrN, ia3_rowN, ia3_hdrI, ia3_rowI, List.getElem?_eq_getElem, List.length_map, List.length_cons, List.length_nil, List.getElem_map, a0, a1, a2, a3, a4]); (try simp only [hg]); (first | simp only [eq_true (beq_iff_eq.1 hg)] | simp only [eq_false (beq_eq_false_iff_ne.1 hg)] | simp only [eq_true (of_decide_eq_true hg)] | simp only [eq_false (of_decide_eq_false hg)] | skip); (first | done | rfl)) (e2 : A0 → A1 → A2 → A3 → A4 → b = false → C = E := by intro a0 a1 a2 a3 a4; intro hg; (try simp (disch := first | omega | assumption) only [wrapI, ia3_hdrN, ia3_rowN, ia3_hdrI, ia3_rowI, List.getElem?_eq_getElem, List.length_map, List.length_cons, List.length_nil, List.getElem_map, a0, a1, a2, a3, a4]); (try simp only [hg]); (first | simp only [eq_true (beq_iff_eq.1 hg)] | simp only [eq_false (beq_eq_false_iff_ne.1 hg)] | simp only [eq_true (of_decide_eq_true hg)] | simp only [eq_false (of_decide_eq_false hg)] | skip); (first | done | rfl)) : TT b B C .mk .mk := tt_i (fun g => (e1 a0 a1 a2 a3 a4 (tb_eq g)).mpr (h1 (tb_eq g) (r1 (tb_eq g)))) fun g => (e2 a0 a1 a2 a3 a4 (tb_eq g)).mpr (h2 (tb_eq g) (r2 (tb_eq g)))
theorem g6 {A0 A1 A2 A3 A4 A5 P Q : Prop} (a0 : A0) (a1 : A1) (a2 : A2) (a3 : A3) (a4 : A4) (a5 : A5) (h : Q) (e : A0 → A1 → A2 → A3 → A4 → A5 → P = Q := by intro a0 a1 a2 a3 a4 a5; simp (maxSteps := 1000000) only [go_sem, Int.cast_ofNat_Int, Int.reduceLT, Int.reduceLE, Int.reduceGT, Int.reduceGE, Int.reduceEq, Int.reduceBEq, Int.reduceAdd, Int.reduceSub, Int.reduceToNat, Nat.reduceShiftRight, Nat.reduceMod, Nat.reduceLT, Nat.reduceEqDiff, Nat.reduceAdd, Nat.reduceMul, Nat.reduceLeDiff, Nat.reduceBEq, reduceIte, List.getElem_map, a0, a1, a2, a3, a4, a5]; first | done | rfl) : P := (e a0 a1 a2 a3 a4 a5).mpr h
theorem g7 {A0 A1 A2 A3 A4 A5 A6 P Q : Prop} (a0 : A0) (a1 : A1) (a2 : A2) (a3 : A3) (a4 : A4) (a5 : A5) (a6 : A6) (h : Q) (e : A0 → A1 → A2 → A3 → A4 → A5 → A6 → P = Q := by intro a0 a1 a2 a3 a4 a5 a6; simp (maxSteps := 1000000) only [go_sem, Int.cast_ofNat_Int, Int.reduceLT, Int.reduceLE, Int.reduceGT, Int.reduceGE, Int.reduceEq, Int.reduceBEq, Int.reduceAdd, Int.reduceSub, Int.reduceToNat, Nat.reduceShiftRight, Nat.reduceMod, Nat.reduceLT, Nat.reduceEqDiff, Nat.reduceAdd, Nat.reduceMul, Nat.reduceLeDiff, Nat.reduceBEq, reduceIte, List.getElem_map, a0, a1, a2, a3, a4, a5, a6]; first | done | rfl) : P := (e a0 a1 a2 a3 a4 a5 a6).mpr h
theorem d7 {A0 A1 A2 A3 A4 A5 A6 P Q : Prop} (a0 : A0) (a1 : A1) (a2 : A2) (a3 : A3) (a4 : A4) (a5 : A5) (a6 : A6) (h : Q) (e : A0 → A1 → A2 → A3 → A4 → A5 → A6 → P = Q := by intro a0 a1 a2 a3 a4 a5 a6; simp (disch := first | omega | assumption) only [wrapI, ia3_hdrN, ia3_rowN, ia3_hdrI, ia3_rowI, List.getElem?_eq_getElem, List.length_map, List.length_cons, List.length_nil, List.getElem_map, a0, a1, a2, a3, a4, a5, a6]; first | done | rfl) : P := (e a0 a1 a2 a3 a4 a5 a6).mpr h
theorem j7 {b : Bool} {A0 A1 A2 A3 A4 A5 A6 B C D E R T : Prop} (a0 : A0) (a1 : A1) (a2 : A2) (a3 : A3) (a4 : A4) (a5 : A5) (a6 : A6) (h1 : b = true → R → D) (h2 : b = false → T → E) (r1 : b = true → R := by intro hg; (try simp only [Bool.and_eq_true, Bool.or_eq_false_iff, Bool.or_eq_true, Bool.and_eq_false_iff, Bool.not_eq_true', Bool.not_eq_false', decide_eq_true_eq, decide_eq_false_iff_not, beqT, beqF, bneT, bneF] at hg); exact hg) (r2 : b = false → T := by intro hg; (try simp only [Bool.and_eq_true, Bool.or_eq_false_iff, Bool.or_eq_true, Bool.and_eq_false_iff, Bool.not_eq_true', Bool.not_eq_false', decide_eq_true_eq, decide_eq_false_iff_not, beqT, beqF, bneT, bneF] at hg); exact hg) (e1 : A0 → A1 → A2 → A3 → A4 → A5 → A6 → b = true → B = D := by intro a0 a1 a2 a3 a4 a5 a6; intro hg; (try simp (disch := first | omega | assumption) only [wrapI, ia3_hdrN, ia3_rowN, ia3_hdrI, ia3_rowI, List.getElem?_eq_getElem, List.length_map, List.length_cons, List.length_nil, List.getElem_map, a0, a1, a2, a3, a4, a5, a6]); (try simp only [hg]); (first | simp only [eq_true (beq_iff_eq.1 hg)] | simp only [eq_false (beq_eq_false_iff_ne.1 hg)] | simp only [eq_true (of_decide_eq_true hg)] | simp only [eq_false (of_decide_eq_false hg)] | skip); (first | done | rfl)) (e2 : A0 → A1 → A2 → A3 → A4 → A5 → A6 → b = false → C = E := by intro a0 a1 a2 a3 a4 a5 a6; intro hg; (try simp (disch := first | omega | assumption) only [wrapI, ia3_hdrN, ia3_rowN, ia3_hdrI, ia3_rowI, List.getElem?_eq_getElem, List.length_map, List.length_cons, List.length_nil, List.getElem_map, a0, a1, a2, a3, a4, a5, a6]); (try simp only [hg]); (first | simp only [eq_true (beq_iff_eq.1 hg)] | simp only [eq_false (beq_eq_false_iff_ne.1 hg)] | simp only [eq_true (of_decide_eq_true hg)] | simp only [eq_false (of_decide_eq_false hg)] | skip); (first | done | rfl)) : TT b B C .mk .mk := tt_i (fun g => (e1 a0 a1 a2 a3 a4 a5 a6 (tb_eq g)).mpr (h1 (tb_eq g) (r1 (tb_eq g)))) fun g => (e2 a0 a1 a2 a3 a4 a5 a6 (tb_eq g)).mpr (h2 (tb_eq g) (r2 (tb_eq g)))
theorem g8 {A0 A1 A2 A3 A4 A5 A6 A7 P Q : Prop} (a0 : A0) (a1 : A1) (a2 : A2) (a3 : A3) (a4 : A4) (a5 : A5) (a6 : A6) (a7 : A7) (h : Q) (e : A0 → A1 → A2 → A3 → A4 → A5 → A6 → A7 → P = Q := by intro a0 a1 a2 a3 a4 a5 a6 a7; simp (maxSteps := 1000000) only [go_sem, Int.cast_ofNat_Int, Int.reduceLT, Int.reduceLE, Int.reduceGT, Int.reduceGE, Int.reduceEq, Int.reduceBEq, Int.reduceAdd, Int.reduceSub, Int.reduceToNat, Nat.reduceShiftRight, Nat.reduceMod, Nat.reduceLT, Nat.reduceEqDiff, Nat.reduceAdd, Nat.reduceMul, Nat.reduceLeDiff, Nat.reduceBEq, reduceIte, List.getElem_map, a0, a1, a2, a3, a4, a5, a6, a7]; first | done | rfl) : P := (e a0 a1 a2 a3 a4 a5 a6 a7).mpr h
theorem d8 {A0 A1 A2 A3 A4 A5 A6 A7 P Q : Prop} (a0 : A0) (a1 : A1) (a2 : A2) (a3 : A3) (a4 : A4) (a5 : A5) (a6 : A6) (a7 : A7) (h : Q) (e : A0 → A1 → A2 → A3 → A4 → A5 → A6 → A7 → P = Q := by intro a0 a1 a2 a3 a4 a5 a6 a7; simp (disch := first | omega | assumption) only [wrapI, ia3_hdrN, ia3_rowN, ia3_hdrI, ia3_rowI, List.getElem?_eq_getElem, List.length_map, List.length_cons, List.length_nil, List.getElem_map, a0, a1, a2, a3, a4, a5, a6, a7]; first | done | rfl) : P := (e a0 a1 a2 a3 a4 a5 a6 a7).mpr h
theorem j8 {b : Bool} {A0 A1 A2 A3 A4 A5 A6 A7 B C D E R T : Prop} (a0 : A0) (a1 : A1) (a2 : A2) (a3 : A3) (a4 : A4) (a5 : A5) (a6 : A6) (a7 : A7) (h1 : b = true → R → D) (h2 : b = false → T → E) (r1 : b = true → R := by intro hg; (try simp only [Bool.and_eq_true, Bool.or_eq_false_iff, Bool.or_eq_true, Bool.and_eq_false_iff, Bool.not_eq_true', Bool.not_eq_false', decide_eq_true_eq, decide_eq_false_iff_not, beqT, beqF, bneT, bneF] at hg); exact hg) (r2 : b = false → T := by intro hg; (try simp only [Bool.and_eq_true, Bool.or_eq_false_iff, Bool.or_eq_true, Bool.and_eq_false_iff, Bool.not_eq_true', Bool.not_eq_false', decide_eq_true_eq, decide_eq_false_iff_not, beqT, beqF, bneT, bneF] at hg); exact hg) (e1 : A0 → A1 → A2 → A3 → A4 → A5 → A6 → A7 → b = true → B = D := by intro a0 a1 a2 a3 a4 a5 a6 a7; intro hg; (try simp (disch := first | omega | assumption) only [wrapI, ia3_hdrN, ia3_rowN, ia3_hdrI, ia3_rowI, List.getElem?_eq_getElem, List.length_map, List.length_cons, List.length_nil, List.getElem_map, a0, a1, a2, a3, a4, a5, a6, a7]); (try simp only [hg]); (first | simp only [eq_true (beq_iff_eq.1 hg)] | simp only [eq_false (beq_eq_false_iff_ne.1 hg)] | simp only [eq_true (of_decide_eq_true hg)] | simp only [eq_false (of_decide_eq_false hg)] | skip); (first | done | rfl)) (e2 : A0 → A1 → A2 → A3 → A4 → A5 → A6 → A7 → b = false → C = E := by intro a0 a1 a2 a3 a4 a5 a6 a7; intro hg; (try simp (disch := first | omega | assumption) only [wrapI, ia3_hdrN, ia3_rowN, ia3_hdrI, ia3_rowI, List.getElem?_eq_getElem, List.length_map, List.length_cons, List.length_nil, List.getElem_map, a0, a1, a2, a3, a4, a5, a6, a7]); (try simp only [hg]); (first | simp only [eq_true (beq_iff_eq.1 hg)] | simp only [eq_false (beq_eq_false_iff_ne.1 hg)] | simp only [eq_true (of_decide_eq_true hg)] | simp only [eq_false (of_decide_eq_false hg)] | skip); (first | done | rfl)) : TT b B C .mk .mk := tt_i (fun g => (e1 a0 a1 a2 a3 a4 a5 a6 a7 (tb_eq g)).mpr (h1 (tb_eq g) (r1 (tb_eq g)))) fun g => (e2 a0 a1 a2 a3 a4 a5 a6 a7 (tb_eq g)).mpr (h2 (tb_eq g) (r2 (tb_eq g)))
theorem g9 {A0 A1 A2 A3 A4 A5 A6 A7 A8 P Q : Prop} (a0 : A0) (a1 : A1) (a2 : A2) (a3 : A3) (a4 : A4) (a5 : A5) (a6 : A6) (a7 : A7) (a8 : A8) (h : Q) (e : A0 → A1 → A2 → A3 → A4 → A5 → A6 → A7 → A8 → P = Q := by intro a0 a1 a2 a3 a4 a5 a6 a7 a8; simp (maxSteps := 1000000) only [go_sem, Int.cast_ofNat_Int, Int.reduceLT, Int.reduceLE, Int.reduceGT, Int.reduceGE, Int.reduceEq, Int.reduceBEq, Int.reduceAdd, Int.reduceSub, Int.reduceToNat, Nat.reduceShiftRight, Nat.reduceMod, Nat.reduceLT, Nat.reduceEqDiff, Nat.reduceAdd, Nat.reduceMul, Nat.reduceLeDiff, Nat.reduceBEq, reduceIte, List.getElem_map, a0, a1, a2, a3, a4, a5, a6, a7, a8]; first | done | rfl) : P := (e a0 a1 a2 a3 a4 a5 a6 a7 a8).mpr h
theorem d9 {A0 A1 A2 A3 A4 A5 A6 A7 A8 P Q : Prop} (a0 : A0) (a1 : A1) (a2 : A2) (a3 : A3) (a4 : A4) (a5 : A5) (a6 : A6) (a7 : A7) (a8 : A8) (h : Q) (e : A0 → A1 → A2 → A3 → A4 → A5 → A6 → A7 → A8 → P = Q := by intro a0 a1 a2 a3 a4 a5 a6 a7 a8; simp (disch := first | omega | assumption) only [wrapI, ia3_hdrN, ia3_rowN, ia3_hdrI, ia3_rowI, List.getElem?_eq_getElem, List.length_map, List.length_cons, List.length_nil, List.getElem_map, a0, a1, a2, a3, a4, a5, a6, a7, a8]; first | done | rfl) : P := (e a0 a1 a2 a3 a4 a5 a6 a7 a8).mpr h
theorem j9 {b : Bool} {A0 A1 A2 A3 A4 A5 A6 A7 A8 B C D E R T : Prop} (a0 : A0) (a1 : A1) (a2 : A2) (a3 : A3) (a4 : A4) (a5 : A5) (a6 : A6) (a7 : A7) (a8 : A8) (h1 : b = true → R → D) (h2 : b = false → T → E) (r1 : b = true → R := by intro hg; (try simp only [Bool.and_eq_true, Bool.or_eq_false_iff, Bool.or_eq_true, Bool.and_eq_false_iff, Bool.not_eq_true', Bool.not_eq_false', decide_eq_true_eq, decide_eq_false_iff_not, beqT, beqF, bneT, bneF] at hg); exact hg) (r2 : b = false → T := by intro hg; (try simp only [Bool.and_eq_true, Bool.or_eq_false_iff, Bool.or_eq_true, Bool.and_eq_false_iff, Bool.not_eq_true', Bool.not_eq_false', decide_eq_true_eq, decide_eq_false_iff_not, beqT, beqF, bneT, bneF] at hg); exact hg) (e1 : A0 → A1 → A2 → A3 → A4 → A5 → A6 → A7 → A8 → b = true → B = D := by intro a0 a1 a2 a3 a4 a5 a6 a7 a8; intro hg; (try simp (disch := first | omega | assumption) only [wrapI, ia3_hdrN, ia3_rowN, ia3_hdrI, ia3_rowI, List.getElem?_eq_getElem, List.length_map, List.length_cons, List.length_nil, List.getElem_map, a0, a1, a2, a3, a4, a5, a6, a7, a8]); (try simp only [hg]); (first | simp only [eq_true (beq_iff_eq.1 hg)] | simp only [eq_false (beq_eq_false_iff_ne.1 hg)] | simp only [eq_true (of_decide_eq_true hg)] | simp only [eq_false (of_decide_eq_false hg)] | skip); (first | done | rfl)) (e2 : A0 → A1 → A2 → A3 → A4 → A5 → A6 → A7 → A8 → b = false → C = E := by intro a0 a1 a2 a3 a4 a5 a6 a7 a8; intro hg; (try simp (disch := first | omega | assumption) only [wrapI, ia3_hdrN, ia3_rowN, ia3_hdrI, ia3_rowI, List.getElem?_eq_getElem, List.length_map, List.length_cons, List.length_nil, List.getElem_map, a0, a1, a2, a3, a4, a5, a6, a7, a8]); (try simp only [hg]); (first | simp only [eq_true (beq_iff_eq.1 hg)] | simp only [eq_false (beq_eq_false_iff_ne.1 hg)] | simp only [eq_true (of_decide_eq_true hg)] | simp only [eq_false (of_decide_eq_false hg)] | skip); (first | done | rfl)) : TT b B C .mk .mk := tt_i (fun g => (e1 a0 a1 a2 a3 a4 a5 a6 a7 a8 (tb_eq g)).mpr (h1 (tb_eq g) (r1 (tb_eq g)))) fun g => (e2 a0 a1 a2 a3 a4 a5 a6 a7 a8 (tb_eq g)).mpr (h2 (tb_eq g) (r2 (tb_eq g)))
theorem g12 {A0 A1 A2 A3 A4 A5 A6 A7 A8 A9 A10 A11 P Q : Prop} (a0 : A0) (a1 : A1) (a2 : A2) (a3 : A3) (a4 : A4) (a5 : A5) (a6 : A6) (a7 : A7) (a8 : A8) (a9 : A9) (a10 : A10) (a11 : A11) (h : Q) (e : A0 → A1 → A2 → A3 → A4 → A5 → A6 → A7 → A8 → A9 → A10 → A11 → P = Q := by intro a0 a1 a2 a3 a4 a5 a6 a7 a8 a9 a10 a11; simp (maxSteps := 1000000) only [go_sem, Int.cast_ofNat_Int, Int.reduceLT, Int.reduceLE, Int.reduceGT, Int.reduceGE, Int.reduceEq, Int.reduceBEq, Int.reduceAdd, Int.reduceSub, Int.reduceToNat, Nat.reduceShiftRight, Nat.reduceMod, Nat.reduceLT, Nat.reduceEqDiff, Nat.reduceAdd, Nat.reduceMul, Nat.reduceLeDiff, Nat.reduceBEq, reduceIte, List.getElem_map, a0, a1, a2, a3, a4, a5, a6, a7, a8, a9, a10, a11]; first | done | rfl) : P := (e a0 a1 a2 a3 a4 a5 a6 a7 a8 a9 a10 a11).mpr h
theorem d12 {A0 A1 A2 A3 A4 A5 A6 A7 A8 A9 A10 A11 P Q : Prop} (a0 : A0) (a1 : A1) (a2 : A2) (a3 : A3) (a4 : A4) (a5 : A5) (a6 : A6) (a7 : A7) (a8 : A8) (a9 : A9) (a10 : A10) (a11 : A11) (h : Q) (e : A0 → A1 → A2 → A3 → A4 → A5 → A6 → A7 → A8 → A9 → A10 → A11 → P = Q := by intro a0 a1 a2 a3 a4 a5 a6 a7 a8 a9 a10 a11; simp (disch := first | omega | assumption) only [wrapI, ia3_hdrN, ia3_rowN, ia3_hdrI, ia3_rowI, List.getElem?_eq_getElem, List.length_map, List.length_cons, List.length_nil, List.getElem_map, a0, a1, a2, a3, a4, a5, a6, a7, a8, a9, a10, a11]; first | done | rfl) : P := (e a0 a1 a2 a3 a4 a5 a6 a7 a8 a9 a10 a11).mpr h
theorem j12 {b : Bool} {A0 A1 A2 A3 A4 A5 A6 A7 A8 A9 A10 A11 B C D E R T : Prop} (a0 : A0) (a1 : A1) (a2 : A2) (a3 : A3) (a4 : A4) (a5 : A5) (a6 : A6) (a7 : A7) (a8 : A8) (a9 : A9) (a10 : A10) (a11 : A11) (h1 : b = true → R → D) (h2 : b = false → T → E) (r1 : b = true → R := by intro hg; (try simp only [Bool.and_eq_true, Bool.or_eq_false_iff, Bool.or_eq_true, Bool.and_eq_false_iff, Bool.not_eq_true', Bool.not_eq_false', decide_eq_true_eq, decide_eq_false_iff_not, beqT, beqF, bneT, bneF] at hg); exact hg) (r2 : b = false → T := by intro hg; (try simp only [Bool.and_eq_true, Bool.or_eq_false_iff, Bool.or_eq_true, Bool.and_eq_false_iff, Bool.not_eq_true', Bool.not_eq_false', decide_eq_true_eq, decide_eq_false_iff_not, beqT, beqF, bneT, bneF] at hg); exact hg) (e1 : A0 → A1 → A2 → A3 → A4 → A5 → A6 → A7 → A8 → A9 → A10 → A11 → b = true → B = D := by intro a0 a1 a2 a3 a4 a5 a6 a7 a8 a9 a10 a11; intro hg; (try simp (disch := first | omega | assumption) only [wrapI, ia3_hdrN, ia3_rowN, ia3_hdrI, ia3_rowI, List.getElem?_eq_getElem, List.length_map, List.length_cons, List.length_nil, List.getElem_map, a0, a1, a2, a3, a4, a5, a6, a7, a8, a9, a10, a11]); (try simp only [hg]); (first | simp only [eq_true (beq_iff_eq.1 hg)] | simp only [eq_false (beq_eq_false_iff_ne.1 hg)] | simp only [eq_true (of_decide_eq_true hg)] | simp only [eq_false (of_decide_eq_false hg)] | skip); (first | done | rfl)) (e2 : A0 → A1 → A2 → A3 → A4 → A5 → A6 → A7 → A8 → A9 → A10 → A11 → b = false → C = E := by intro a0 a1 a2 a3 a4 a5 a6 a7 a8 a9 a10 a11; intro hg; (try simp (disch := first | omega | assumption) only [wrapI, ia3_hdrN, ia3_rowN, ia3_hdrI, ia3_rowI, List.getElem?_eq_getElem, List.length_map, List.length_cons, List.length_nil, List.getElem_map, a0, a1, a2, a3, a4, a5, a6, a7, a8, a9, a10, a11]); (try simp only [hg]); (first | simp only [eq_true (beq_iff_eq.1 hg)] | simp only [eq_false (beq_eq_false_iff_ne.1 hg)] | simp only [eq_true (of_decide_eq_true hg)] | simp only [eq_false (of_decide_eq_false hg)] | skip); (first | done | rfl)) : TT b B C .mk .mk := tt_i (fun g => (e1 a0 a1 a2 a3 a4 a5 a6 a7 a8 a9 a10 a11 (tb_eq g)).mpr (h1 (tb_eq g) (r1 (tb_eq g)))) fun g => (e2 a0 a1 a2 a3 a4 a5 a6 a7 a8 a9 a10 a11 (tb_eq g)).mpr (h2 (tb_eq g) (r2 (tb_eq g)))
theorem cw {f : FuncId} {ds : List DV} {d : DV} {outs : List DV} {kq : Nat} {q : PC} {rs : List ResultVar} (kp : Nat) (fn : Func) (fz : Bool) (h : PW Γ E MU CC kq q (ini 0 ds) (EK Γ fz rs (eqP d outs) (cst outs))) (hF : F f = some fn := by rfl) (hb : fn.body = some (fn.body.getD .skip) := by rfl) (hp : prep (fn.body.getD .skip) = some ((prep (fn.body.getD .skip)).getD .skip) := by rfl) (hn : ds.length ≤ fn.ntmps := by exact Nat.le_of_ble_eq_true rfl) (hl : ds.length ≤ 900000 := by exact Nat.le_of_ble_eq_true rfl) (e1 : kp = kq := by conv => lhs; cbv) (e2 : (prep (fn.body.getD .skip)).getD .skip = q := by conv => lhs; cbv) (e3 : fn.results.toList = rs := by conv => lhs; cbv) : C2 CC f ds d outs := by
  subst e1; subst e2
  exact c2_fn _ fz hF hb hp hn hl e3 h
section
variable {MU : FuncId → Nat → Nat} {C : Rel} {kp : Nat} {Q : Ex → St → Prop} {st : St}
theorem pdx (t : Nat) {op : Op} {ty : TypeId} {pos : String} {af : Array Edge} {gd : Option (Tmp × Bool)} {rest : List Oper} (am kd : List Nat) {L : List POp} (h : OX Γ E MU C L st st (keK kp Q)) (h1 : drOk Γ ⟨⟨some t, op, ty, pos, af, gd⟩ :: rest⟩ am kd true = true := by kernel_rfl) (e : prepT kd ((prepO ⟨⟨some t, op, ty, pos, af, gd⟩ :: rest⟩ (⟨some t, op, ty, pos, af, gd⟩ :: rest)).getD []) = L := by conv => lhs; cbv) : PW Γ E MU C kp (.draw ⟨⟨some t, op, ty, pos, af, gd⟩ :: rest⟩) st Q := pw_drawX am kd h1 (e ▸ h)
theorem pdf (t q : Nat) {op : Op} {ty : TypeId} {pos : String} {af : Array Edge} {gd : Option (Tmp × Bool)} {rest : List Oper} (am kd : List Nat) {L : List POp} (h : fzX Γ E MU C L (keK kp Q) (frz st (q, []))) (h1 : drOk Γ ⟨⟨some t, op, ty, pos, af, gd⟩ :: rest⟩ am kd true = true := by kernel_rfl) (e : prepT kd ((prepO ⟨⟨some t, op, ty, pos, af, gd⟩ :: rest⟩ (⟨some t, op, ty, pos, af, gd⟩ :: rest)).getD []) = L := by conv => lhs; cbv) : PW Γ E MU C kp (.draw ⟨⟨some t, op, ty, pos, af, gd⟩ :: rest⟩) st Q := pw_drawXF (q, []) am kd h1 (e ▸ h)
theorem pd3 (t : Nat) {op : Op} {ty : TypeId} {pos : String} {af : Array Edge} {gd : Option (Tmp × Bool)} {rest : List Oper} (am kd : List Nat) (x : Bool) {L : List POp} (h : OW Γ E MU C x L st (keK kp Q)) (h1 : drOk Γ ⟨⟨some t, op, ty, pos, af, gd⟩ :: rest⟩ am kd x = true := by kernel_rfl) (e : prepT kd ((prepO ⟨⟨some t, op, ty, pos, af, gd⟩ :: rest⟩ (⟨some t, op, ty, pos, af, gd⟩ :: rest)).getD []) = L := by conv => lhs; cbv) : PW Γ E MU C kp (.draw ⟨⟨some t, op, ty, pos, af, gd⟩ :: rest⟩) st Q := pw_draw2 am kd x h1 (e ▸ h)
end
theorem dn {P : Prop} (h : P := by repeat' first | refine g0 ?_ | refine d0 ?_ | refine j0 (fun hg hgo => ?_) fun hg hgo => ?_ | refine ek_ret ?_ | refine ek_norm ?_ | refine ⟨by omega, ?_⟩ | rfl | trivial | intro _) : P := h
structure StepD where
  op : Int
  r : Int
  a : Int
  b : Int
  n : Int
  deriving DecidableEq
def StepD.wf (x : StepD) : Prop := I64 x.op ∧ I64 x.r ∧ I64 x.a ∧ I64 x.b ∧ I64 x.n
abbrev stF (s : StepD) : FV := .agg [.int .i64 s.op, .int .i64 s.r, .int .i64 s.a, .int .i64 s.b, .int .i64 s.n]
abbrev sF (s : StepD) : DV := .fv (stF s)
def steps (l : List StepD) : List DV := l.map fun s => .fv (stF s)
def ints (l : List Int) : List DV := l.map fun n => .fv (.int .i64 n)
@[go_sem] theorem nrs_steps {l : List StepD} : noRefs (steps l) = true := nrs_map
@[go_sem] theorem fvs_steps {l : List StepD} : fvs (steps l) = true := fvs_map
@[go_sem] theorem fzL_steps {l : List StepD} : fzL (steps l) = some (l.map stF) := fzL_map
@[go_sem] theorem clDs_steps {l : List StepD} : clDs (steps l) = true := clDs_map fun x => rfl
@[go_sem] theorem steps_len {l : List StepD} : (steps l).length = l.length := by unfold steps; simp
@[go_sem] theorem nrs_ints {l : List Int} : noRefs (ints l) = true := nrs_map
@[go_sem] theorem fzL_ints {l : List Int} : fzL (ints l) = some (l.map (.int .i64)) := fzL_map
@[go_sem] theorem clDs_ints {l : List Int} : clDs (ints l) = true := clDs_map fun x => rfl
@[go_sem] theorem ints_len {l : List Int} : (ints l).length = l.length := by unfold ints; simp
theorem steps_nil : steps [] = [] := nr rfl
theorem ints_nil : ints [] = [] := nr rfl
theorem ints_cons {s : Int} {l : List Int} : ints (s :: l) = .fv (.int .i64 s) :: ints l := nr rfl
abbrev stR (l : List StepD) : FV := .row 5 (l.map stF)
theorem v_eqStep (x y : StepD) : C2 CC F_laws_eqStep [sF x, sF y] (bv (decide (x = y))) [] := by
  obtain ⟨op, r, a, b, n⟩ := x
  obtain ⟨op', r', a', b', n'⟩ := y
  have hd : decide ((⟨op, r, a, b, n⟩ : StepD) = ⟨op', r', a', b', n'⟩) = (decide (op = op') && decide (r = r') && decide (a = a') && decide (b = b') && decide (n = n')) := by
    rw [Bool.eq_iff_iff]; simp; simp only [and_assoc]
  rw [hd]
  refine cw (keepF Tryz.f37) Tryz.f37 false ?_
  repeat' first | refine g0 ?_ | refine d0 ?_ | refine j0 (fun hg hgo => ?_) fun hg hgo => ?_ | refine ek_ret ?_ | refine ek_norm ?_ | refine ⟨by omega, ?_⟩ | rfl | trivial | intro _
  all_goals first | rfl | (simp_all [beqD, bneT, bneF]; done) | ((try simp only [bneT, bneF]); (repeat' split) <;> first | omega | (simp_all [beqD]; done) | (simp_all [beqD]; omega)) | (simp_all [beqD, bneT, bneF]; (repeat' split) <;> first | rfl | omega | (simp_all; done))
theorem list_ne {α : Type} {l1 l2 : List α} {j : Nat} (h1 : j < l1.length) (h2 : j < l2.length) (h : l1[j] ≠ l2[j]) : l1 ≠ l2 := fun e => by subst e; exact h rfl
theorem v_eqStepS (l1 l2 : List StepD) (hn1 : l1.length < 1073741824) (hn2 : l2.length < 1073741824) : C2 CC F_laws_eqStepS [.fv (stR l1), .fv (stR l2)] (bv (decide (l1 = l2))) [] := by
  refine cw (keepF Tryz.f10) Tryz.f10 false ?_
  repeat' first | refine pd3 17 [0, 0, 3, 7, 0, 0, 48, 112, 255, 511] [0, 0, 0, 1, 0, 0, 0, 1, 5, 0] false ?_ | refine g0 ?_ | refine d0 ?_ | refine j0 (fun hg hgo => ?_) fun hg hgo => ?_ | refine ek_ret ?_ | refine ek_norm ?_ | refine ⟨by omega, ?_⟩ | rfl | trivial | intro _
  · have : l1 ≠ l2 := fun e => by subst e; simp at hg
    simp [this]
  · have hlen : l1.length = l2.length := by have := hg; simp at this; omega
    refine pw_loop (fun m st => ∃ j : Nat, j + m = l1.length ∧ (∀ i (h1 : i < l1.length) (h2 : i < l2.length), i < j → l1[i] = l2[i]) ∧ st = [(0, .fv (stR l1)), (1, .fv (stR l2)), (5, iv j)]) l1.length [(0, .fv (stR l1)), (1, .fv (stR l2)), (5, iv (0 : Nat))] (sub_of ?_) ⟨0, by omega, fun i _ _ hi => by omega, rfl⟩ ?_
    · exact dn
    · rintro m st ⟨j, hj, hb, rfl⟩
      by_cases hlt : j < l1.length
      · have hd : decide ((j : Int) < (l1.length : Int)) = true := by rw [decide_eq_true_eq]; omega
        have hlt2 : j < l2.length := by omega
        have hm1 : j < (l1.map stF).length := by rw [List.length_map]; exact hlt
        have hm2 : j < (l2.map stF).length := by rw [List.length_map]; exact hlt2
        replace hb : True → _ := fun _ => hb
        repeat' first | refine ck_intro (by first | exact v_eqStep l1[j] l2[j]) ?_ ?_ | refine pd3 17 [0, 0, 3, 7, 0, 0, 48, 112, 255, 511] [0, 0, 0, 1, 0, 0, 0, 1, 5, 0] false ?_ | refine g1 @hd ?_ | refine d1 @hd ?_ | refine j1 @hd (fun hg hgo => ?_) fun hg hgo => ?_ | refine ek_ret ?_ | refine ek_norm ?_ | refine ⟨by omega, ?_⟩ | rfl | trivial | intro _
        · simp [list_ne hlt hlt2 hgo]
        · refine rd_norm [(0, .fv (stR l1)), (1, .fv (stR l2)), (5, iv (j + 1 : Nat))] (sub_of ?_) (m - 1) (by omega) ⟨j + 1, by omega, fun i q1 q2 hi => ?_, rfl⟩
          · exact dn
          · by_cases hij : i = j
            · subst hij; exact hgo
            · exact hb trivial i q1 q2 (by omega)
      · have hd : decide ((j : Int) < (l1.length : Int)) = false := by rw [decide_eq_false_iff_not]; omega
        have hq : decide (l1 = l2) = true := by rw [decide_eq_true_eq]; exact List.ext_getElem hlen fun i q1 q2 => hb i q1 q2 (by omega)
        repeat' first | refine pd3 17 [0, 0, 3, 7, 0, 0, 48, 112, 255, 511] [0, 0, 0, 1, 0, 0, 0, 1, 5, 0] false ?_ | refine g2 @hd @hq ?_ | refine d2 @hd @hq ?_ | refine j2 @hd @hq (fun hg hgo => ?_) fun hg hgo => ?_ | refine ek_ret ?_ | refine ek_norm ?_ | refine ⟨by omega, ?_⟩ | rfl | trivial | intro _
def mkS (k : Int) : StepD := ⟨k, k + 1, k + 2, k + 3, k + 4⟩
def markL (k : Int) : Nat → List StepD
  | 0 => []
  | n + 1 => markL k n ++ [mkS (k + 5 * n)]
theorem markL_len (k : Int) : ∀ n, (markL k n).length = n
  | 0 => rfl
  | n + 1 => by rw [markL, List.length_append, markL_len k n]; rfl
theorem markL_get (k : Int) : ∀ (n j : Nat) (h : j < (markL k n).length), (markL k n)[j] = mkS (k + 5 * j)
  | 0, j, h => by cases h
  | n + 1, j, h => by
    simp only [markL]
    rw [List.getElem_append]
    split
    · exact markL_get k n j _
    · rename_i hj
      rw [markL_len] at hj h
      have : j = n := by omega
      subst this
      simp
theorem v_heldStepS (k : Int) (n : Nat) (hk : 0 ≤ k ∧ k < 1000) (hn : n < 1073741824) : C2 CC F_laws_heldStepS [.fv (stR (markL k n)), iv k] (iv (k + 5 * n)) [] := by
  have hlen := markL_len k n
  refine cw (keepF Tryz.f14) Tryz.f14 false ?_
  repeat' first | refine g1 @hlen ?_ | refine d1 @hlen ?_ | refine j1 @hlen (fun hg hgo => ?_) fun hg hgo => ?_ | refine ek_ret ?_ | refine ek_norm ?_ | refine ⟨by omega, ?_⟩ | rfl | trivial | intro _
  refine pw_loop (fun m st => ∃ j : Nat, j + m = n ∧ st = [(0, .fv (stR (markL k n))), (1, iv (k + 5 * j)), (5, iv j)]) n [(0, .fv (stR (markL k n))), (1, iv (k + 5 * (0 : Nat))), (5, iv (0 : Nat))] (sub_of ?_) ⟨0, by omega, rfl⟩ ?_
  · have h0 : k + 5 * ((0 : Nat) : Int) = k := by omega
    rw [h0]
    exact dn
  · rintro m st ⟨j, hj, rfl⟩
    by_cases hlt : j < n
    · have hd : decide ((j : Int) < (n : Int)) = true := by rw [decide_eq_true_eq]; omega
      have hm1 : j < ((markL k n).map stF).length := by rw [List.length_map, hlen]; exact hlt
      have hg : ∀ h, (markL k n)[j]'h = mkS (k + 5 * j) := markL_get k n j
      have q0 : ∀ h, ((markL k n)[j]'h).op = k + 5 * j := fun h => by rw [hg]; rfl
      have q1 : ∀ h, ((markL k n)[j]'h).r = k + 5 * j + 1 := fun h => by rw [hg]; rfl
      have q2 : ∀ h, ((markL k n)[j]'h).a = k + 5 * j + 1 + 1 := fun h => by rw [hg]; show k + 5 * (j : Int) + 2 = _; omega
      have q3 : ∀ h, ((markL k n)[j]'h).b = k + 5 * j + 1 + 1 + 1 := fun h => by rw [hg]; show k + 5 * (j : Int) + 3 = _; omega
      have q4 : ∀ h, ((markL k n)[j]'h).n = k + 5 * j + 1 + 1 + 1 + 1 := fun h => by rw [hg]; show k + 5 * (j : Int) + 4 = _; omega
      clear hg
      repeat' first | refine g7 @hd @hlen @q0 @q1 @q2 @q3 @q4 ?_ | refine d7 @hd @hlen @q0 @q1 @q2 @q3 @q4 ?_ | refine j7 @hd @hlen @q0 @q1 @q2 @q3 @q4 (fun hg hgo => ?_) fun hg hgo => ?_ | refine ek_ret ?_ | refine ek_norm ?_ | refine ⟨by omega, ?_⟩ | rfl | trivial | intro _
      all_goals first | (exfalso; omega) | skip
      refine rd_norm [(0, .fv (stR (markL k n))), (1, iv (k + 5 * (j + 1 : Nat))), (5, iv (j + 1 : Nat))] (sub_of ?_) (m - 1) (by omega) ⟨j + 1, by omega, rfl⟩
      have h5 : k + 5 * ((j + 1 : Nat) : Int) = k + 5 * (j : Int) + 1 + 1 + 1 + 1 + 1 := by omega
      rw [h5]
      exact dn
    · have hd : decide ((j : Int) < (n : Int)) = false := by rw [decide_eq_false_iff_not]; omega
      have hjn : j = n := by omega
      subst hjn
      repeat' first | refine g2 @hd @hlen ?_ | refine d2 @hd @hlen ?_ | refine j2 @hd @hlen (fun hg hgo => ?_) fun hg hgo => ?_ | refine ek_ret ?_ | refine ek_norm ?_ | refine ⟨by omega, ?_⟩ | rfl | trivial | intro _
theorem v_markStepS (k : Int) (l : List StepD) (hk : 0 ≤ k ∧ k < 1000) (hn : l.length < 1073741824) : C2 CC F_laws_markStepS [.own 5 (steps l), iv k] (iv (k + 5 * l.length)) [.own 5 (steps (markL k l.length))] := by
  refine cw (keepF Tryz.f13) Tryz.f13 false ?_
  repeat' first | refine g0 ?_ | refine d0 ?_ | refine j0 (fun hg hgo => ?_) fun hg hgo => ?_ | refine ek_ret ?_ | refine ek_norm ?_ | refine ⟨by omega, ?_⟩ | rfl | trivial | intro _
  refine pw_loop (fun m st => ∃ j : Nat, j + m = l.length ∧ st = [(0, .hdr (1000000, []) 5 l.length), (1, iv (k + 5 * j)), (5, iv j), (1000000, .own 5 (steps (markL k j ++ l.drop j)))]) l.length [(0, .hdr (1000000, []) 5 l.length), (1, iv (k + 5 * (0 : Nat))), (5, iv (0 : Nat)), (1000000, .own 5 (steps (markL k 0 ++ l.drop 0)))] (sub_of ?_) ⟨0, by omega, rfl⟩ ?_
  · have h0 : k + 5 * ((0 : Nat) : Int) = k := by omega
    rw [h0, markL, List.drop_zero, List.nil_append]
    exact dn
  · rintro m st ⟨j, hj, rfl⟩
    by_cases hlt : j < l.length
    · have hd : decide ((j : Int) < (l.length : Int)) = true := by rw [decide_eq_true_eq]; omega
      have hs : ∀ y : StepD, (steps (markL k j ++ l.drop j)).set j (.fv (stF y)) = steps (markL k j ++ y :: l.drop (j + 1)) := by
        intro y
        unfold steps
        rw [List.drop_eq_getElem_cons hlt, List.map_append, List.map_append, List.set_append_right _ _ (by rw [List.length_map, markL_len]; omega), List.length_map, markL_len, Nat.sub_self, List.map_cons, List.set_cons_zero, List.map_cons]
      have hx : (steps (markL k j ++ l.drop j))[j]? = some (.fv (stF l[j])) := by
        unfold steps
        rw [List.drop_eq_getElem_cons hlt, List.map_append, List.getElem?_append_right (by rw [List.length_map, markL_len]; omega), List.length_map, markL_len, Nat.sub_self, List.map_cons, List.getElem?_cons_zero]
      have hL : (steps (markL k j ++ l.drop j)).length = l.length := by rw [steps_len, List.length_append, markL_len, List.length_drop]; omega
      have hnr : noRefs (steps (markL k j ++ l.drop j)) = true := nrs_steps
      generalize steps (markL k j ++ l.drop j) = L at hs hx hL hnr
      have hjL : j < L.length := by omega
      have hss : ∀ d, (L.set j d)[j]? = some d := fun d => List.getElem?_set_self hjL
      repeat' first | refine g7 @hd @hL @hx @hnr @hss @List.set_set.{0} @List.length_set.{0} ?_ | refine d7 @hd @hL @hx @hnr @hss @List.set_set.{0} @List.length_set.{0} ?_ | refine j7 @hd @hL @hx @hnr @hss @List.set_set.{0} @List.length_set.{0} (fun hg hgo => ?_) fun hg hgo => ?_ | refine ek_ret ?_ | refine ek_norm ?_ | refine ⟨by omega, ?_⟩ | rfl | trivial | intro _
      have h5 : k + 5 * ((j + 1 : Nat) : Int) = k + 5 * (j : Int) + 1 + 1 + 1 + 1 + 1 := by omega
      refine rd_norm [(0, .hdr (1000000, []) 5 l.length), (1, iv (k + 5 * (j + 1 : Nat))), (5, iv (j + 1 : Nat)), (1000000, .own 5 (steps (markL k (j + 1) ++ l.drop (j + 1))))] (sub_of ?_) (m - 1) (by omega) ⟨j + 1, by omega, rfl⟩
      have hy := hs (mkS (k + 5 * j))
      have hm : markL k (j + 1) ++ l.drop (j + 1) = markL k j ++ mkS (k + 5 * j) :: l.drop (j + 1) := by rw [markL, List.append_assoc]; rfl
      have e2 : k + 5 * (j : Int) + 1 + 1 = k + 5 * (j : Int) + 2 := by omega
      have e3 : k + 5 * (j : Int) + 2 + 1 = k + 5 * (j : Int) + 3 := by omega
      have e4 : k + 5 * (j : Int) + 3 + 1 = k + 5 * (j : Int) + 4 := by omega
      rw [h5, hm, ← hy]
      repeat' first | refine g3 @e2 @e3 @e4 ?_ | refine d3 @e2 @e3 @e4 ?_ | refine j3 @e2 @e3 @e4 (fun hg hgo => ?_) fun hg hgo => ?_ | refine ek_ret ?_ | refine ek_norm ?_ | refine ⟨by omega, ?_⟩ | rfl | trivial | intro _
    · have hd : decide ((j : Int) < (l.length : Int)) = false := by rw [decide_eq_false_iff_not]; omega
      have hjn : j = l.length := by omega
      subst hjn
      have h0 : steps (markL k l.length ++ l.drop l.length) = steps (markL k l.length) := by simp
      repeat' first | refine g2 @hd @h0 ?_ | refine d2 @hd @h0 ?_ | refine j2 @hd @h0 (fun hg hgo => ?_) fun hg hgo => ?_ | refine ek_ret ?_ | refine ek_norm ?_ | refine ⟨by omega, ?_⟩ | rfl | trivial | intro _
theorem v_in (n lo hi : Int) : C2 CC F_impl_in [iv n, iv lo, iv hi] (bv (decide (n ≥ lo) && decide (n ≤ hi))) [] := by
  refine cw (keepF Tryz.f79) Tryz.f79 false ?_
  repeat' first | refine g0 ?_ | refine d0 ?_ | refine j0 (fun hg hgo => ?_) fun hg hgo => ?_ | refine ek_ret ?_ | refine ek_norm ?_ | refine ⟨by omega, ?_⟩ | rfl | trivial | intro _
  all_goals simp_all
theorem v_l1In (n lo hi : Int) : C2 CC F_spec_l1In [iv n, iv lo, iv hi] (bv (decide (n ≥ lo) && decide (n ≤ hi))) [] := by
  refine cw (keepF Tryz.f67) Tryz.f67 false ?_
  repeat' first | refine g0 ?_ | refine d0 ?_ | refine j0 (fun hg hgo => ?_) fun hg hgo => ?_ | refine ek_ret ?_ | refine ek_norm ?_ | refine ⟨by omega, ?_⟩ | rfl | trivial | intro _
  all_goals simp_all
def wok (op : Int) : Bool := decide (op ≥ 1) && decide (op ≤ 10)
theorem v_WordOk (op : Int) : C2 CC F_impl_WordOk [iv op] (bv (wok op)) [] := by
  refine cw (keepF Tryz.f147) Tryz.f147 false ?_
  repeat' first | refine ck_intro (by first | exact v_in _ _ _) ?_ ?_ | refine g0 ?_ | refine d0 ?_ | refine j0 (fun hg hgo => ?_) fun hg hgo => ?_ | refine ek_ret ?_ | refine ek_norm ?_ | refine ⟨by omega, ?_⟩ | rfl | trivial | intro _
theorem s_WordOk (op : Int) : C2 CC F_spec_WordOk [iv op] (bv (wok op)) [] := by
  refine cw (keepF Tryz.f66) Tryz.f66 false ?_
  repeat' first | refine ck_intro (by first | exact v_l1In _ _ _) ?_ ?_ | refine g0 ?_ | refine d0 ?_ | refine j0 (fun hg hgo => ?_) fun hg hgo => ?_ | refine ek_ret ?_ | refine ek_norm ?_ | refine ⟨by omega, ?_⟩ | rfl | trivial | intro _
def usesL (x : StepD) : List Int := if (wok x.op || x.op == 22) = true then [x.a, x.b] else if (x.op == 21 || x.op == 23 || x.op == 25) = true then [x.a] else []
theorem v_InsUses (x : StepD) : C2 CC F_spec_InsUses [sF x] (.own 1 (ints (usesL x))) [] := by
  refine cw (keepF Tryz.f42) Tryz.f42 false ?_
  repeat' first | refine ck_intro (by first | exact s_WordOk _) ?_ ?_ | refine g0 ?_ | refine d0 ?_ | refine j0 (fun hg hgo => ?_) fun hg hgo => ?_ | refine ek_ret ?_ | refine ek_norm ?_ | refine ⟨by omega, ?_⟩ | rfl | trivial | intro _
  all_goals first | rfl | (simp_all [beqD, usesL, ints]; done) | ((try simp only [usesL, ints]); (repeat' split) <;> first | omega | (simp_all [beqD]; done) | (simp_all [beqD]; omega)) | (simp_all [beqD, usesL, ints]; (repeat' split) <;> first | rfl | omega | (simp_all; done))
def rb (l : List Int) : FV := .row 1 (l.map (.int .u8))
def idxI (c : Int) : List Int → Int → Int
  | [], _ => -1
  | x :: l, j => if c = x then j else idxI c l (j + 1)
theorem idx_at (c : Int) : ∀ (l : List Int) (j : Nat) (k : Int), (∀ i (h : i < l.length), i < j → c ≠ l[i]) → idxI c l k = idxI c (l.drop j) (k + j)
  | l, 0, k, _ => by simp
  | [], j + 1, k, _ => by simp [idxI]
  | x :: l, j + 1, k, h => by
    have h0 := h 0 (by simp) (by omega)
    simp only [List.getElem_cons_zero] at h0
    rw [List.drop_succ_cons, idxI, if_neg h0, idx_at c l j (k + 1) (fun i hi hij => by have := h (i + 1) (by simpa using hi) (by omega); simpa using this)]
    congr 1; omega
theorem v_Index_byte (l : List Int) (c : Int) (hl : l.length < 4611686018427387904) : C2 CC F_slices_Index_byte [.fv (rb l), .fv (.int .u8 c)] (iv (idxI c l 0)) [] := by
  unfold rb
  refine cw (keepF Tryz.f148) Tryz.f148 false ?_
  repeat' first | refine g0 ?_ | refine d0 ?_ | refine j0 (fun hg hgo => ?_) fun hg hgo => ?_ | refine ek_ret ?_ | refine ek_norm ?_ | refine ⟨by omega, ?_⟩ | rfl | trivial | intro _
  refine pw_loop (fun m st => ∃ j : Nat, j + m = l.length ∧ (∀ i (h : i < l.length), i < j → c ≠ l[i]) ∧ st = [(0, .fv (rb l)), (1, .fv (.int .u8 c)), (7, iv l.length), (8, iv j)]) l.length [(0, .fv (rb l)), (1, .fv (.int .u8 c)), (7, iv l.length), (8, iv (0 : Nat))] (sub_of ?_) ⟨0, by omega, fun i _ hi => by omega, rfl⟩ ?_
  · unfold rb
    exact dn
  · rintro m st ⟨j, hj, hb, rfl⟩
    unfold rb
    have hidx := idx_at c l j 0 hb
    by_cases hlt : j < l.length
    · have hd : decide ((j : Int) < (l.length : Int)) = true := by rw [decide_eq_true_eq]; omega
      have hml : j < (l.map (FV.int .u8)).length := by rw [List.length_map]; exact hlt
      have hidx2 : idxI c l 0 = if c = l[j] then (j : Int) else idxI c (l.drop (j + 1)) (j + 1) := by
        rw [hidx, List.drop_eq_getElem_cons hlt, idxI]; simp
      repeat' first | refine g1 @hd ?_ | refine d1 @hd ?_ | refine j1 @hd (fun hg hgo => ?_) fun hg hgo => ?_ | refine ek_ret ?_ | refine ek_norm ?_ | refine ⟨by omega, ?_⟩ | rfl | trivial | intro _
      · rw [hidx2, if_pos (by simpa using hg)]
      · have hne : c ≠ l[j] := by simpa using hg
        refine rd_norm [(0, .fv (rb l)), (1, .fv (.int .u8 c)), (7, iv l.length), (8, iv (j + 1 : Nat))] (sub_of ?_) (m - 1) (by omega) ⟨j + 1, by omega, fun i hi h1 => ?_, rfl⟩
        · unfold rb
          exact dn
        · by_cases h2 : i = j
          · subst h2; exact hne
          · exact hb i hi (by omega)
    · have hd : decide ((j : Int) < (l.length : Int)) = false := by rw [decide_eq_false_iff_not]; omega
      have hidx2 : idxI c l 0 = -1 := by
        rw [hidx, List.drop_eq_nil_of_le (by omega)]; rfl
      repeat' first | refine g2 @hd @hidx2 ?_ | refine d2 @hd @hidx2 ?_ | refine j2 @hd @hidx2 (fun hg hgo => ?_) fun hg hgo => ?_ | refine ek_ret ?_ | refine ek_norm ?_ | refine ⟨by omega, ?_⟩ | rfl | trivial | intro _
def byI (b : ByteArray) : List Int := b.data.toList.map fun x => (x.toNat : Int)
theorem byI_len (b : ByteArray) : (byI b).length = b.size := by unfold byI; rw [List.length_map]; rfl
@[go_sem] theorem bytesF_eq (b : ByteArray) : bytesF b = (byI b).map fun n => .fv (.int .u8 n) := by
  unfold bytesF byI; rw [List.map_map]; rfl
def formB (op : Int) : ByteArray := if op = 20 then ⟨#[68, 78]⟩ else if op = 21 then ⟨#[68, 65]⟩ else if op = 25 then ⟨#[68, 65]⟩ else if op = 22 then ⟨#[65, 66]⟩ else if op = 23 then ⟨#[65]⟩ else if op = 24 then ⟨#[68]⟩ else ⟨#[68, 65, 66]⟩
def formK (op : Int) : Bool := if op = 20 then true else if op = 21 then true else if op = 25 then true else if op = 22 then true else if op = 23 then true else if op = 24 then true else wok op
theorem formB_len (op : Int) : (byI (formB op)).length < 4611686018427387904 := by
  rw [byI_len]; unfold formB; repeat' split
  all_goals decide
theorem v_formOf (op : Int) : C2 CC F_impl_formOf [iv op] (.tup [.fv (.str (formB op)), bv (formK op)]) [] := by
  refine cw (keepF Tryz.f119) Tryz.f119 false ?_
  repeat' first | refine ck_intro (by first | exact v_WordOk _) ?_ ?_ | refine g0 ?_ | refine d0 ?_ | refine j0 (fun hg hgo => ?_) fun hg hgo => ?_ | refine ek_ret ?_ | refine ek_norm ?_ | refine ⟨by omega, ?_⟩ | rfl | trivial | intro _
  all_goals simp_all [formB, formK]
def hasI (l : List Int) (c : Int) : Bool := decide (idxI c l 0 ≥ 0)
theorem v_Contains_byte (l : List Int) (c : Int) (hl : l.length < 4611686018427387904) : C2 CC F_slices_Contains_byte [.fv (rb l), .fv (.int .u8 c)] (bv (hasI l c)) [] := by
  refine cw (keepF Tryz.f120) Tryz.f120 false ?_
  repeat' first | refine ck_intro (by first | exact v_Index_byte _ _ hl) ?_ ?_ | refine g0 ?_ | refine d0 ?_ | refine j0 (fun hg hgo => ?_) fun hg hgo => ?_ | refine ek_ret ?_ | refine ek_norm ?_ | refine ⟨by omega, ?_⟩ | rfl | trivial | intro _
def hasP (op c : Int) : Bool := formK op && hasI (byI (formB op)) c
theorem v_has (op c : Int) : C2 CC F_impl_has [iv op, .fv (.int .u8 c)] (bv (hasP op c)) [] := by
  refine cw (keepF Tryz.f76) Tryz.f76 false ?_
  repeat' first | refine ck_intro (by first | exact v_formOf _ | exact v_Contains_byte _ _ (formB_len op)) ?_ ?_ | refine g0 ?_ | refine d0 ?_ | refine j0 (fun hg hgo => ?_) fun hg hgo => ?_ | refine ek_ret ?_ | refine ek_norm ?_ | refine ⟨by omega, ?_⟩ | rfl | trivial | intro _
  all_goals simp_all [hasP]
def makesB (op : Int) : Bool := wok op || op == 20 || op == 21 || op == 24 || op == 25
def hasA (op : Int) : Bool := wok op || op == 22 || op == 21 || op == 23 || op == 25
def hasBb (op : Int) : Bool := wok op || op == 22
theorem hasP_all (op : Int) : hasP op 65 = hasA op ∧ hasP op 66 = hasBb op ∧ hasP op 68 = makesB op := by
  by_cases h20 : op = 20
  · subst h20; decide
  by_cases h21 : op = 21
  · subst h21; decide
  by_cases h22 : op = 22
  · subst h22; decide
  by_cases h23 : op = 23
  · subst h23; decide
  by_cases h24 : op = 24
  · subst h24; decide
  by_cases h25 : op = 25
  · subst h25; decide
  have hb : formB op = ⟨#[68, 65, 66]⟩ := by simp [formB, h20, h21, h22, h23, h24, h25]
  have hk : formK op = wok op := by simp [formK, h20, h21, h22, h23, h24, h25]
  have i1 : hasI (byI ⟨#[68, 65, 66]⟩) 65 = true := by decide
  have i2 : hasI (byI ⟨#[68, 65, 66]⟩) 66 = true := by decide
  have i3 : hasI (byI ⟨#[68, 65, 66]⟩) 68 = true := by decide
  simp [hasP, hb, hk, i1, i2, i3, hasA, hasBb, makesB, beqD, h20, h21, h22, h23, h24, h25]
theorem v_hasA (op : Int) : C2 CC F_impl_has [iv op, .fv (.int .u8 65)] (bv (hasA op)) [] := by rw [← (hasP_all op).1]; exact v_has op 65
theorem v_hasB (op : Int) : C2 CC F_impl_has [iv op, .fv (.int .u8 66)] (bv (hasBb op)) [] := by rw [← (hasP_all op).2.1]; exact v_has op 66
theorem v_hasD (op : Int) : C2 CC F_impl_has [iv op, .fv (.int .u8 68)] (bv (makesB op)) [] := by rw [← (hasP_all op).2.2]; exact v_has op 68
def hasNb (op : Int) : Bool := op == 20
theorem hasP_N (op : Int) : hasP op 78 = hasNb op := by
  by_cases h20 : op = 20
  · subst h20; decide
  by_cases h21 : op = 21
  · subst h21; decide
  by_cases h22 : op = 22
  · subst h22; decide
  by_cases h23 : op = 23
  · subst h23; decide
  by_cases h24 : op = 24
  · subst h24; decide
  by_cases h25 : op = 25
  · subst h25; decide
  have hb : formB op = ⟨#[68, 65, 66]⟩ := by simp [formB, h20, h21, h22, h23, h24, h25]
  have i1 : hasI (byI ⟨#[68, 65, 66]⟩) 78 = false := by decide
  simp [hasP, hb, i1, hasNb, h20]
theorem v_hasN (op : Int) : C2 CC F_impl_has [iv op, .fv (.int .u8 78)] (bv (hasNb op)) [] := by rw [← hasP_N op]; exact v_has op 78
theorem v_l2Makes (op : Int) : C2 CC F_spec_l2Makes [iv op] (bv (makesB op)) [] := by
  refine cw (keepF Tryz.f62) Tryz.f62 false ?_
  repeat' first | refine ck_intro (by first | exact s_WordOk _) ?_ ?_ | refine g0 ?_ | refine d0 ?_ | refine j0 (fun hg hgo => ?_) fun hg hgo => ?_ | refine ek_ret ?_ | refine ek_norm ?_ | refine ⟨by omega, ?_⟩ | rfl | trivial | intro _
  all_goals first | rfl | (simp_all [beqD, makesB]; done) | ((try simp only [makesB]); (repeat' split) <;> first | omega | (simp_all [beqD]; done) | (simp_all [beqD]; omega)) | (simp_all [beqD, makesB]; (repeat' split) <;> first | rfl | omega | (simp_all; done))
def homeB (n : Int) : Bool := decide (n ≥ 0) && decide (n ≤ 39)
def tkL (home by_ : Int) : List StepD := if home < 4 then [] else [⟨3, by_, 0, 0, home - 4⟩]
def tkR (home by_ : Int) : Int := if home < 4 then home else by_
theorem v_l15Take (home by_ : Int) (h1 : home ≤ 39) : C2 CC F_spec_l15Take [iv home, iv by_] (.tup [.own 5 (steps (tkL home by_)), iv (tkR home by_)]) [] := by
  refine cw (keepF Tryz.f63) Tryz.f63 false ?_
  repeat' first | refine g0 ?_ | refine d0 ?_ | refine j0 (fun hg hgo => ?_) fun hg hgo => ?_ | refine ek_ret ?_ | refine ek_norm ?_ | refine ⟨by omega, ?_⟩ | rfl | trivial | intro _
  all_goals first | rfl | (simp_all [beqD, tkL, tkR, steps]; done) | ((try simp only [tkL, tkR, steps]); (repeat' split) <;> first | omega | (simp_all [beqD]; done) | (simp_all [beqD]; omega)) | (simp_all [beqD, tkL, tkR, steps]; (repeat' split) <;> first | rfl | omega | (simp_all; done))
theorem v_l15Home (n : Int) : C2 CC F_spec_l15Home [iv n] (bv (homeB n)) [] := by
  refine cw (keepF Tryz.f61) Tryz.f61 false ?_
  repeat' first | refine ck_intro (by first | exact v_l1In _ _ _) ?_ ?_ | refine g0 ?_ | refine d0 ?_ | refine j0 (fun hg hgo => ?_) fun hg hgo => ?_ | refine ek_ret ?_ | refine ek_norm ?_ | refine ⟨by omega, ?_⟩ | rfl | trivial | intro _
theorem stepsA {l m : List StepD} : steps l ++ steps m = steps (l ++ m) := by unfold steps; simp
theorem stepsS {l : List StepD} {a b c d e : Int} : steps l ++ [.fv (.agg [.int .i64 a, .int .i64 b, .int .i64 c, .int .i64 d, .int .i64 e])] = steps (l ++ [⟨a, b, c, d, e⟩]) := by unfold steps; simp
theorem stepsS2 {l : List StepD} {a b c d e a' b' c' d' e' : Int} : steps l ++ [.fv (.agg [.int .i64 a, .int .i64 b, .int .i64 c, .int .i64 d, .int .i64 e]), .fv (.agg [.int .i64 a', .int .i64 b', .int .i64 c', .int .i64 d', .int .i64 e'])] = steps (l ++ [⟨a, b, c, d, e⟩, ⟨a', b', c', d', e'⟩]) := by unfold steps; simp
theorem homeB_le {n : Int} (h : homeB n = true) : n ≤ 39 := by unfold homeB at h; simp at h; exact h.2
theorem homeB_ge {n : Int} (h : homeB n = true) : 0 ≤ n := by unfold homeB at h; simp at h; exact h.1
def giveL (l : List StepD) (s : StepD) (home : Int) : List StepD := if home < 4 then l ++ [{ s with r := home }] else l ++ [{ s with r := 6 }, ⟨4, 0, 6, 0, home - 4⟩]
theorem v_l15Give (l : List StepD) (s : StepD) (home : Int) (h1 : home ≤ 39) (hl : l.length < 100000) : C2 CC F_spec_l15Give [.own 5 (steps l), sF s, iv home] (.own 5 (steps (giveL l s home))) [.junk 1] := by
  refine cw (keepF Tryz.f64) Tryz.f64 false ?_
  repeat' first | refine g2 @stepsS @stepsS2 ?_ | refine d2 @stepsS @stepsS2 ?_ | refine j2 @stepsS @stepsS2 (fun hg hgo => ?_) fun hg hgo => ?_ | refine ek_ret ?_ | refine ek_norm ?_ | refine ⟨by omega, ?_⟩ | rfl | trivial | intro _
  all_goals first | rfl | (simp_all [beqD, giveL]; done) | ((try simp only [giveL]); (repeat' split) <;> first | omega | (simp_all [beqD]; done) | (simp_all [beqD]; omega)) | (simp_all [beqD, giveL]; (repeat' split) <;> first | rfl | omega | (simp_all; done))
def copyL (x : StepD) : List StepD := if x.r < 4 ∧ x.a < 4 then [⟨2, x.r, x.a, 0, 0⟩] else if x.r < 4 then [⟨3, x.r, 0, 0, x.a - 4⟩] else tkL x.a 4 ++ [⟨4, 0, tkR x.a 4, 0, x.r - 4⟩]
theorem tkL_len (home by_ : Int) : (tkL home by_).length ≤ 1 := by unfold tkL; split <;> simp
theorem v_l15Copy (x : StepD) (h1 : x.r ≤ 39) (h2 : x.a ≤ 39) : C2 CC F_spec_l15Copy [sF x] (.own 5 (steps (copyL x))) [] := by
  obtain ⟨op, r, a, b, n⟩ := x
  simp only at h1 h2
  have l1 := tkL_len a 4
  refine cw (keepF Tryz.f65) Tryz.f65 false ?_
  repeat' first | refine ck_intro (by first | exact v_l15Take _ _ (by omega)) ?_ ?_ | refine g1 @stepsS ?_ | refine d1 @stepsS ?_ | refine j1 @stepsS (fun hg hgo => ?_) fun hg hgo => ?_ | refine ek_ret ?_ | refine ek_norm ?_ | refine ⟨by omega, ?_⟩ | rfl | trivial | intro _
  all_goals first | rfl | (simp_all [beqD, copyL, steps]; done) | ((try simp only [copyL, steps]); (repeat' split) <;> first | omega | (simp_all [beqD]; done) | (simp_all [beqD]; omega)) | (simp_all [beqD, copyL, steps]; (repeat' split) <;> first | rfl | omega | (simp_all; done))
def homedB (x : StepD) : Bool := (usesL x).all homeB && (!makesB x.op || homeB x.r)
def takenL (x : StepD) : List StepD := (if 0 < (usesL x).length then tkL x.a 4 else []) ++ (if 1 < (usesL x).length then tkL x.b 5 else [])
def regA (x : StepD) : Int := if 0 < (usesL x).length then tkR x.a 4 else 0
def regB (x : StepD) : Int := if 1 < (usesL x).length then tkR x.b 5 else 0
def emitL (x : StepD) : List StepD :=
  if homedB x = false then []
  else if x.op = 20 then giveL (takenL x) ⟨1, 0, 0, 0, x.n⟩ x.r
  else if x.op = 21 then giveL (takenL x) ⟨5, 0, regA x, 0, 0⟩ x.r
  else if x.op = 24 then giveL (takenL x) ⟨8, 0, 0, 0, 0⟩ x.r
  else if x.op = 22 then takenL x ++ [⟨6, 0, regA x, regB x, 0⟩]
  else if x.op = 23 then takenL x ++ [⟨7, 0, regA x, 0, 0⟩]
  else if x.op = 25 then copyL x
  else if wok x.op = true then giveL (takenL x) ⟨11 + x.op, 0, regA x, regB x, 0⟩ x.r
  else []
theorem wok_range {n : Int} (h : wok n = true) : 1 ≤ n ∧ n ≤ 10 := by unfold wok at h; simp at h; exact h
set_option maxHeartbeats 2000000 in
theorem emit_0 (op r a b n : Int) (hu : usesL ⟨op, r, a, b, n⟩ = []) : C2 CC F_spec_EmitIns [sF ⟨op, r, a, b, n⟩] (.own 5 (steps (emitL ⟨op, r, a, b, n⟩))) [] := by
  have k := v_InsUses ⟨op, r, a, b, n⟩
  rw [hu] at k
  have e0 : wok op = false := by cases hw : wok op with | false => rfl | true => simp [usesL, hw] at hu
  have e21 : (op == 21) = false := by cases hw : op == 21 with | false => rfl | true => simp_all [usesL]
  have e22 : (op == 22) = false := by cases hw : op == 22 with | false => rfl | true => simp_all [usesL]
  have e23 : (op == 23) = false := by cases hw : op == 23 with | false => rfl | true => simp_all [usesL]
  have e25 : (op == 25) = false := by cases hw : op == 25 with | false => rfl | true => simp_all [usesL]
  have hs : steps [] = [] := rfl
  refine cw (keepF Tryz.f27) Tryz.f27 false ?_
  repeat' first | refine ck_intro (by first | exact k | exact v_l15Home _ | exact v_l2Makes _ | exact s_WordOk _ | exact v_l15Give [] ⟨1, 0, 0, 0, n⟩ _ (homeB_le (by first | assumption | (simp_all [makesB]; done))) (by first | omega | (simp only [List.length_append, List.length_nil]; omega)) | exact v_l15Give [] ⟨8, 0, 0, 0, 0⟩ _ (homeB_le (by first | assumption | (simp_all [makesB]; done))) (by first | omega | (simp only [List.length_append, List.length_nil]; omega))) ?_ ?_ | refine pw_unroll ?_ | refine g5 @e0 @e21 @e22 @e23 @e25 ?_ | refine d5 @e0 @e21 @e22 @e23 @e25 ?_ | refine j5 @e0 @e21 @e22 @e23 @e25 (fun hg hgo => ?_) fun hg hgo => ?_ | refine ek_ret ?_ | refine ek_norm ?_ | refine ⟨by omega, ?_⟩ | rfl | trivial | intro _
  all_goals first | rfl | (simp_all [beqD, emitL, homedB, takenL, regA, regB, steps]; done) | (simp_all [beqD, emitL, homedB, takenL, regA, regB, makesB, steps]; done) | ((try simp only [emitL, homedB, takenL, regA, regB, steps]); (repeat' split) <;> first | omega | (simp_all [beqD]; done) | (simp_all [beqD]; omega)) | (simp_all [beqD, emitL, homedB, takenL, regA, regB, steps]; (repeat' split) <;> first | rfl | omega | (simp_all; done))
set_option maxHeartbeats 2000000 in
theorem emit_1 (op r a b n : Int) (e0 : wok op = false) (e22 : (op == 22) = false) (e1 : (op == 21 || op == 23 || op == 25) = true) : C2 CC F_spec_EmitIns [sF ⟨op, r, a, b, n⟩] (.own 5 (steps (emitL ⟨op, r, a, b, n⟩))) [] := by
  have k := v_InsUses ⟨op, r, a, b, n⟩
  have hu : usesL ⟨op, r, a, b, n⟩ = [a] := by simp_all [usesL]
  rw [hu] at k
  have e20 : (op == 20) = false := by simp_all [beqD]; omega
  have e24 : (op == 24) = false := by simp_all [beqD]; omega
  have l1 := tkL_len a 4
  clear e1
  refine cw (keepF Tryz.f27) Tryz.f27 false ?_
  repeat' first | refine ck_intro (by first | exact k | exact v_l15Home _ | exact v_l2Makes _ | exact s_WordOk _ | exact v_l15Take _ _ (homeB_le (by first | assumption | (simp_all [makesB]; done))) | exact v_l15Copy ⟨op, r, a, b, n⟩ (homeB_le (by first | assumption | (simp_all [makesB]; done))) (homeB_le (by first | assumption | (simp_all [makesB]; done))) | exact v_l15Give _ ⟨5, 0, tkR a 4, 0, 0⟩ _ (homeB_le (by first | assumption | (simp_all [makesB]; done))) (by first | omega | (simp only [List.length_append, List.length_nil]; omega))) ?_ ?_ | refine pw_unroll ?_ | refine g7 @e0 @e22 @e20 @e24 @ints_cons @ints_nil @stepsS ?_ | refine d7 @e0 @e22 @e20 @e24 @ints_cons @ints_nil @stepsS ?_ | refine j7 @e0 @e22 @e20 @e24 @ints_cons @ints_nil @stepsS (fun hg hgo => ?_) fun hg hgo => ?_ | refine ek_ret ?_ | refine ek_norm ?_ | refine ⟨by omega, ?_⟩ | rfl | trivial | intro _
  all_goals first | rfl | (simp_all [beqD, emitL, homedB, takenL, regA, regB, steps]; done) | (simp_all [beqD, emitL, homedB, takenL, regA, regB, makesB, steps]; done) | ((try simp only [emitL, homedB, takenL, regA, regB, steps]); (repeat' split) <;> first | omega | (simp_all [beqD]; done) | (simp_all [beqD]; omega)) | (simp_all [beqD, emitL, homedB, takenL, regA, regB, steps]; (repeat' split) <;> first | rfl | omega | (simp_all; done))
theorem tkL_len2 (a b : Int) : (tkL a 4 ++ tkL b 5).length ≤ 2 := by have := tkL_len a 4; have := tkL_len b 5; rw [List.length_append]; omega
set_option maxHeartbeats 2000000 in
theorem emit_w (op r a b n : Int) (e0 : wok op = true) : C2 CC F_spec_EmitIns [sF ⟨op, r, a, b, n⟩] (.own 5 (steps (emitL ⟨op, r, a, b, n⟩))) [] := by
  have k := v_InsUses ⟨op, r, a, b, n⟩
  have hu : usesL ⟨op, r, a, b, n⟩ = [a, b] := by simp_all [usesL]
  rw [hu] at k
  have hw := wok_range e0
  have e20 : (op == 20) = false := by rw [beq_eq_false_iff_ne]; omega
  have e21 : (op == 21) = false := by rw [beq_eq_false_iff_ne]; omega
  have e22 : (op == 22) = false := by rw [beq_eq_false_iff_ne]; omega
  have e23 : (op == 23) = false := by rw [beq_eq_false_iff_ne]; omega
  have e24 : (op == 24) = false := by rw [beq_eq_false_iff_ne]; omega
  have e25 : (op == 25) = false := by rw [beq_eq_false_iff_ne]; omega
  have hm : makesB op = true := by simp [makesB, e0]
  have l1 := tkL_len a 4
  have l2 := tkL_len b 5
  have l3 := tkL_len2 a b
  refine cw (keepF Tryz.f27) Tryz.f27 false ?_
  repeat' first | refine ck_intro (by first | exact k | exact v_l15Home _ | exact v_l2Makes _ | exact s_WordOk _ | exact v_l15Take _ _ (homeB_le (by first | assumption | (simp_all [makesB]; done))) | exact v_l15Give _ ⟨11 + op, 0, tkR a 4, tkR b 5, 0⟩ _ (homeB_le (by first | assumption | (simp_all [makesB]; done))) (by first | omega | (simp only [List.length_append, List.length_nil]; omega))) ?_ ?_ | refine pw_unroll ?_ | refine g12 @e0 @e20 @e21 @e22 @e23 @e24 @e25 @hm @ints_cons @ints_nil @stepsA @stepsS ?_ | refine d12 @e0 @e20 @e21 @e22 @e23 @e24 @e25 @hm @ints_cons @ints_nil @stepsA @stepsS ?_ | refine j12 @e0 @e20 @e21 @e22 @e23 @e24 @e25 @hm @ints_cons @ints_nil @stepsA @stepsS (fun hg hgo => ?_) fun hg hgo => ?_ | refine ek_ret ?_ | refine ek_norm ?_ | refine ⟨by omega, ?_⟩ | rfl | trivial | intro _
  all_goals first | rfl | (simp_all [beqD, emitL, homedB, takenL, regA, regB, steps]; done) | ((try simp only [emitL, homedB, takenL, regA, regB, steps]); (repeat' split) <;> first | omega | (simp_all [beqD]; done) | (simp_all [beqD]; omega)) | (simp_all [beqD, emitL, homedB, takenL, regA, regB, steps]; (repeat' split) <;> first | rfl | omega | (simp_all; done))
set_option maxHeartbeats 2000000 in
theorem emit_22 (r a b n : Int) : C2 CC F_spec_EmitIns [sF ⟨22, r, a, b, n⟩] (.own 5 (steps (emitL ⟨22, r, a, b, n⟩))) [] := by
  have k := v_InsUses ⟨22, r, a, b, n⟩
  have hu : usesL ⟨22, r, a, b, n⟩ = [a, b] := rfl
  rw [hu] at k
  have hm : makesB 22 = false := by decide
  have l1 := tkL_len a 4
  have l2 := tkL_len b 5
  have l3 := tkL_len2 a b
  refine cw (keepF Tryz.f27) Tryz.f27 false ?_
  repeat' first | refine ck_intro (by first | exact k | exact v_l15Home _ | exact v_l2Makes _ | exact s_WordOk _ | exact v_l15Take _ _ (homeB_le (by first | assumption | (simp_all [makesB]; done)))) ?_ ?_ | refine pw_unroll ?_ | refine g5 @hm @ints_cons @ints_nil @stepsA @stepsS ?_ | refine d5 @hm @ints_cons @ints_nil @stepsA @stepsS ?_ | refine j5 @hm @ints_cons @ints_nil @stepsA @stepsS (fun hg hgo => ?_) fun hg hgo => ?_ | refine ek_ret ?_ | refine ek_norm ?_ | refine ⟨by omega, ?_⟩ | rfl | trivial | intro _
  all_goals first | rfl | (simp_all [beqD, emitL, homedB, takenL, regA, regB, steps]; done) | ((try simp only [emitL, homedB, takenL, regA, regB, steps]); (repeat' split) <;> first | omega | (simp_all [beqD]; done) | (simp_all [beqD]; omega)) | (simp_all [beqD, emitL, homedB, takenL, regA, regB, steps]; (repeat' split) <;> first | rfl | omega | (simp_all; done))
theorem v_EmitIns (x : StepD) : C2 CC F_spec_EmitIns [sF x] (.own 5 (steps (emitL x))) [] := by
  obtain ⟨op, r, a, b, n⟩ := x
  cases hw : wok op with
  | true => exact emit_w op r a b n hw
  | false =>
    cases h22 : op == 22 with
    | true => have : op = 22 := by simpa using h22
              subst this; exact emit_22 r a b n
    | false =>
      cases h1 : (op == 21 || op == 23 || op == 25) with
      | true => exact emit_1 op r a b n hw h22 h1
      | false => exact emit_0 op r a b n (by simp [usesL, hw, h22, h1])
theorem v_isHome (n : Int) : C2 CC F_impl_isHome [iv n] (bv (homeB n)) [] := by
  refine cw (keepF Tryz.f57) Tryz.f57 false ?_
  repeat' first | refine ck_intro (by first | exact v_in _ _ _) ?_ ?_ | refine g0 ?_ | refine d0 ?_ | refine j0 (fun hg hgo => ?_) fun hg hgo => ?_ | refine ek_ret ?_ | refine ek_norm ?_ | refine ⟨by omega, ?_⟩ | rfl | trivial | intro _
def homedJ (x : StepD) : Bool := formK x.op && (!makesB x.op || homeB x.r) && (!hasA x.op || homeB x.a) && (!hasBb x.op || homeB x.b)
theorem v_homed (x : StepD) : C2 CC F_impl_homed [sF x] (bv (homedJ x)) [] := by
  obtain ⟨op, r, a, b, n⟩ := x
  refine cw (keepF Tryz.f74) Tryz.f74 false ?_
  repeat' first | refine ck_intro (by first | exact v_formOf _ | exact v_hasA _ | exact v_hasB _ | exact v_hasD _ | exact v_isHome _) ?_ ?_ | refine g0 ?_ | refine d0 ?_ | refine j0 (fun hg hgo => ?_) fun hg hgo => ?_ | refine ek_ret ?_ | refine ek_norm ?_ | refine ⟨by omega, ?_⟩ | rfl | trivial | intro _
  all_goals first | rfl | (simp_all [beqD, homedJ]; done) | ((try simp only [homedJ]); (repeat' split) <;> first | omega | (simp_all [beqD]; done) | (simp_all [beqD]; omega)) | (simp_all [beqD, homedJ]; (repeat' split) <;> first | rfl | omega | (simp_all; done))
theorem taken_lo (home by_ : Int) (h : home < 4) : C2 CC F_impl_taken [iv home, iv by_] (.tup [iv home, .fv .nil]) [] := by
  refine cw (keepF Tryz.f77) Tryz.f77 false ?_
  repeat' first | refine g0 ?_ | refine d0 ?_ | refine j0 (fun hg hgo => ?_) fun hg hgo => ?_ | refine ek_ret ?_ | refine ek_norm ?_ | refine ⟨by omega, ?_⟩ | rfl | trivial | intro _
  all_goals first | rfl | (simp_all [beqD, tkL]; done) | ((try simp only [tkL]); (repeat' split) <;> first | omega | (simp_all [beqD]; done) | (simp_all [beqD]; omega)) | (simp_all [beqD, tkL]; (repeat' split) <;> first | rfl | omega | (simp_all; done))
theorem taken_hi (home by_ : Int) (h : ¬ home < 4) (h1 : home ≤ 39) : C2 CC F_impl_taken [iv home, iv by_] (.tup [iv by_, .own 5 (steps [⟨3, by_, 0, 0, home - 4⟩])]) [] := by
  refine cw (keepF Tryz.f77) Tryz.f77 false ?_
  repeat' first | refine g0 ?_ | refine d0 ?_ | refine j0 (fun hg hgo => ?_) fun hg hgo => ?_ | refine ek_ret ?_ | refine ek_norm ?_ | refine ⟨by omega, ?_⟩ | rfl | trivial | intro _
  all_goals first | rfl | (simp_all [beqD, steps]; done) | ((try simp only [steps]); (repeat' split) <;> first | omega | (simp_all [beqD]; done) | (simp_all [beqD]; omega)) | (simp_all [beqD, steps]; (repeat' split) <;> first | rfl | omega | (simp_all; done))
def stepL (x : StepD) (r a b : Int) : StepD :=
  if x.op = 20 then ⟨1, r, 0, 0, x.n⟩ else if x.op = 21 then ⟨5, r, a, 0, 0⟩ else if x.op = 22 then ⟨6, 0, a, b, 0⟩
  else if x.op = 23 then ⟨7, 0, a, 0, 0⟩ else if x.op = 24 then ⟨8, r, 0, 0, 0⟩ else ⟨IntKind.wrap .i64 (x.op + 11), r, a, b, 0⟩
theorem v_stepOf (x : StepD) (r a b : Int) : C2 CC F_impl_stepOf [sF x, iv r, iv a, iv b] (sF (stepL x r a b)) [] := by
  obtain ⟨op, r0, a0, b0, n⟩ := x
  refine cw (keepF Tryz.f78) Tryz.f78 false ?_
  repeat' first | refine g0 ?_ | refine d0 ?_ | refine j0 (fun hg hgo => ?_) fun hg hgo => ?_ | refine ek_ret ?_ | refine ek_norm ?_ | refine ⟨by omega, ?_⟩ | rfl | trivial | intro _
  all_goals first | rfl | (simp_all [beqD, stepL]; done) | ((try simp only [stepL]); (repeat' split) <;> first | omega | (simp_all [beqD]; done) | (simp_all [beqD]; omega)) | (simp_all [beqD, stepL]; (repeat' split) <;> first | rfl | omega | (simp_all; done))
theorem v_emitCopy (x : StepD) (h1 : x.r ≤ 39) (h2 : x.a ≤ 39) : C2 CC F_impl_emitCopy [sF x] (.own 5 (steps (copyL x))) [] := by
  obtain ⟨op, r, a, b, n⟩ := x
  simp only at h1 h2
  by_cases ha : a < 4
  · refine cw (keepF Tryz.f75) Tryz.f75 false ?_
    repeat' first | refine ck_intro (by first | exact taken_lo _ _ (by omega)) ?_ ?_ | refine g2 @steps_len @stepsS ?_ | refine d2 @steps_len @stepsS ?_ | refine j2 @steps_len @stepsS (fun hg hgo => ?_) fun hg hgo => ?_ | refine ek_ret ?_ | refine ek_norm ?_ | refine ⟨by omega, ?_⟩ | rfl | trivial | intro _
    all_goals first | rfl | (simp_all [beqD, copyL, steps, tkL, tkR]; done) | ((try simp only [copyL, steps, tkL, tkR]); (repeat' split) <;> first | omega | (simp_all [beqD]; done) | (simp_all [beqD]; omega)) | (simp_all [beqD, copyL, steps, tkL, tkR]; (repeat' split) <;> first | rfl | omega | (simp_all; done))
  · refine cw (keepF Tryz.f75) Tryz.f75 false ?_
    repeat' first | refine ck_intro (by first | exact taken_hi _ _ (by omega) (by omega)) ?_ ?_ | refine g2 @steps_len @stepsS ?_ | refine d2 @steps_len @stepsS ?_ | refine j2 @steps_len @stepsS (fun hg hgo => ?_) fun hg hgo => ?_ | refine ek_ret ?_ | refine ek_norm ?_ | refine ⟨by omega, ?_⟩ | rfl | trivial | intro _
    all_goals first | rfl | (simp_all [beqD, copyL, steps, tkL, tkR]; done) | ((try simp only [copyL, steps, tkL, tkR]); (repeat' split) <;> first | omega | (simp_all [beqD]; done) | (simp_all [beqD]; omega)) | (simp_all [beqD, copyL, steps, tkL, tkR]; (repeat' split) <;> first | rfl | omega | (simp_all; done))
theorem i_none (x : StepD) (h : homedJ x = false) : C2 CC F_impl_EmitIns [sF x] (.fv .nil) [] := by
  have k := v_homed x
  rw [h] at k
  refine cw (keepF Tryz.f33) Tryz.f33 false ?_
  repeat' first | refine ck_intro (by first | exact k) ?_ ?_ | refine g0 ?_ | refine d0 ?_ | refine j0 (fun hg hgo => ?_) fun hg hgo => ?_ | refine ek_ret ?_ | refine ek_norm ?_ | refine ⟨by omega, ?_⟩ | rfl | trivial | intro _
theorem i_copy (r a b n : Int) (hr : homeB r = true) (ha : homeB a = true) : C2 CC F_impl_EmitIns [sF ⟨25, r, a, b, n⟩] (.own 5 (steps (emitL ⟨25, r, a, b, n⟩))) [] := by
  have k := v_homed ⟨25, r, a, b, n⟩
  have hk : homedJ ⟨25, r, a, b, n⟩ = true := by simp [homedJ, hr, ha, hasBb, wok, formK]
  rw [hk] at k
  have he : emitL ⟨25, r, a, b, n⟩ = copyL ⟨25, r, a, b, n⟩ := by simp [emitL, homedB, usesL, makesB, wok, hr, ha]
  rw [he]
  refine cw (keepF Tryz.f33) Tryz.f33 false ?_
  repeat' first | refine ck_intro (by first | exact k | exact v_emitCopy ⟨25, r, a, b, n⟩ (homeB_le hr) (homeB_le ha)) ?_ ?_ | refine g0 ?_ | refine d0 ?_ | refine j0 (fun hg hgo => ?_) fun hg hgo => ?_ | refine ek_ret ?_ | refine ek_norm ?_ | refine ⟨by omega, ?_⟩ | rfl | trivial | intro _
theorem i_const (r a b n : Int) (hr : homeB r = true) : C2 CC F_impl_EmitIns [sF ⟨20, r, a, b, n⟩] (.own 5 (steps (emitL ⟨20, r, a, b, n⟩))) [] := by
  have k := v_homed ⟨20, r, a, b, n⟩
  have hk : homedJ ⟨20, r, a, b, n⟩ = true := by simp [homedJ, hr, hasA, hasBb, wok, formK]
  rw [hk] at k
  have r1 := homeB_le hr
  have hA : hasA 20 = false := by decide
  have hB : hasBb 20 = false := by decide
  have hD : makesB 20 = true := by decide
  refine cw (keepF Tryz.f33) Tryz.f33 false ?_
  repeat' first | refine ck_intro (by first | exact k | exact v_hasA _ | exact v_hasB _ | exact v_hasD _ | exact v_stepOf ⟨20, r, a, b, n⟩ _ _ _) ?_ ?_ | refine g3 @hA @hB @hD ?_ | refine d3 @hA @hB @hD ?_ | refine j3 @hA @hB @hD (fun hg hgo => ?_) fun hg hgo => ?_ | refine ek_ret ?_ | refine ek_norm ?_ | refine ⟨by omega, ?_⟩ | rfl | trivial | intro _
  all_goals first | rfl | (simp_all [beqD, emitL, homedB, usesL, makesB, wok, takenL, regA, regB, giveL, stepL, steps]; done) | ((try simp only [emitL, homedB, usesL, makesB, wok, takenL, regA, regB, giveL, stepL, steps]); (repeat' split) <;> first | omega | (simp_all [beqD]; done) | (simp_all [beqD]; omega)) | (simp_all [beqD, emitL, homedB, usesL, makesB, wok, takenL, regA, regB, giveL, stepL, steps]; (repeat' split) <;> first | rfl | omega | (simp_all; done))
theorem i_read (r a b n : Int) (hr : homeB r = true) : C2 CC F_impl_EmitIns [sF ⟨24, r, a, b, n⟩] (.own 5 (steps (emitL ⟨24, r, a, b, n⟩))) [] := by
  have k := v_homed ⟨24, r, a, b, n⟩
  have hk : homedJ ⟨24, r, a, b, n⟩ = true := by simp [homedJ, hr, hasA, hasBb, wok, formK]
  rw [hk] at k
  have r1 := homeB_le hr
  have hA : hasA 24 = false := by decide
  have hB : hasBb 24 = false := by decide
  have hD : makesB 24 = true := by decide
  refine cw (keepF Tryz.f33) Tryz.f33 false ?_
  repeat' first | refine ck_intro (by first | exact k | exact v_hasA _ | exact v_hasB _ | exact v_hasD _ | exact v_stepOf ⟨24, r, a, b, n⟩ _ _ _) ?_ ?_ | refine g3 @hA @hB @hD ?_ | refine d3 @hA @hB @hD ?_ | refine j3 @hA @hB @hD (fun hg hgo => ?_) fun hg hgo => ?_ | refine ek_ret ?_ | refine ek_norm ?_ | refine ⟨by omega, ?_⟩ | rfl | trivial | intro _
  all_goals first | rfl | (simp_all [beqD, emitL, homedB, usesL, makesB, wok, takenL, regA, regB, giveL, stepL, steps]; done) | ((try simp only [emitL, homedB, usesL, makesB, wok, takenL, regA, regB, giveL, stepL, steps]); (repeat' split) <;> first | omega | (simp_all [beqD]; done) | (simp_all [beqD]; omega)) | (simp_all [beqD, emitL, homedB, usesL, makesB, wok, takenL, regA, regB, giveL, stepL, steps]; (repeat' split) <;> first | rfl | omega | (simp_all; done))
theorem i_out (r a b n : Int) (ha : homeB a = true) : C2 CC F_impl_EmitIns [sF ⟨23, r, a, b, n⟩] (.own 5 (steps (emitL ⟨23, r, a, b, n⟩))) [] := by
  have k := v_homed ⟨23, r, a, b, n⟩
  have hk : homedJ ⟨23, r, a, b, n⟩ = true := by simp [homedJ, ha, makesB, hasBb, wok, formK]
  rw [hk] at k
  have a1 := homeB_le ha
  have hA : hasA 23 = true := by decide
  have hB : hasBb 23 = false := by decide
  have hD : makesB 23 = false := by decide
  by_cases ca : a < 4
  all_goals
    refine cw (keepF Tryz.f33) Tryz.f33 false ?_
    repeat' first | refine ck_intro (by first | exact k | exact v_hasA _ | exact v_hasB _ | exact v_hasD _ | exact v_stepOf ⟨23, r, a, b, n⟩ _ _ _ | exact taken_lo _ _ (by omega) | exact taken_hi _ _ (by omega) (by omega)) ?_ ?_ | refine g3 @hA @hB @hD ?_ | refine d3 @hA @hB @hD ?_ | refine j3 @hA @hB @hD (fun hg hgo => ?_) fun hg hgo => ?_ | refine ek_ret ?_ | refine ek_norm ?_ | refine ⟨by omega, ?_⟩ | rfl | trivial | intro _
    all_goals first | rfl | (simp_all [beqD, emitL, homedB, usesL, makesB, wok, takenL, regA, regB, giveL, stepL, steps, tkL, tkR]; done) | ((try simp only [emitL, homedB, usesL, makesB, wok, takenL, regA, regB, giveL, stepL, steps, tkL, tkR]); (repeat' split) <;> first | omega | (simp_all [beqD]; done) | (simp_all [beqD]; omega)) | (simp_all [beqD, emitL, homedB, usesL, makesB, wok, takenL, regA, regB, giveL, stepL, steps, tkL, tkR]; (repeat' split) <;> first | rfl | omega | (simp_all; done))
theorem i_load (r a b n : Int) (hr : homeB r = true) (ha : homeB a = true) : C2 CC F_impl_EmitIns [sF ⟨21, r, a, b, n⟩] (.own 5 (steps (emitL ⟨21, r, a, b, n⟩))) [] := by
  have k := v_homed ⟨21, r, a, b, n⟩
  have hk : homedJ ⟨21, r, a, b, n⟩ = true := by simp [homedJ, hr, ha, hasBb, wok, formK]
  rw [hk] at k
  have r1 := homeB_le hr
  have a1 := homeB_le ha
  have hA : hasA 21 = true := by decide
  have hB : hasBb 21 = false := by decide
  have hD : makesB 21 = true := by decide
  by_cases ca : a < 4
  all_goals
    refine cw (keepF Tryz.f33) Tryz.f33 false ?_
    repeat' first | refine ck_intro (by first | exact k | exact v_hasA _ | exact v_hasB _ | exact v_hasD _ | exact v_stepOf ⟨21, r, a, b, n⟩ _ _ _ | exact taken_lo _ _ (by omega) | exact taken_hi _ _ (by omega) (by omega)) ?_ ?_ | refine g3 @hA @hB @hD ?_ | refine d3 @hA @hB @hD ?_ | refine j3 @hA @hB @hD (fun hg hgo => ?_) fun hg hgo => ?_ | refine ek_ret ?_ | refine ek_norm ?_ | refine ⟨by omega, ?_⟩ | rfl | trivial | intro _
    all_goals first | rfl | (simp_all [beqD, emitL, homedB, usesL, makesB, wok, takenL, regA, regB, giveL, stepL, steps, tkL, tkR]; done) | ((try simp only [emitL, homedB, usesL, makesB, wok, takenL, regA, regB, giveL, stepL, steps, tkL, tkR]); (repeat' split) <;> first | omega | (simp_all [beqD]; done) | (simp_all [beqD]; omega)) | (simp_all [beqD, emitL, homedB, usesL, makesB, wok, takenL, regA, regB, giveL, stepL, steps, tkL, tkR]; (repeat' split) <;> first | rfl | omega | (simp_all; done))
theorem i_store (r a b n : Int) (ha : homeB a = true) (hb : homeB b = true) : C2 CC F_impl_EmitIns [sF ⟨22, r, a, b, n⟩] (.own 5 (steps (emitL ⟨22, r, a, b, n⟩))) [] := by
  have k := v_homed ⟨22, r, a, b, n⟩
  have hk : homedJ ⟨22, r, a, b, n⟩ = true := by simp [homedJ, ha, hb, makesB, wok, formK]
  rw [hk] at k
  have a1 := homeB_le ha
  have b1 := homeB_le hb
  have hA : hasA 22 = true := by decide
  have hB : hasBb 22 = true := by decide
  have hD : makesB 22 = false := by decide
  by_cases ca : a < 4 <;> by_cases cb : b < 4
  all_goals
    refine cw (keepF Tryz.f33) Tryz.f33 false ?_
    repeat' first | refine ck_intro (by first | exact k | exact v_hasA _ | exact v_hasB _ | exact v_hasD _ | exact v_stepOf ⟨22, r, a, b, n⟩ _ _ _ | exact taken_lo _ _ (by omega) | exact taken_hi _ _ (by omega) (by omega)) ?_ ?_ | refine g3 @hA @hB @hD ?_ | refine d3 @hA @hB @hD ?_ | refine j3 @hA @hB @hD (fun hg hgo => ?_) fun hg hgo => ?_ | refine ek_ret ?_ | refine ek_norm ?_ | refine ⟨by omega, ?_⟩ | rfl | trivial | intro _
    all_goals first | rfl | (simp_all [beqD, emitL, homedB, usesL, makesB, wok, takenL, regA, regB, giveL, stepL, steps, tkL, tkR]; done) | ((try simp only [emitL, homedB, usesL, makesB, wok, takenL, regA, regB, giveL, stepL, steps, tkL, tkR]); (repeat' split) <;> first | omega | (simp_all [beqD]; done) | (simp_all [beqD]; omega)) | (simp_all [beqD, emitL, homedB, usesL, makesB, wok, takenL, regA, regB, giveL, stepL, steps, tkL, tkR]; (repeat' split) <;> first | rfl | omega | (simp_all; done))
theorem i_word (op r a b n : Int) (hw : wok op = true) (hr : homeB r = true) (ha : homeB a = true) (hb : homeB b = true) : C2 CC F_impl_EmitIns [sF ⟨op, r, a, b, n⟩] (.own 5 (steps (emitL ⟨op, r, a, b, n⟩))) [] := by
  have k := v_homed ⟨op, r, a, b, n⟩
  have hop := wok_range hw
  have hA : hasA op = true := by simp [hasA, hw]
  have hB : hasBb op = true := by simp [hasBb, hw]
  have hD : makesB op = true := by simp [makesB, hw]
  have e20 : ¬ op = 20 := by omega
  have e21 : ¬ op = 21 := by omega
  have e22 : ¬ op = 22 := by omega
  have e23 : ¬ op = 23 := by omega
  have e24 : ¬ op = 24 := by omega
  have e25 : ¬ op = 25 := by omega
  have hf : formK op = true := by simp [formK, hw, e20, e21, e22, e23, e24, e25]
  have hk : homedJ ⟨op, r, a, b, n⟩ = true := by simp [homedJ, hr, ha, hb, hf]
  rw [hk] at k
  have d25 : (op == 25) = false := by simp [e25]
  have r1 := homeB_le hr
  have a1 := homeB_le ha
  have b1 := homeB_le hb
  have hs : ∀ r' a' b', stepL ⟨op, r, a, b, n⟩ r' a' b' = ⟨11 + op, r', a', b', 0⟩ := by
    intro r' a' b'
    simp only [stepL, if_neg e20, if_neg e21, if_neg e22, if_neg e23, if_neg e24]
    rw [wrapI (by omega) (by omega), Int.add_comm]
  have he : emitL ⟨op, r, a, b, n⟩ = giveL (tkL a 4 ++ tkL b 5) ⟨11 + op, 0, tkR a 4, tkR b 5, 0⟩ r := by simp [emitL, homedB, usesL, takenL, regA, regB, hw, hD, hr, ha, hb, e20, e21, e22, e23, e24, e25]
  rw [he]
  clear he
  by_cases ca : a < 4 <;> by_cases cb : b < 4
  all_goals
    refine cw (keepF Tryz.f33) Tryz.f33 false ?_
    repeat' first | refine ck_intro (by first | exact k | exact v_hasA _ | exact v_hasB _ | exact v_hasD _ | exact v_stepOf ⟨op, r, a, b, n⟩ _ _ _ | exact taken_lo _ _ (by omega) | exact taken_hi _ _ (by omega) (by omega)) ?_ ?_ | refine g4 @hA @hB @hD @d25 ?_ | refine d4 @hA @hB @hD @d25 ?_ | refine j4 @hA @hB @hD @d25 (fun hg hgo => ?_) fun hg hgo => ?_ | refine ek_ret ?_ | refine ek_norm ?_ | refine ⟨by omega, ?_⟩ | rfl | trivial | intro _
    all_goals first | rfl | (simp_all [beqD, giveL, steps, tkL, tkR]; done) | ((try simp only [giveL, steps, tkL, tkR]); (repeat' split) <;> first | omega | (simp_all [beqD]; done) | (simp_all [beqD]; omega)) | (simp_all [beqD, giveL, steps, tkL, tkR]; (repeat' split) <;> first | rfl | omega | (simp_all; done))
theorem i_EmitIns (x : StepD) : C2 CC F_impl_EmitIns [sF x] (if homedJ x = true then .own 5 (steps (emitL x)) else .fv .nil) [] := by
  split
  · rename_i h
    obtain ⟨op, r, a, b, n⟩ := x
    simp only [homedJ, Bool.and_eq_true, Bool.or_eq_true, Bool.not_eq_true'] at h
    obtain ⟨⟨⟨h1, h2⟩, h3⟩, h4⟩ := h
    by_cases e20 : op = 20
    · subst e20; exact i_const r a b n (h2.resolve_left (by decide))
    by_cases e21 : op = 21
    · subst e21; exact i_load r a b n (h2.resolve_left (by decide)) (h3.resolve_left (by decide))
    by_cases e22 : op = 22
    · subst e22; exact i_store r a b n (h3.resolve_left (by decide)) (h4.resolve_left (by decide))
    by_cases e23 : op = 23
    · subst e23; exact i_out r a b n (h3.resolve_left (by decide))
    by_cases e24 : op = 24
    · subst e24; exact i_read r a b n (h2.resolve_left (by decide))
    by_cases e25 : op = 25
    · subst e25; exact i_copy r a b n (h2.resolve_left (by decide)) (h3.resolve_left (by decide))
    have hw : wok op = true := by simpa [formK, e20, e21, e22, e23, e24, e25] using h1
    exact i_word op r a b n hw (h2.resolve_left (by simp [makesB, hw])) (h3.resolve_left (by simp [hasA, hw])) (h4.resolve_left (by simp [hasBb, hw]))
  · rename_i h
    exact i_none x (by simpa using h)
theorem v_toIns (x : StepD) : C2 CC F_laws_toIns [sF x] (sF x) [] := by
  obtain ⟨op, r, a, b, n⟩ := x
  refine cw (keepF Tryz.f141) Tryz.f141 false ?_
  repeat' first | refine g0 ?_ | refine d0 ?_ | refine j0 (fun hg hgo => ?_) fun hg hgo => ?_ | refine ek_ret ?_ | refine ek_norm ?_ | refine ⟨by omega, ?_⟩ | rfl | trivial | intro _
theorem i64_wf {n : Int} (h : (Lit.int .i64 n).wf = true) : I64 n := by
  have h1 : IntKind.i64.min = -9223372036854775808 := by decide
  have h2 : IntKind.i64.max = 9223372036854775807 := by decide
  replace h : (decide (IntKind.i64.min ≤ n) && decide (n ≤ IntKind.i64.max)) = true := h
  rw [h1, h2] at h
  simpa [I64] using h
theorem ty_int {Γ : TypeId → Option TI} {g : Nat} {t : TypeId} {v : FV} {a b : Nat} {z : List Value} (hv : TyF Γ g t v) (ht : Γ t = some ⟨.int .i64, a, b, z⟩) : ∃ n, v = .int .i64 n ∧ I64 n := by
  obtain ⟨n, h1, h2⟩ := tyF_int hv ht
  exact ⟨n, h1, i64_wf h2⟩
theorem ty_step {Γ : TypeId → Option TI} {g : Nat} {t ti : TypeId} {v : FV} {a b a' b' : Nat} {z z' : List Value} (hv : TyF Γ g t v) (ht : Γ t = some ⟨.struct [(0, ti), (1, ti), (2, ti), (3, ti), (4, ti)], a, b, z⟩) (hi : Γ ti = some ⟨.int .i64, a', b', z'⟩) : ∃ x : StepD, v = stF x ∧ x.wf := by
  obtain ⟨x0, x1, x2, x3, x4, g', rfl, h0, h1, h2, h3, h4⟩ := tyF_struct5 hv ht
  obtain ⟨n0, rfl, w0⟩ := ty_int h0 hi
  obtain ⟨n1, rfl, w1⟩ := ty_int h1 hi
  obtain ⟨n2, rfl, w2⟩ := ty_int h2 hi
  obtain ⟨n3, rfl, w3⟩ := ty_int h3 hi
  obtain ⟨n4, rfl, w4⟩ := ty_int h4 hi
  exact ⟨⟨n0, n1, n2, n3, n4⟩, rfl, w0, w1, w2, w3, w4⟩
theorem emitL_none (x : StepD) (h : homedJ x = false) : emitL x = [] := by
  obtain ⟨op, r, a, b, n⟩ := x
  cases hw : wok op with
  | true =>
    have hr := wok_range hw
    have e20 : ¬ op = 20 := by omega
    have e21 : ¬ op = 21 := by omega
    have e22 : ¬ op = 22 := by omega
    have e23 : ¬ op = 23 := by omega
    have e24 : ¬ op = 24 := by omega
    have e25 : ¬ op = 25 := by omega
    simp_all [homedJ, homedB, usesL, emitL, formK, hasA, hasBb, makesB, beqD]
    intro h1 h2 h3
    have := h h3 h1
    simp_all
  | false =>
    by_cases e20 : op = 20
    · subst e20; simp_all [homedJ, homedB, usesL, emitL, formK, hasA, hasBb, makesB, beqD]
    by_cases e21 : op = 21
    · subst e21; simp_all [homedJ, homedB, usesL, emitL, formK, hasA, hasBb, makesB, beqD]
      all_goals (intro h1 h2; simp_all)
    by_cases e22 : op = 22
    · subst e22; simp_all [homedJ, homedB, usesL, emitL, formK, hasA, hasBb, makesB, beqD]
      all_goals (intro h1 h2; simp_all)
    by_cases e23 : op = 23
    · subst e23; simp_all [homedJ, homedB, usesL, emitL, formK, hasA, hasBb, makesB, beqD]
    by_cases e24 : op = 24
    · subst e24; simp_all [homedJ, homedB, usesL, emitL, formK, hasA, hasBb, makesB, beqD]
    by_cases e25 : op = 25
    · subst e25; simp_all [homedJ, homedB, usesL, emitL, formK, hasA, hasBb, makesB, beqD]
      all_goals (intro h1 h2; simp_all)
    simp_all [emitL]
theorem giveL_len (l : List StepD) (s : StepD) (h : Int) : (giveL l s h).length ≤ l.length + 2 := by unfold giveL; split <;> simp
theorem takenL_len (x : StepD) : (takenL x).length ≤ 2 := by
  have h1 := tkL_len x.a 4
  have h2 := tkL_len x.b 5
  unfold takenL; rw [List.length_append]
  split <;> split <;> simp <;> omega
theorem emitL_len (x : StepD) : (emitL x).length ≤ 4 := by
  have ht := takenL_len x
  have hg := fun s h => giveL_len (takenL x) s h
  have hc : (copyL x).length ≤ 2 := by
    have h1 := tkL_len x.a 4
    unfold copyL; split; simp; split; simp; rw [List.length_append]; simp; omega
  unfold emitL
  repeat' split
  all_goals first | (simp; done) | exact Nat.le_trans (hg _ _) (by omega) | (simp; omega) | omega
theorem eqNil : C2 CC F_laws_eqStepS [.fv .nil, .fv (.row 5 [])] (bv true) [] := by
  refine cw (keepF Tryz.f10) Tryz.f10 false ?_
  repeat' first | refine pd3 17 [0, 0, 3, 7, 0, 0, 48, 112, 255, 511] [0, 0, 0, 1, 0, 0, 0, 1, 5, 0] false ?_ | refine pw_unroll ?_ | refine g0 ?_ | refine d0 ?_ | refine j0 (fun hg hgo => ?_) fun hg hgo => ?_ | refine ek_ret ?_ | refine ek_norm ?_ | refine ⟨by omega, ?_⟩ | rfl | trivial | intro _
  all_goals (exfalso; omega)
theorem markNil : C2 CC F_laws_markStepS [.fv .nil, iv 1] (iv 1) [] := by
  refine cw (keepF Tryz.f13) Tryz.f13 false ?_
  repeat' first | refine pw_unroll ?_ | refine g0 ?_ | refine d0 ?_ | refine j0 (fun hg hgo => ?_) fun hg hgo => ?_ | refine ek_ret ?_ | refine ek_norm ?_ | refine ⟨by omega, ?_⟩ | rfl | trivial | intro _
theorem heldNil : C2 CC F_laws_heldStepS [.fv .nil, iv 1] (iv 1) [] := by
  refine cw (keepF Tryz.f14) Tryz.f14 false ?_
  repeat' first | refine pw_unroll ?_ | refine g0 ?_ | refine d0 ?_ | refine j0 (fun hg hgo => ?_) fun hg hgo => ?_ | refine ek_ret ?_ | refine ek_norm ?_ | refine ⟨by omega, ?_⟩ | rfl | trivial | intro _
def sformB (op : Int) : ByteArray :=
  if op = 1 then ⟨#[82, 78]⟩ else if op = 2 then ⟨#[82, 65]⟩ else if op = 5 then ⟨#[82, 65]⟩ else if op = 3 then ⟨#[82, 83]⟩ else if op = 4 then ⟨#[83, 65]⟩ else if op = 6 then ⟨#[65, 66]⟩
  else if op = 7 then ⟨#[65]⟩ else if op = 11 then ⟨#[65]⟩ else if op = 8 then ⟨#[82]⟩ else if op = 9 then ⟨#[84]⟩ else if op = 10 then ⟨#[65, 84]⟩ else ⟨#[82, 65, 66]⟩
def sformK (op : Int) : Bool :=
  if op = 1 then true else if op = 2 then true else if op = 5 then true else if op = 3 then true else if op = 4 then true else if op = 6 then true
  else if op = 7 then true else if op = 11 then true else if op = 8 then true else if op = 9 then true else if op = 10 then true else wok (IntKind.wrap .i64 (op - 11))
theorem sformB_len (op : Int) : (byI (sformB op)).length < 4611686018427387904 := by
  rw [byI_len]; unfold sformB; repeat' split
  all_goals decide
theorem v_stepForm (op : Int) : C2 CC F_impl_stepForm [iv op] (.tup [.fv (.str (sformB op)), bv (sformK op)]) [] := by
  refine cw (keepF Tryz.f122) Tryz.f122 false ?_
  repeat' first | refine ck_intro (by first | exact v_WordOk _) ?_ ?_ | refine g0 ?_ | refine d0 ?_ | refine j0 (fun hg hgo => ?_) fun hg hgo => ?_ | refine ek_ret ?_ | refine ek_norm ?_ | refine ⟨by omega, ?_⟩ | rfl | trivial | intro _
  all_goals simp_all [sformB, sformK]
def sHas (op c : Int) : Bool := hasI (byI (sformB op)) c
def sPart (n : Int) (had : Bool) : Bool := if had = true then decide (n ≥ 0) && decide (n ≤ 7) else n == 0
theorem v_stepPart (n : Int) (had : Bool) : C2 CC F_impl_stepPart [iv n, bv had, iv 7] (bv (sPart n had)) [] := by
  cases had
  all_goals
    refine cw (keepF Tryz.f123) Tryz.f123 false ?_
    repeat' first | refine ck_intro (by first | exact v_in _ _ _) ?_ ?_ | refine g0 ?_ | refine d0 ?_ | refine j0 (fun hg hgo => ?_) fun hg hgo => ?_ | refine ek_ret ?_ | refine ek_norm ?_ | refine ⟨by omega, ?_⟩ | rfl | trivial | intro _
    all_goals first | rfl | (simp_all [beqD, sPart]; done) | ((try simp only [sPart]); (repeat' split) <;> first | omega | (simp_all [beqD]; done) | (simp_all [beqD]; omega)) | (simp_all [beqD, sPart]; (repeat' split) <;> first | rfl | omega | (simp_all; done))
theorem v_Contains_form (op c : Int) : C2 CC F_slices_Contains_byte [.fv (rb (byI (sformB op))), .fv (.int .u8 c)] (bv (sHas op c)) [] := v_Contains_byte _ _ (sformB_len op)
def stepB (x : StepD) (k : Int) : Bool :=
  !(decide (x.op < 1) || decide (x.op > 21)) && sformK x.op && (if sHas x.op 78 = true then true else if sHas x.op 83 = true then decide (x.n ≥ 0) && decide (x.n ≤ 39) else if sHas x.op 84 = true then decide (x.n ≥ 0) && decide (x.n < k) else x.n == 0)
    && (sPart x.r (sHas x.op 82) && sPart x.a (sHas x.op 65) && sPart x.b (sHas x.op 66))
theorem v_StepOk (x : StepD) (k : Int) (h1 : 1 ≤ x.op) (h2 : x.op ≤ 21) : C2 CC F_impl_StepOk [sF x, iv k] (bv (stepB x k)) [] := by
  obtain ⟨op, r, a, b, n⟩ := x
  simp only at h1 h2
  have t1 : decide (op < 1) = false := by rw [decide_eq_false_iff_not]; omega
  have t2 : decide (op > 21) = false := by rw [decide_eq_false_iff_not]; omega
  have e : stepB ⟨op, r, a, b, n⟩ k = (sformK op && (if sHas op 78 = true then true else if sHas op 83 = true then decide (n ≥ 0) && decide (n ≤ 39) else if sHas op 84 = true then decide (n ≥ 0) && decide (n < k) else n == 0)
    && (sPart r (sHas op 82) && sPart a (sHas op 65) && sPart b (sHas op 66))) := by simp [stepB, t1, t2]
  rw [e]
  have q := v_Contains_form op
  have p1 := v_stepPart r (sHas op 82)
  have p2 := v_stepPart a (sHas op 65)
  have p3 := v_stepPart b (sHas op 66)
  have f := v_stepForm op
  clear e
  generalize sPart r (sHas op 82) = u1 at p1 ⊢
  generalize sPart a (sHas op 65) = u2 at p2 ⊢
  generalize sPart b (sHas op 66) = u3 at p3 ⊢
  generalize sformK op = u4 at f ⊢
  generalize sHas op = H at q p1 p2 p3 ⊢
  cases u1 <;> cases u2 <;> cases u4
  all_goals
    refine cw (keepF Tryz.f82) Tryz.f82 false ?_
    repeat' first | refine ck_intro (by first | exact f | exact q 78 | exact q 83 | exact q 84 | exact q 82 | exact q 65 | exact q 66 | exact p1 | exact p2 | exact p3 | exact v_in _ _ _) ?_ ?_ | refine pdf 25 7 [0, 1, 0, 4, 15, 31, 63, 127, 63, 319, 1023, 2047, 4095, 8191, 16383, 8191, 40959, 131071, 262143, 524287] [0, 2, 0, 6, 5, 0, 0, 2, 0, 6, 5, 0, 0, 0, 2, 0, 6, 5, 0, 0] ?_ | refine g2 @t1 @t2 ?_ | refine d2 @t1 @t2 ?_ | refine j2 @t1 @t2 (fun hg hgo => ?_) fun hg hgo => ?_ | refine ek_ret ?_ | refine ek_norm ?_ | refine ⟨by omega, ?_⟩ | rfl | trivial | intro _
    all_goals first | rfl | (simp_all [beqD, ]; done) | ((try simp only []); (repeat' split) <;> first | omega | (simp_all [beqD]; done) | (simp_all [beqD]; omega)) | (simp_all [beqD, ]; (repeat' split) <;> first | rfl | omega | (simp_all; done))
def goodS (s : StepD) : Prop := 1 ≤ s.op ∧ s.op ≤ 21 ∧ stepB s 900 = true
theorem gd1 {r n : Int} (h : 0 ≤ r ∧ r ≤ 7) : goodS ⟨1, r, 0, 0, n⟩ := by
  have f : sHas 1 78 = true ∧ sHas 1 82 = true ∧ sHas 1 65 = false ∧ sHas 1 66 = false ∧ sformK 1 = true := by decide
  refine ⟨by simp only; decide, by simp only; decide, ?_⟩
  simp [stepB, sPart, f, h.1, h.2]
theorem gd2 {r a : Int} (h : 0 ≤ r ∧ r ≤ 7) (g : 0 ≤ a ∧ a ≤ 7) : goodS ⟨2, r, a, 0, 0⟩ := by
  have f : sHas 2 78 = false ∧ sHas 2 83 = false ∧ sHas 2 84 = false ∧ sHas 2 82 = true ∧ sHas 2 65 = true ∧ sHas 2 66 = false ∧ sformK 2 = true := by decide
  refine ⟨by simp only; decide, by simp only; decide, ?_⟩
  simp [stepB, sPart, f, h.1, h.2, g.1, g.2]
theorem gd3 {r n : Int} (h : 0 ≤ r ∧ r ≤ 7) (g : 0 ≤ n ∧ n ≤ 39) : goodS ⟨3, r, 0, 0, n⟩ := by
  have f : sHas 3 78 = false ∧ sHas 3 83 = true ∧ sHas 3 82 = true ∧ sHas 3 65 = false ∧ sHas 3 66 = false ∧ sformK 3 = true := by decide
  refine ⟨by simp only; decide, by simp only; decide, ?_⟩
  simp [stepB, sPart, f, h.1, h.2, g.1, g.2]
theorem gd4 {a n : Int} (h : 0 ≤ a ∧ a ≤ 7) (g : 0 ≤ n ∧ n ≤ 39) : goodS ⟨4, 0, a, 0, n⟩ := by
  have f : sHas 4 78 = false ∧ sHas 4 83 = true ∧ sHas 4 82 = false ∧ sHas 4 65 = true ∧ sHas 4 66 = false ∧ sformK 4 = true := by decide
  refine ⟨by simp only; decide, by simp only; decide, ?_⟩
  simp [stepB, sPart, f, h.1, h.2, g.1, g.2]
theorem gd5 {r a : Int} (h : 0 ≤ r ∧ r ≤ 7) (g : 0 ≤ a ∧ a ≤ 7) : goodS ⟨5, r, a, 0, 0⟩ := by
  have f : sHas 5 78 = false ∧ sHas 5 83 = false ∧ sHas 5 84 = false ∧ sHas 5 82 = true ∧ sHas 5 65 = true ∧ sHas 5 66 = false ∧ sformK 5 = true := by decide
  refine ⟨by simp only; decide, by simp only; decide, ?_⟩
  simp [stepB, sPart, f, h.1, h.2, g.1, g.2]
theorem gd6 {a b : Int} (h : 0 ≤ a ∧ a ≤ 7) (g : 0 ≤ b ∧ b ≤ 7) : goodS ⟨6, 0, a, b, 0⟩ := by
  have f : sHas 6 78 = false ∧ sHas 6 83 = false ∧ sHas 6 84 = false ∧ sHas 6 82 = false ∧ sHas 6 65 = true ∧ sHas 6 66 = true ∧ sformK 6 = true := by decide
  refine ⟨by simp only; decide, by simp only; decide, ?_⟩
  simp [stepB, sPart, f, h.1, h.2, g.1, g.2]
theorem gd7 {a : Int} (h : 0 ≤ a ∧ a ≤ 7) : goodS ⟨7, 0, a, 0, 0⟩ := by
  have f : sHas 7 78 = false ∧ sHas 7 83 = false ∧ sHas 7 84 = false ∧ sHas 7 82 = false ∧ sHas 7 65 = true ∧ sHas 7 66 = false ∧ sformK 7 = true := by decide
  refine ⟨by simp only; decide, by simp only; decide, ?_⟩
  simp [stepB, sPart, f, h.1, h.2]
theorem gd8 {r : Int} (h : 0 ≤ r ∧ r ≤ 7) : goodS ⟨8, r, 0, 0, 0⟩ := by
  have f : sHas 8 78 = false ∧ sHas 8 83 = false ∧ sHas 8 84 = false ∧ sHas 8 82 = true ∧ sHas 8 65 = false ∧ sHas 8 66 = false ∧ sformK 8 = true := by decide
  refine ⟨by simp only; decide, by simp only; decide, ?_⟩
  simp [stepB, sPart, f, h.1, h.2]
theorem gdw {op r a b : Int} (hw : wok op = true) (h : 0 ≤ r ∧ r ≤ 7) (g : 0 ≤ a ∧ a ≤ 7) (q : 0 ≤ b ∧ b ≤ 7) : goodS ⟨11 + op, r, a, b, 0⟩ := by
  have ho : 1 ≤ op ∧ op ≤ 10 := by unfold wok at hw; simp at hw; exact hw
  have hs : sformB (11 + op) = ⟨#[82, 65, 66]⟩ := by
    unfold sformB
    rw [if_neg (by omega), if_neg (by omega), if_neg (by omega), if_neg (by omega), if_neg (by omega), if_neg (by omega), if_neg (by omega), if_neg (by omega), if_neg (by omega), if_neg (by omega), if_neg (by omega)]
  have hk : sformK (11 + op) = true := by
    unfold sformK
    rw [if_neg (by omega), if_neg (by omega), if_neg (by omega), if_neg (by omega), if_neg (by omega), if_neg (by omega), if_neg (by omega), if_neg (by omega), if_neg (by omega), if_neg (by omega), if_neg (by omega), wrapI (by omega) (by omega), show 11 + op - 11 = op by omega]
    exact hw
  have f : ∀ c, sHas (11 + op) c = hasI (byI ⟨#[82, 65, 66]⟩) c := fun c => by unfold sHas; rw [hs]
  have f0 : hasI (byI ⟨#[82, 65, 66]⟩) 78 = false ∧ hasI (byI ⟨#[82, 65, 66]⟩) 83 = false ∧ hasI (byI ⟨#[82, 65, 66]⟩) 84 = false ∧ hasI (byI ⟨#[82, 65, 66]⟩) 82 = true ∧ hasI (byI ⟨#[82, 65, 66]⟩) 65 = true ∧ hasI (byI ⟨#[82, 65, 66]⟩) 66 = true := by decide
  refine ⟨by simp only; omega, by simp only; omega, ?_⟩
  simp [stepB, sPart, f, f0, hk, h.1, h.2, g.1, g.2, q.1, q.2]
  omega
theorem tkR_in {a k : Int} (h : homeB a = true) (hk : 4 ≤ k ∧ k ≤ 5) : 0 ≤ tkR a k ∧ tkR a k ≤ 7 := by
  have := homeB_le h; have := homeB_ge h
  unfold tkR; split <;> omega
theorem tkL_ok {a k : Int} (h : homeB a = true) (hk : 4 ≤ k ∧ k ≤ 5) : ∀ s ∈ tkL a k, goodS s := by
  have := homeB_le h; have := homeB_ge h
  intro s hs
  unfold tkL at hs
  split at hs
  · cases hs
  · rw [List.mem_singleton] at hs; subst hs; exact gd3 (by omega) (by omega)
theorem giveL_ok {l : List StepD} {s : StepD} {h : Int} (hl : ∀ x ∈ l, goodS x) (hh : homeB h = true) (hs : ∀ r, 0 ≤ r ∧ r ≤ 7 → goodS { s with r := r }) : ∀ x ∈ giveL l s h, goodS x := by
  have := homeB_le hh; have := homeB_ge hh
  intro x hx
  unfold giveL at hx
  split at hx
  · rcases List.mem_append.1 hx with hx | hx
    · exact hl x hx
    · rw [List.mem_singleton] at hx; subst hx; exact hs _ (by omega)
  · rcases List.mem_append.1 hx with hx | hx
    · exact hl x hx
    · simp only [List.mem_cons, List.not_mem_nil, or_false] at hx
      rcases hx with rfl | rfl
      · exact hs 6 (by decide)
      · exact gd4 (by decide) (by omega)
theorem copyL_ok {x : StepD} (h1 : homeB x.r = true) (h2 : homeB x.a = true) : ∀ s ∈ copyL x, goodS s := by
  have := homeB_le h1; have := homeB_ge h1; have := homeB_le h2; have := homeB_ge h2
  intro s hs
  unfold copyL at hs
  split at hs
  · rw [List.mem_singleton] at hs; subst hs; exact gd2 (by omega) (by omega)
  split at hs
  · rw [List.mem_singleton] at hs; subst hs; exact gd3 (by omega) (by omega)
  · rcases List.mem_append.1 hs with hs | hs
    · exact tkL_ok h2 (by decide) s hs
    · rw [List.mem_singleton] at hs; subst hs; exact gd4 (tkR_in h2 (by decide)) (by omega)
theorem taken_ok {x : StepD} (h : homedB x = true) : (∀ s ∈ takenL x, goodS s) ∧ (0 ≤ regA x ∧ regA x ≤ 7) ∧ (0 ≤ regB x ∧ regB x ≤ 7) := by
  unfold homedB at h
  rw [Bool.and_eq_true, List.all_eq_true] at h
  have ha : 0 < (usesL x).length → homeB x.a = true := by
    intro hp; apply h.1; unfold usesL at hp ⊢
    repeat' split
    all_goals simp_all
  have hb : 1 < (usesL x).length → homeB x.b = true := by
    intro hp; apply h.1; unfold usesL at hp ⊢
    repeat' split
    all_goals simp_all
  refine ⟨?_, ?_, ?_⟩
  · intro s hs
    unfold takenL at hs
    rcases List.mem_append.1 hs with hs | hs
    · split at hs
      · exact tkL_ok (ha ‹_›) (by decide) s hs
      · cases hs
    · split at hs
      · exact tkL_ok (hb ‹_›) (by decide) s hs
      · cases hs
  · unfold regA; split
    · exact tkR_in (ha ‹_›) (by decide)
    · decide
  · unfold regB; split
    · exact tkR_in (hb ‹_›) (by decide)
    · decide
theorem emit_ok (x : StepD) : ∀ s ∈ emitL x, goodS s := by
  unfold emitL
  cases hh : homedB x with
  | false => rw [if_pos rfl]; intro s hs; cases hs
  | true =>
    rw [if_neg (by decide)]
    obtain ⟨ht, hA, hB⟩ := taken_ok hh
    have hr : makesB x.op = true → homeB x.r = true := by
      intro hm; unfold homedB at hh; rw [Bool.and_eq_true] at hh; simpa [hm] using hh.2
    split
    · rename_i e; exact giveL_ok ht (hr (by rw [e]; decide)) fun r h => gd1 h
    split
    · rename_i e; exact giveL_ok ht (hr (by rw [e]; decide)) fun r h => gd5 h hA
    split
    · rename_i e; exact giveL_ok ht (hr (by rw [e]; decide)) fun r h => gd8 h
    split
    · intro s hs
      rcases List.mem_append.1 hs with hs | hs
      · exact ht s hs
      · rw [List.mem_singleton] at hs; subst hs; exact gd6 hA hB
    split
    · intro s hs
      rcases List.mem_append.1 hs with hs | hs
      · exact ht s hs
      · rw [List.mem_singleton] at hs; subst hs; exact gd7 hA
    split
    · rename_i e
      have ha : homeB x.a = true := by
        unfold homedB at hh; rw [Bool.and_eq_true, List.all_eq_true] at hh
        exact hh.1 _ (by unfold usesL; simp [e, wok])
      exact copyL_ok (hr (by rw [e]; decide)) ha
    split
    · rename_i e; exact giveL_ok ht (hr (by simp [makesB, e])) fun r h => gdw e h hA hB
    · intro s hs; cases hs
structure ArmD where
  fr : Int
  v : Int
  deriving DecidableEq
structure PhiD where
  d : Int
  arms : List ArmD
  deriving DecidableEq
structure TermD where
  kind : Int
  a : Int
  to : Int
  els : Int
  deriving DecidableEq
structure BlockD where
  phis : List PhiD
  list : List StepD
  term : TermD
  deriving DecidableEq
structure FnD where
  blocks : List BlockD
  values : Int
  deriving DecidableEq
def PhiD.ok (p : PhiD) : Prop := p.arms.length < 1073741824
def BlockD.ok (b : BlockD) : Prop := b.phis.length < 1073741824 ∧ (∀ p ∈ b.phis, p.ok) ∧ b.list.length < 1073741824
def FnD.ok (f : FnD) : Prop := f.blocks.length < 1073741824 ∧ ∀ b ∈ f.blocks, b.ok
abbrev armF (x : ArmD) : FV := .agg [.int .i64 x.fr, .int .i64 x.v]
abbrev phiF (x : PhiD) : FV := .agg [.int .i64 x.d, .row 2 (x.arms.map armF)]
abbrev termF (x : TermD) : FV := .agg [.int .i64 x.kind, .int .i64 x.a, .int .i64 x.to, .int .i64 x.els]
abbrev blockF (x : BlockD) : FV := .agg [.row 2 (x.phis.map phiF), .row 5 (x.list.map stF), termF x.term]
abbrev fnF (x : FnD) : FV := .agg [.row 6 (x.blocks.map blockF), .int .i64 x.values]
def rowD {α : Type} (o : α → DV) (l : List α) : List DV := l.map o
abbrev armO (x : ArmD) : DV := .fv (armF x)
abbrev phiO (x : PhiD) : DV := .agg [iv x.d, .own 2 (rowD armO x.arms)]
abbrev blockO (x : BlockD) : DV := .agg [.own 2 (rowD phiO x.phis), .own 5 (rowD sF x.list), .fv (termF x.term)]
abbrev fnO (x : FnD) : DV := .agg [.own 6 (rowD blockO x.blocks), iv x.values]
def bld {α : Type} (o : α → DV) (z : DV) (j : Nat) (l : List α) : List DV := (l.take j).map o ++ List.replicate (l.length - j) z
theorem bld_0 {α : Type} {o : α → DV} {z : DV} {l : List α} : bld o z 0 l = List.replicate l.length z := by unfold bld; simp
theorem bld_n {α : Type} {o : α → DV} {z : DV} {l : List α} : bld o z l.length l = rowD o l := by unfold bld rowD; simp
theorem bld_len {α : Type} {o : α → DV} {z : DV} {l : List α} {j : Nat} (h : j ≤ l.length) : (bld o z j l).length = l.length := by unfold bld; simp; omega
theorem bld_set {α : Type} {o : α → DV} {z : DV} {l : List α} {j : Nat} (h : j < l.length) : (bld o z j l).set j (o l[j]) = bld o z (j + 1) l := by
  unfold bld
  have e : l.length - j = (l.length - (j + 1)) + 1 := by omega
  rw [List.set_append_right _ _ (by simp; omega), e, List.replicate_succ]
  simp only [List.length_map, List.length_take, Nat.min_eq_left (Nat.le_of_lt h), Nat.sub_self, List.set_cons_zero]
  rw [List.take_succ_eq_append_getElem h, List.map_append, List.append_assoc]; rfl
theorem bld_get {α : Type} {o : α → DV} {z : DV} {l : List α} {j : Nat} (h : j < l.length) : (bld o z j l)[j]? = some z := by
  unfold bld
  rw [List.getElem?_append_right (by simp; omega)]
  simp only [List.length_map, List.length_take, Nat.min_eq_left (Nat.le_of_lt h), Nat.sub_self]
  rw [List.getElem?_replicate, if_pos (by omega)]
theorem nrs_rowD {α : Type} {o : α → DV} {l : List α} (h : ∀ x, noRef (o x) = true) : noRefs (rowD o l) = true := by
  unfold rowD
  induction l with
  | nil => rfl
  | cons a l ih => rw [List.map_cons, nrs_cons, h a, ih]; rfl
theorem nrs_bld {α : Type} {o : α → DV} {z : DV} {l : List α} {j : Nat} (h : ∀ x, noRef (o x) = true) (hz : noRef z = true) : noRefs (bld o z j l) = true := by
  unfold bld
  rw [nrs_app]
  have h1 := nrs_rowD (l := l.take j) h
  unfold rowD at h1
  rw [h1]
  have : ∀ n : Nat, noRefs (List.replicate n z) = true := fun n => by
    induction n with
    | zero => rfl
    | succ n ih => rw [List.replicate_succ, nrs_cons, hz, ih]; rfl
  rw [this]; rfl
@[go_sem] theorem nr_armO {x : ArmD} : noRef (.fv (armF x)) = true := rfl
@[go_sem] theorem nrs_arms {l : List ArmD} : noRefs (rowD armO l) = true := nrs_rowD fun _ => rfl
@[go_sem] theorem nr_phiO {x : PhiD} : noRef (phiO x) = true := by
  show noRef (.agg _) = true; rw [nr_agg, nrs_cons, nrs_cons, nr_own, nrs_arms]; rfl
@[go_sem] theorem nrs_phis {l : List PhiD} : noRefs (rowD phiO l) = true := nrs_rowD fun _ => nr_phiO
@[go_sem] theorem nrs_ins {l : List StepD} : noRefs (rowD sF l) = true := nrs_rowD fun _ => rfl
@[go_sem] theorem nr_blockO {x : BlockD} : noRef (blockO x) = true := by
  show noRef (.agg _) = true; rw [nr_agg, nrs_cons, nrs_cons, nrs_cons, nr_own, nr_own, nrs_phis, nrs_ins]; rfl
@[go_sem] theorem nrs_blocks {l : List BlockD} : noRefs (rowD blockO l) = true := nrs_rowD fun _ => nr_blockO
@[go_sem] theorem rowD_len {α : Type} {o : α → DV} {l : List α} : (rowD o l).length = l.length := by unfold rowD; simp
theorem v_toArm (x : ArmD) : C2 CC F_laws_toArm [.fv (armF x)] (.fv (armF x)) [] := by
  obtain ⟨a, b⟩ := x
  refine cw (keepF Tryz.f159) Tryz.f159 false ?_
  repeat' first | refine g0 ?_ | refine d0 ?_ | refine j0 (fun hg hgo => ?_) fun hg hgo => ?_ | refine ek_ret ?_ | refine ek_norm ?_ | refine ⟨by omega, ?_⟩ | rfl | trivial | intro _
theorem v_toTerm (x : TermD) : C2 CC F_laws_toTerm [.fv (termF x)] (.fv (termF x)) [] := by
  obtain ⟨a, b, c, d⟩ := x
  refine cw (keepF Tryz.f107) Tryz.f107 false ?_
  repeat' first | refine g0 ?_ | refine d0 ?_ | refine j0 (fun hg hgo => ?_) fun hg hgo => ?_ | refine ek_ret ?_ | refine ek_norm ?_ | refine ⟨by omega, ?_⟩ | rfl | trivial | intro _
def njS (s : StepD) : Prop := s.op ≠ 9 ∧ s.op ≠ 10
theorem tkL_nj {h b : Int} : ∀ s ∈ tkL h b, njS s := by
  intro s hs
  unfold tkL at hs
  split at hs
  · cases hs
  · rw [List.mem_singleton] at hs; subst hs; exact ⟨by simp, by simp⟩
theorem app_nj {l m : List StepD} (hl : ∀ x ∈ l, njS x) (hm : ∀ x ∈ m, njS x) : ∀ x ∈ l ++ m, njS x := fun x hx => by
  rcases List.mem_append.1 hx with h | h
  · exact hl x h
  · exact hm x h
theorem one_nj {s : StepD} (h : njS s) : ∀ x ∈ [s], njS x := fun x hx => by rw [List.mem_singleton] at hx; subst hx; exact h
theorem giveL_nj {l : List StepD} {s : StepD} {h : Int} (hl : ∀ x ∈ l, njS x) (hs : njS s) : ∀ x ∈ giveL l s h, njS x := by
  unfold giveL
  split
  · exact app_nj hl (one_nj hs)
  · refine app_nj hl fun x hx => ?_
    simp only [List.mem_cons, List.not_mem_nil, or_false] at hx
    rcases hx with rfl | rfl
    · exact hs
    · exact ⟨by simp, by simp⟩
theorem copyL_nj {x : StepD} : ∀ s ∈ copyL x, njS s := by
  unfold copyL
  repeat' split
  · exact one_nj ⟨by simp, by simp⟩
  · exact one_nj ⟨by simp, by simp⟩
  · exact app_nj tkL_nj (one_nj ⟨by simp, by simp⟩)
theorem taken_nj {x : StepD} : ∀ s ∈ takenL x, njS s := by
  unfold takenL
  refine app_nj ?_ ?_
  · split
    · exact tkL_nj
    · intro s hs; cases hs
  · split
    · exact tkL_nj
    · intro s hs; cases hs
theorem emit_nj (x : StepD) : ∀ s ∈ emitL x, njS s := by
  unfold emitL
  split
  · intro s hs; cases hs
  split
  · exact giveL_nj taken_nj ⟨by simp, by simp⟩
  split
  · exact giveL_nj taken_nj ⟨by simp, by simp⟩
  split
  · exact giveL_nj taken_nj ⟨by simp, by simp⟩
  split
  · exact app_nj taken_nj (one_nj ⟨by simp, by simp⟩)
  split
  · exact app_nj taken_nj (one_nj ⟨by simp, by simp⟩)
  split
  · exact copyL_nj
  split
  · rename_i hw
    have := wok_range hw
    exact giveL_nj taken_nj ⟨by show 11 + x.op ≠ 9; omega, by show 11 + x.op ≠ 10; omega⟩
  · intro s hs; cases hs
def termL (t : TermD) : List StepD :=
  if t.kind = 1 then [⟨9, 0, 0, 0, t.to⟩]
  else if t.kind = 2 then tkL t.a 4 ++ [⟨10, 0, tkR t.a 4, 0, t.els⟩, ⟨9, 0, 0, 0, t.to⟩]
  else tkL t.a 4 ++ [⟨11, 0, tkR t.a 4, 0, 0⟩]
theorem termL_len (t : TermD) : (termL t).length ≤ 3 := by
  have := tkL_len t.a 4
  unfold termL
  repeat' split
  all_goals simp only [List.length_append, List.length_cons, List.length_nil]; omega
theorem v_l15Term (t : TermD) (h : t.a ≤ 39) : C2 CC F_spec_l15Term [.fv (termF t)] (.own 5 (steps (termL t))) [] := by
  obtain ⟨k, a, to, els⟩ := t
  have hl := tkL_len a 4
  refine cw (keepF Tryz.f28) Tryz.f28 false ?_
  repeat' first | refine ck_intro (by first | exact v_l15Take a 4 h) ?_ ?_ | refine g2 @stepsS @stepsS2 ?_ | refine d2 @stepsS @stepsS2 ?_ | refine j2 @stepsS @stepsS2 (fun hg hgo => ?_) fun hg hgo => ?_ | refine ek_ret ?_ | refine ek_norm ?_ | refine ⟨by omega, ?_⟩ | rfl | trivial | intro _
  all_goals first | rfl | (simp_all [beqD, termL, steps]; done) | ((try simp only [termL, steps]); (repeat' split) <;> first | omega | (simp_all [beqD]; done) | (simp_all [beqD]; omega)) | (simp_all [beqD, termL, steps]; (repeat' split) <;> first | rfl | omega | (simp_all; done))
theorem v_emitTerm (t : TermD) (h : t.a ≤ 39) : C2 CC F_impl_emitTerm [.fv (termF t)] (.own 5 (steps (termL t))) [] := by
  obtain ⟨k, a, to, els⟩ := t
  by_cases h4 : a < 4
  · have e1 : tkL a 4 = [] := by unfold tkL; rw [if_pos h4]
    have e2 : tkR a 4 = a := by unfold tkR; rw [if_pos h4]
    refine cw (keepF Tryz.f34) Tryz.f34 false ?_
    repeat' first | refine ck_intro (by first | exact taken_lo a 4 h4) ?_ ?_ | refine g2 @stepsS @stepsS2 ?_ | refine d2 @stepsS @stepsS2 ?_ | refine j2 @stepsS @stepsS2 (fun hg hgo => ?_) fun hg hgo => ?_ | refine ek_ret ?_ | refine ek_norm ?_ | refine ⟨by omega, ?_⟩ | rfl | trivial | intro _
    all_goals first | rfl | (simp_all [beqD, termL, steps, e1, e2]; done) | ((try simp only [termL, steps, e1, e2]); (repeat' split) <;> first | omega | (simp_all [beqD]; done) | (simp_all [beqD]; omega)) | (simp_all [beqD, termL, steps, e1, e2]; (repeat' split) <;> first | rfl | omega | (simp_all; done))
  · have e1 : tkL a 4 = [⟨3, 4, 0, 0, a - 4⟩] := by unfold tkL; rw [if_neg h4]
    have e2 : tkR a 4 = 4 := by unfold tkR; rw [if_neg h4]
    refine cw (keepF Tryz.f34) Tryz.f34 false ?_
    repeat' first | refine ck_intro (by first | exact taken_hi a 4 h4 h) ?_ ?_ | refine g2 @stepsS @stepsS2 ?_ | refine d2 @stepsS @stepsS2 ?_ | refine j2 @stepsS @stepsS2 (fun hg hgo => ?_) fun hg hgo => ?_ | refine ek_ret ?_ | refine ek_norm ?_ | refine ⟨by omega, ?_⟩ | rfl | trivial | intro _
    all_goals first | rfl | (simp_all [beqD, termL, steps, e1, e2]; done) | ((try simp only [termL, steps, e1, e2]); (repeat' split) <;> first | omega | (simp_all [beqD]; done) | (simp_all [beqD]; omega)) | (simp_all [beqD, termL, steps, e1, e2]; (repeat' split) <;> first | rfl | omega | (simp_all; done))
def blkC (b : BlockD) : List StepD := b.list.flatMap emitL ++ termL b.term
def codeAt (f : FnD) (b : Nat) : List StepD := ((f.blocks[b]?).map blkC).getD []
def begins (f : FnD) : List Nat → List Int → Nat → List Int
  | [], s, _ => s
  | b :: l, s, n => begins f l (s.set b n) (n + (codeAt f b).length)
def patch (s : List Int) (x : StepD) : StepD := if x.op = 9 ∨ x.op = 10 then { x with n := (s[x.n.toNat]?).getD 0 } else x
theorem begins_len (f : FnD) : ∀ (l : List Nat) (s : List Int) (n : Nat), (begins f l s n).length = s.length
  | [], s, n => rfl
  | b :: l, s, n => by rw [begins, begins_len f l, List.length_set]
def bools (l : List Bool) : List DV := l.map fun b => .fv (.bool b)
@[go_sem] theorem nrs_bools {l : List Bool} : noRefs (bools l) = true := nrs_map
@[go_sem] theorem fzL_bools {l : List Bool} : fzL (bools l) = some (l.map .bool) := fzL_map
@[go_sem] theorem clDs_bools {l : List Bool} : clDs (bools l) = true := clDs_map fun x => rfl
@[go_sem] theorem bools_len {l : List Bool} : (bools l).length = l.length := by unfold bools; simp
theorem ints_get {l : List Int} {i : Nat} (h : i < l.length) : (ints l)[i]? = some (iv l[i]) := by unfold ints; simp [h]
theorem bools_set {l : List Bool} {i : Nat} {b : Bool} : (bools l).set i (.fv (.bool b)) = bools (l.set i b) := by unfold bools; rw [List.map_set]
theorem bools_get {l : List Bool} {i : Nat} (h : i < l.length) : (bools l)[i]? = some (.fv (.bool l[i])) := by unfold bools; simp [h]
theorem bools_rep {n : Nat} {b : Bool} : List.replicate n (DV.fv (.bool b)) = bools (List.replicate n b) := by unfold bools; simp
def succL (t : TermD) : List Int := if t.kind = 1 then [t.to] else if t.kind = 2 then (if t.to = t.els then [t.to] else [t.to, t.els]) else []
theorem v_l3Succs (f : FnD) (b : Nat) (hb : b < f.blocks.length) (hf : f.blocks.length < 1073741824) : C2 CC F_spec_l3Succs [.fv (fnF f), iv b] (.own 1 (ints (succL f.blocks[b].term))) [] := by
  have hml : b < (f.blocks.map blockF).length := by rw [List.length_map]; exact hb
  refine cw (keepF Tryz.f103) Tryz.f103 false ?_
  repeat' first | refine g0 ?_ | refine d0 ?_ | refine j0 (fun hg hgo => ?_) fun hg hgo => ?_ | refine ek_ret ?_ | refine ek_norm ?_ | refine ⟨by omega, ?_⟩ | rfl | trivial | intro _
  all_goals first | rfl | (simp_all [beqD, succL, ints]; done) | ((try simp only [succL, ints]); (repeat' split) <;> first | omega | (simp_all [beqD]; done) | (simp_all [beqD]; omega)) | (simp_all [beqD, succL, ints]; (repeat' split) <;> first | rfl | omega | (simp_all; done))
def idxP {α : Type} (P : α → Bool) : List α → Int → Int
  | [], _ => -1
  | x :: l, j => if P x = true then j else idxP P l (j + 1)
theorem idxP_at {α : Type} (P : α → Bool) : ∀ (l : List α) (j : Nat) (k : Int), (∀ i (h : i < l.length), i < j → P l[i] = false) → idxP P l k = idxP P (l.drop j) (k + j)
  | l, 0, k, _ => by simp
  | [], j + 1, k, _ => by simp [idxP]
  | x :: l, j + 1, k, h => by
    have h0 := h 0 (by simp) (by omega)
    simp only [List.getElem_cons_zero] at h0
    rw [List.drop_succ_cons, idxP, if_neg (by simp [h0]), idxP_at P l j (k + 1) (fun i hi hij => by have := h (i + 1) (by simpa using hi) (by omega); simpa using this)]
    congr 1; omega
theorem idxP_ge {α : Type} (P : α → Bool) : ∀ (l : List α) (k : Int), 0 ≤ k → decide (idxP P l k ≥ 0) = l.any P
  | [], k, _ => by simp [idxP]
  | x :: l, k, hk => by
    unfold idxP
    cases hx : P x with
    | true => simp [hx, hk]
    | false => simp only [Bool.false_eq_true, if_false, List.any_cons, hx, Bool.false_or]; exact idxP_ge P l (k + 1) (by omega)
theorem idxP_any {α : Type} (P : α → Bool) (l : List α) : decide (idxP P l 0 ≥ 0) = l.any P := idxP_ge P l 0 (by omega)
theorem all_step {α : Type} {p : α → Bool} {l : List α} {j : Nat} (h : (l.take j).all p = true) (hj : j < l.length) (hp : p l[j] = true) : (l.take (j + 1)).all p = true := by
  rw [List.take_succ_eq_append_getElem hj, List.all_append, h]; simp [hp]
theorem all_bad {α : Type} {p : α → Bool} {l : List α} {j : Nat} (hj : j < l.length) (hp : p l[j] = false) : l.all p = false := by
  rw [List.all_eq_false]
  exact ⟨l[j], List.getElem_mem hj, by simp [hp]⟩
theorem all_end {α : Type} {p : α → Bool} {l : List α} {j : Nat} (h : (l.take j).all p = true) (hj : l.length ≤ j) : l.all p = true := by
  rw [List.take_of_length_le hj] at h; exact h
def rgB (n lo hi : Int) : Bool := decide (n ≥ lo) && decide (n ≤ hi)
def valB (n values : Int) : Bool := decide (n ≥ 0) && decide (n < values)
def insB (x : StepD) (values : Int) : Bool :=
  if wok x.op = true then valB x.r values && valB x.a values && valB x.b values && decide (x.n = 0)
  else if x.op = 20 then valB x.r values && decide (x.a = 0) && decide (x.b = 0)
  else if x.op = 21 ∨ x.op = 25 then valB x.r values && valB x.a values && decide (x.b = 0) && decide (x.n = 0)
  else if x.op = 22 then valB x.a values && valB x.b values && decide (x.r = 0) && decide (x.n = 0)
  else if x.op = 23 then valB x.a values && decide (x.r = 0) && decide (x.b = 0) && decide (x.n = 0)
  else if x.op = 24 then valB x.r values && decide (x.a = 0) && decide (x.b = 0) && decide (x.n = 0)
  else false
def termB (t : TermD) (blocks values : Int) : Bool :=
  if t.kind = 1 then rgB t.to 0 (blocks - 1) && decide (t.a = 0) && decide (t.els = 0)
  else if t.kind = 2 then rgB t.to 0 (blocks - 1) && rgB t.els 0 (blocks - 1) && valB t.a values
  else if t.kind = 3 then valB t.a values && decide (t.to = 0) && decide (t.els = 0)
  else false
def armB (pre : List ArmD) (a : ArmD) (blocks values : Int) : Bool := rgB a.fr 0 (blocks - 1) && valB a.v values && pre.all fun x => !decide (x.fr = a.fr)
def armsB (blocks values : Int) : List ArmD → List ArmD → Bool
  | _, [] => true
  | pre, a :: l => armB pre a blocks values && armsB blocks values (pre ++ [a]) l
def phiB (p : PhiD) (blocks values : Int) : Bool := valB p.d values && decide (p.arms.length ≤ 16) && armsB blocks values [] p.arms
def blockB (b : BlockD) (blocks values : Int) : Bool := decide (b.phis.length ≤ 24) && decide (b.list.length ≤ 24) && termB b.term blocks values && b.phis.all (fun p => phiB p blocks values) && b.list.all (fun x => insB x values)
def shapeB (f : FnD) : Bool := rgB f.blocks.length 1 16 && rgB f.values 0 80 && f.blocks.all (fun b => blockB b f.blocks.length f.values)
theorem v_l2Value (n values : Int) : C2 CC F_spec_l2Value [iv n, iv values] (bv (valB n values)) [] := by
  refine cw (keepF Tryz.f139) Tryz.f139 false ?_
  repeat' first | refine g0 ?_ | refine d0 ?_ | refine j0 (fun hg hgo => ?_) fun hg hgo => ?_ | refine ek_ret ?_ | refine ek_norm ?_ | refine ⟨by omega, ?_⟩ | rfl | trivial | intro _
  all_goals first | rfl | (simp_all [beqD, valB]; done) | ((try simp only [valB]); (repeat' split) <;> first | omega | (simp_all [beqD]; done) | (simp_all [beqD]; omega)) | (simp_all [beqD, valB]; (repeat' split) <;> first | rfl | omega | (simp_all; done))
theorem v_l2Ins (x : StepD) (values : Int) : C2 CC F_spec_l2Ins [sF x, iv values] (bv (insB x values)) [] := by
  obtain ⟨op, r, a, b, n⟩ := x
  refine cw (keepF Tryz.f102) Tryz.f102 false ?_
  repeat' first | refine ck_intro (by first | exact v_l2Value _ _ | exact s_WordOk _) ?_ ?_ | refine g0 ?_ | refine d0 ?_ | refine j0 (fun hg hgo => ?_) fun hg hgo => ?_ | refine ek_ret ?_ | refine ek_norm ?_ | refine ⟨by omega, ?_⟩ | rfl | trivial | intro _
  all_goals first | rfl | (simp_all [beqD, insB, beqT, beqF]; done) | ((try simp only [insB, beqT, beqF]); (repeat' split) <;> first | omega | (simp_all [beqD]; done) | (simp_all [beqD]; omega)) | (simp_all [beqD, insB, beqT, beqF]; (repeat' split) <;> first | rfl | omega | (simp_all; done))
theorem v_l2Term (x : TermD) (blocks values : Int) (hb : 0 ≤ blocks ∧ blocks ≤ 1000000000) : C2 CC F_spec_l2Term [.fv (termF x), iv blocks, iv values] (bv (termB x blocks values)) [] := by
  obtain ⟨k, a, to, els⟩ := x
  refine cw (keepF Tryz.f100) Tryz.f100 false ?_
  repeat' first | refine ck_intro (by first | exact v_l2Value _ _ | exact v_l1In _ _ _) ?_ ?_ | refine g0 ?_ | refine d0 ?_ | refine j0 (fun hg hgo => ?_) fun hg hgo => ?_ | refine ek_ret ?_ | refine ek_norm ?_ | refine ⟨by omega, ?_⟩ | rfl | trivial | intro _
  all_goals first | rfl | (simp_all [beqD, termB, rgB, beqT, beqF]; done) | ((try simp only [termB, rgB, beqT, beqF]); (repeat' split) <;> first | omega | (simp_all [beqD]; done) | (simp_all [beqD]; omega)) | (simp_all [beqD, termB, rgB, beqT, beqF]; (repeat' split) <;> first | rfl | omega | (simp_all; done))
def sucN (f : FnD) (b : Nat) : List Nat := ((f.blocks[b]?).map fun x => (succL x.term).map Int.toNat).getD []
def dfs (f : FnD) : Nat → Nat → List Bool × List Int → List Bool × List Int
  | 0, _, s => s
  | n + 1, b, s => ((((sucN f b).foldl (fun t k => if t.1.getD k true = true then t else dfs f n k t) (s.1.set b true, s.2)).1), (((sucN f b).foldl (fun t k => if t.1.getD k true = true then t else dfs f n k t) (s.1.set b true, s.2)).2 ++ [(b : Int)]))
def nxt (f : FnD) (n : Nat) (t : List Bool × List Int) (k : Nat) : List Bool × List Int := if t.1.getD k true = true then t else dfs f n k t
theorem dfs_succ {f : FnD} {n b : Nat} {s : List Bool × List Int} : dfs f (n + 1) b s = (((sucN f b).foldl (nxt f n) (s.1.set b true, s.2)).1, ((sucN f b).foldl (nxt f n) (s.1.set b true, s.2)).2 ++ [(b : Int)]) := rfl
def cf (l : List Bool) : Nat := l.count false
structure Dk (L : Nat) (s s' : List Bool × List Int) : Prop where
  len : s'.1.length = s.1.length
  cnt : s'.2.length + cf s'.1 ≤ s.2.length + cf s.1
  mono : cf s'.1 ≤ cf s.1
  mem : (∀ x ∈ s.2, 0 ≤ x ∧ x < (L : Int)) → ∀ x ∈ s'.2, 0 ≤ x ∧ x < (L : Int)
theorem dk_refl {L : Nat} {s : List Bool × List Int} : Dk L s s := ⟨rfl, Nat.le_refl _, Nat.le_refl _, id⟩
theorem dk_tr {L : Nat} {s s1 s2 : List Bool × List Int} (h1 : Dk L s s1) (h2 : Dk L s1 s2) : Dk L s s2 :=
  ⟨by rw [h2.len, h1.len], Nat.le_trans h2.cnt h1.cnt, Nat.le_trans h2.mono h1.mono, fun h => h2.mem (h1.mem h)⟩
theorem cf_set {l : List Bool} {b : Nat} (h : l[b]? = some false) : cf (l.set b true) + 1 = cf l := by
  obtain ⟨hb, he⟩ := List.getElem?_eq_some_iff.1 h
  have h1 : 0 < l.count false := List.count_pos_iff.2 (he ▸ List.getElem_mem hb)
  unfold cf
  rw [List.count_set hb, he]
  simp only [beq_self_eq_true, if_true]
  have : (true == false) = false := rfl
  rw [this]
  simp only [if_false, Bool.false_eq_true]
  omega
theorem getD_no {l : List Bool} {k : Nat} (h : ¬ l.getD k true = true) : l[k]? = some false := by
  rw [List.getD_eq_getElem?_getD] at h
  cases hk : l[k]? with
  | none => rw [hk] at h; exact absurd rfl h
  | some b => rw [hk] at h; simp at h; rw [h]
theorem dk_fold {f : FnD} {n L : Nat} (ih : ∀ b s, b < L → s.1.length = L → s.1[b]? = some false → Dk L s (dfs f n b s)) : ∀ (ks : List Nat) (s : List Bool × List Int), (∀ k ∈ ks, k < L) → s.1.length = L → Dk L s (ks.foldl (nxt f n) s)
  | [], s, _, _ => dk_refl
  | k :: ks, s, hk, hs => by
    rw [List.foldl_cons]
    have h1 : Dk L s (nxt f n s k) := by
      unfold nxt
      split
      · exact dk_refl
      · rename_i h; exact ih k s (hk k (by simp)) hs (getD_no h)
    exact dk_tr h1 (dk_fold ih ks _ (fun x hx => hk x (by simp [hx])) (by rw [h1.len, hs]))
theorem dk_dfs {f : FnD} {L : Nat} (hsu : ∀ b, b < L → ∀ k ∈ sucN f b, k < L) : ∀ (n b : Nat) (s : List Bool × List Int), b < L → s.1.length = L → s.1[b]? = some false → Dk L s (dfs f n b s)
  | 0, b, s, _, _, _ => dk_refl
  | n + 1, b, s, hb, hs, hf => by
    rw [dfs_succ]
    have h1 := dk_fold (dk_dfs hsu n) (sucN f b) (s.1.set b true, s.2) (hsu b hb) (by simp only [List.length_set]; exact hs)
    have h2 := cf_set hf
    generalize (sucN f b).foldl (nxt f n) (s.1.set b true, s.2) = r at h1
    have h3 := h1.cnt
    have h4 := h1.mono
    have h5 := h1.len
    simp only [List.length_set] at h3 h4 h5
    refine ⟨h5, ?_, ?_, fun h x hx => ?_⟩
    · simp only [List.length_append, List.length_cons, List.length_nil]; omega
    · simp only; omega
    · rcases List.mem_append.1 hx with hx | hx
      · exact h1.mem h x hx
      · rw [List.mem_singleton] at hx; subst hx; omega
def ordL (f : FnD) : List Int := (dfs f f.blocks.length 0 (List.replicate f.blocks.length false, [])).2.reverse
theorem suc_in {f : FnD} (hs : shapeB f = true) : ∀ b (h : b < f.blocks.length), ∀ x ∈ succL f.blocks[b].term, 0 ≤ x ∧ x < (f.blocks.length : Int) := by
  intro b h x hx
  unfold shapeB at hs
  simp only [Bool.and_eq_true, List.all_eq_true] at hs
  have h1 := hs.2 f.blocks[b] (List.getElem_mem h)
  unfold blockB at h1
  simp only [Bool.and_eq_true] at h1
  have h2 := h1.1.1.2
  unfold termB rgB at h2
  unfold succL at hx
  split at hx
  · rename_i hk
    rw [if_pos hk] at h2
    simp only [Bool.and_eq_true, decide_eq_true_eq] at h2
    rw [List.mem_singleton] at hx; subst hx; omega
  · rename_i hk
    rw [if_neg hk] at h2
    split at hx
    · rename_i hk2
      rw [if_pos hk2] at h2
      simp only [Bool.and_eq_true, decide_eq_true_eq] at h2
      split at hx
      · rw [List.mem_singleton] at hx; subst hx; omega
      · simp only [List.mem_cons, List.not_mem_nil, or_false] at hx
        rcases hx with rfl | rfl <;> omega
    · cases hx
theorem sucN_at {f : FnD} {b : Nat} (h : b < f.blocks.length) : sucN f b = (succL f.blocks[b].term).map Int.toNat := by
  unfold sucN; rw [List.getElem?_eq_getElem h]; rfl
theorem suc_inN {f : FnD} (hs : shapeB f = true) : ∀ b, b < f.blocks.length → ∀ k ∈ sucN f b, k < f.blocks.length := by
  intro b hb k hk
  rw [sucN_at hb] at hk
  obtain ⟨x, hx, rfl⟩ := List.mem_map.1 hk
  have := suc_in hs b hb x hx
  omega
theorem ord_ok {f : FnD} (hs : shapeB f = true) (h0 : 0 < f.blocks.length) : (ordL f).length ≤ f.blocks.length ∧ ∀ x ∈ ordL f, 0 ≤ x ∧ x < (f.blocks.length : Int) := by
  have h := dk_dfs (suc_inN hs) f.blocks.length 0 (List.replicate f.blocks.length false, []) h0 (by simp) (by simp [h0])
  have h1 := h.cnt
  have hc : cf (List.replicate f.blocks.length false) = f.blocks.length := by unfold cf; rw [List.count_replicate_self]
  simp only [List.length_nil] at h1
  unfold ordL
  refine ⟨by rw [List.length_reverse]; omega, fun x hx => h.mem (fun y hy => by cases hy) x (List.mem_reverse.1 hx)⟩
theorem armsB_split (blocks values : Int) : ∀ (l : List ArmD) (pre : List ArmD) (j : Nat), (∀ i (h : i < l.length), i < j → armB (pre ++ l.take i) l[i] blocks values = true) → armsB blocks values pre l = armsB blocks values (pre ++ l.take j) (l.drop j)
  | l, pre, 0, h => by simp
  | [], pre, j + 1, h => by simp [armsB]
  | a :: l, pre, j + 1, h => by
    have h0 := h 0 (by simp) (by omega)
    simp only [List.take_zero, List.append_nil, List.getElem_cons_zero] at h0
    rw [armsB, h0, Bool.true_and, List.drop_succ_cons, List.take_succ_cons, armsB_split blocks values l (pre ++ [a]) j (fun i hi hij => by
      have := h (i + 1) (by simpa using hi) (by omega)
      simpa using this)]
    simp
theorem v_l2Phi (x : PhiD) (blocks values : Int) (hb : 0 ≤ blocks ∧ blocks ≤ 1000000000) (hx : x.ok) : C2 CC F_spec_l2Phi [.fv (phiF x), iv blocks, iv values] (bv (phiB x blocks values)) [] := by
  obtain ⟨d, arms⟩ := x
  replace hx : arms.length < 1073741824 := hx
  unfold phiB
  refine cw (keepF Tryz.f101) Tryz.f101 false ?_
  repeat' first | refine ck_intro (by first | exact v_l2Value _ _ | exact v_l1In _ _ _) ?_ ?_ | refine pd3 53 [0, 1, 0, 7, 15, 31, 0, 64, 0, 448, 960, 1984, 4095] [0, 1, 0, 0, 0, 1, 0, 1, 0, 0, 0, 1, 0] false ?_ | refine g0 ?_ | refine d0 ?_ | refine j0 (fun hg hgo => ?_) fun hg hgo => ?_ | refine ek_ret ?_ | refine ek_norm ?_ | refine ⟨by omega, ?_⟩ | rfl | trivial | intro _
  · simp [hgo]
  · simp; intro _ h; omega
  · rw [show (valB d values && decide (arms.length ≤ 16) && armsB blocks values [] arms) = armsB blocks values [] arms by rw [(by assumption : valB d values = true)]; simp; intro h; omega]
    refine pw_loop (fun m st => ∃ j : Nat, j + m = arms.length ∧ (∀ i (h : i < arms.length), i < j → armB ([] ++ arms.take i) arms[i] blocks values = true) ∧ st = [(1, iv blocks), (2, iv values), (3, .box (.fv (phiF ⟨d, arms⟩))), (7, iv j)]) arms.length [(1, iv blocks), (2, iv values), (3, .box (.fv (phiF ⟨d, arms⟩))), (7, iv (0 : Nat))] (sub_of ?_) ⟨0, by omega, fun i _ hi => by omega, rfl⟩ ?_
    · exact dn
    · rintro m st ⟨j, hj, hb2, rfl⟩
      have hsp := armsB_split blocks values arms [] j hb2
      by_cases hlt : j < arms.length
      · have hd : decide ((j : Int) < (arms.length : Int)) = true := by rw [decide_eq_true_eq]; omega
        have hml : j < (arms.map armF).length := by rw [List.length_map]; exact hlt
        rw [List.nil_append, List.drop_eq_getElem_cons hlt, armsB] at hsp
        rw [hsp]
        replace hb2 : True → _ := fun _ => hb2
        repeat' first | refine ck_intro (by first | exact v_l2Value _ _ | exact v_l1In _ _ _) ?_ ?_ | refine pd3 53 [0, 1, 0, 7, 15, 31, 0, 64, 0, 448, 960, 1984, 4095] [0, 1, 0, 0, 0, 1, 0, 1, 0, 0, 0, 1, 0] false ?_ | refine g1 @hd ?_ | refine d1 @hd ?_ | refine j1 @hd (fun hg hgo => ?_) fun hg hgo => ?_ | refine ek_ret ?_ | refine ek_norm ?_ | refine ⟨by omega, ?_⟩ | rfl | trivial | intro _
        · have : armB (arms.take j) arms[j] blocks values = false := by
            unfold armB rgB
            rcases hgo with h | h
            · simp [h]
            · rw [decide_eq_false h]; simp
          rw [this]; rfl
        · have : armB (arms.take j) arms[j] blocks values = false := by unfold armB; simp [hgo]
          rw [this]; rfl
        · have hfr : rgB arms[j].fr 0 (blocks - 1) = true := by
            have hq : arms[j].fr ≥ 0 ∧ arms[j].fr ≤ blocks - 1 := by assumption
            unfold rgB; rw [decide_eq_true hq.1, decide_eq_true hq.2]; rfl
          refine pw_loop (fun m st => ∃ k : Nat, k + m = j ∧ (∀ i (h : i < arms.length), i < k → arms[i].fr ≠ arms[j].fr) ∧ st = [(1, iv blocks), (2, iv values), (3, .box (.fv (phiF ⟨d, arms⟩))), (7, iv j), (8, iv k)]) j [(1, iv blocks), (2, iv values), (3, .box (.fv (phiF ⟨d, arms⟩))), (7, iv j), (8, iv (0 : Nat))] (sub_of ?_) ⟨0, by omega, fun i _ hi => by omega, rfl⟩ ?_
          · exact dn
          · rintro m2 st ⟨k, hk, hb3, rfl⟩
            by_cases hlk : k < j
            · have hd : decide ((k : Int) < (j : Int)) = true := by rw [decide_eq_true_eq]; omega
              have hmk : k < (arms.map armF).length := by rw [List.length_map]; omega
              have hka : k < arms.length := by omega
              replace hb3 : True → _ := fun _ => hb3
              repeat' first | refine pd3 53 [0, 1, 0, 7, 15, 31, 0, 64, 0, 448, 960, 1984, 4095] [0, 1, 0, 0, 0, 1, 0, 1, 0, 0, 0, 1, 0] false ?_ | refine g1 @hd ?_ | refine d1 @hd ?_ | refine j1 @hd (fun hg hgo => ?_) fun hg hgo => ?_ | refine ek_ret ?_ | refine ek_norm ?_ | refine ⟨by omega, ?_⟩ | rfl | trivial | intro _
              · have : armB (arms.take j) arms[j] blocks values = false := by
                  unfold armB
                  have : ((arms.take j).all fun x => !decide (x.fr = arms[j].fr)) = false := by
                    rw [List.all_eq_false]
                    exact ⟨arms[k], List.mem_take_iff_getElem.2 ⟨k, by omega, rfl⟩, by simpa using hg⟩
                  rw [this]; simp
                rw [this]; rfl
              · refine rd_norm [(1, iv blocks), (2, iv values), (3, .box (.fv (phiF ⟨d, arms⟩))), (7, iv j), (8, iv (k + 1 : Nat))] (sub_of ?_) (m2 - 1) (by omega) ⟨k + 1, by omega, fun i hi h1 => ?_, rfl⟩
                · exact dn
                · by_cases h2 : i = k
                  · subst h2; simpa using hg
                  · exact hb3 trivial i hi (by omega)
            · have hd : decide ((k : Int) < (j : Int)) = false := by rw [decide_eq_false_iff_not]; omega
              have harm : armB (arms.take j) arms[j] blocks values = true := by
                unfold armB
                have hv : valB arms[j].v values = true := by assumption
                rw [hfr, hv]
                simp only [Bool.true_and, List.all_eq_true, Bool.not_eq_true', decide_eq_false_iff_not]
                intro x hx
                obtain ⟨i, hi, rfl⟩ := List.mem_take_iff_getElem.1 hx
                exact hb3 i (by omega) (by omega)
              repeat' first | refine g1 @hd ?_ | refine d1 @hd ?_ | refine j1 @hd (fun hg hgo => ?_) fun hg hgo => ?_ | refine ek_ret ?_ | refine ek_norm ?_ | refine ⟨by omega, ?_⟩ | rfl | trivial | intro _
              refine rd_norm [(1, iv blocks), (2, iv values), (3, .box (.fv (phiF ⟨d, arms⟩))), (7, iv (j + 1 : Nat))] (sub_of ?_) (m - 1) (by omega) ⟨j + 1, by omega, fun i hi h1 => ?_, rfl⟩
              · exact dn
              · by_cases h2 : i = j
                · subst h2; exact harm
                · exact hb2 trivial i hi (by omega)
      · have hd : decide ((j : Int) < (arms.length : Int)) = false := by rw [decide_eq_false_iff_not]; omega
        rw [hsp, List.drop_eq_nil_of_le (by omega), armsB]
        repeat' first | refine g1 @hd ?_ | refine d1 @hd ?_ | refine j1 @hd (fun hg hgo => ?_) fun hg hgo => ?_ | refine ek_ret ?_ | refine ek_norm ?_ | refine ⟨by omega, ?_⟩ | rfl | trivial | intro _
theorem shapeB_b (f : FnD) (h : rgB f.blocks.length 1 16 = true) (h2 : rgB f.values 0 80 = true) : shapeB f = f.blocks.all fun b => blockB b f.blocks.length f.values := by unfold shapeB; rw [h, h2]; rfl
theorem v_ShapeOk_spec (f : FnD) (hf : f.ok) : C2 CC F_spec_ShapeOk [.fv (fnF f)] (bv (shapeB f)) [] := by
  obtain ⟨blocks, values⟩ := f
  replace hf : blocks.length < 1073741824 ∧ ∀ b ∈ blocks, b.ok := hf
  refine cw (keepF Tryz.f59) Tryz.f59 false ?_
  repeat' first | refine ck_intro (by first | exact v_l1In _ _ _) ?_ ?_ | refine pd3 56 [0, 1, 0, 7, 15, 0, 0, 64, 255, 511] [0, 1, 0, 0, 1, 0, 0, 1, 5, 0] false ?_ | refine pd3 73 [0, 1, 0, 7, 15, 0, 32, 127, 255] [0, 1, 0, 0, 1, 0, 1, 5, 0] false ?_ | refine g0 ?_ | refine d0 ?_ | refine j0 (fun hg hgo => ?_) fun hg hgo => ?_ | refine ek_ret ?_ | refine ek_norm ?_ | refine ⟨by omega, ?_⟩ | rfl | trivial | intro _
  · unfold shapeB rgB
    rcases hgo with h | h
    · simp [h]
    · rw [decide_eq_false h]; simp
  · unfold shapeB rgB
    rcases hgo with h | h
    · simp [h]
    · rw [decide_eq_false h]; simp
  · have h1 : rgB blocks.length 1 16 = true := by
      have hq : (blocks.length : Int) ≥ 1 ∧ (blocks.length : Int) ≤ 16 := by assumption
      unfold rgB; rw [decide_eq_true hq.1, decide_eq_true hq.2]; rfl
    have h2 : rgB values 0 80 = true := by
      have hq : values ≥ 0 ∧ values ≤ 80 := by assumption
      unfold rgB; rw [decide_eq_true hq.1, decide_eq_true hq.2]; rfl
    have hl16 : blocks.length ≤ 16 := by
      have hq : (blocks.length : Int) ≥ 1 ∧ (blocks.length : Int) ≤ 16 := by assumption
      omega
    rw [shapeB_b ⟨blocks, values⟩ h1 h2]
    show _
    refine pw_loop (fun m st => ∃ j : Nat, j + m = blocks.length ∧ (blocks.take j).all (fun b => blockB b blocks.length values) = true ∧ st = [(1, .box (.fv (fnF ⟨blocks, values⟩))), (3, iv blocks.length), (4, iv j)]) blocks.length [(1, .box (.fv (fnF ⟨blocks, values⟩))), (3, iv blocks.length), (4, iv (0 : Nat))] (sub_of ?_) ⟨0, by omega, rfl, rfl⟩ ?_
    · exact dn
    · rintro m st ⟨j, hj, hb2, rfl⟩
      by_cases hlt : j < blocks.length
      · have hd : decide ((j : Int) < (blocks.length : Int)) = true := by rw [decide_eq_true_eq]; omega
        have hml : j < (blocks.map blockF).length := by rw [List.length_map]; exact hlt
        have hok := hf.2 _ (List.getElem_mem hlt)
        have hte := v_l2Term blocks[j].term blocks.length values ⟨by omega, by omega⟩
        repeat' first | refine ck_intro (by first | exact hte) ?_ ?_ | refine pd3 56 [0, 1, 0, 7, 15, 0, 0, 64, 255, 511] [0, 1, 0, 0, 1, 0, 0, 1, 5, 0] false ?_ | refine pd3 73 [0, 1, 0, 7, 15, 0, 32, 127, 255] [0, 1, 0, 0, 1, 0, 1, 5, 0] false ?_ | refine g1 @hd ?_ | refine d1 @hd ?_ | refine j1 @hd (fun hg hgo => ?_) fun hg hgo => ?_ | refine ek_ret ?_ | refine ek_norm ?_ | refine ⟨by omega, ?_⟩ | rfl | trivial | intro _
        · have hbd : blockB blocks[j] blocks.length values = false := by unfold blockB; rw [decide_eq_false (by omega)]; simp
          rw [all_bad (p := fun b => blockB b blocks.length values) hlt hbd]
        · have hbd : blockB blocks[j] blocks.length values = false := by unfold blockB; rw [decide_eq_false (p := blocks[j].list.length ≤ 24) (by omega)]; simp
          rw [all_bad (p := fun b => blockB b blocks.length values) hlt hbd]
        · have hbd : blockB blocks[j] blocks.length values = false := by unfold blockB; rw [show termB blocks[j].term blocks.length values = false by assumption]; simp
          rw [all_bad (p := fun b => blockB b blocks.length values) hlt hbd]
        · have htm : termB blocks[j].term blocks.length values = true := by assumption
          refine pw_loop (fun m st => ∃ k : Nat, k + m = blocks[j].phis.length ∧ (blocks[j].phis.take k).all (fun x => phiB x blocks.length values) = true ∧ st = [(1, .box (.fv (fnF ⟨blocks, values⟩))), (3, iv blocks.length), (4, iv j), (5, .box (.fv (blockF blocks[j]))), (6, iv k)]) blocks[j].phis.length [(1, .box (.fv (fnF ⟨blocks, values⟩))), (3, iv blocks.length), (4, iv j), (5, .box (.fv (blockF blocks[j]))), (6, iv (0 : Nat))] (sub_of ?_) ⟨0, by omega, rfl, rfl⟩ ?_
          · exact dn
          · rintro m2 st ⟨k, hk, hb3, rfl⟩
            by_cases hlk : k < blocks[j].phis.length
            · have hdk : decide ((k : Int) < (blocks[j].phis.length : Int)) = true := by rw [decide_eq_true_eq]; omega
              have hmk : k < (blocks[j].phis.map phiF).length := by rw [List.length_map]; exact hlk
              have hel := v_l2Phi blocks[j].phis[k] blocks.length values ⟨by omega, by omega⟩ (hok.2.1 _ (List.getElem_mem hlk))
              repeat' first | refine ck_intro (by first | exact hel) ?_ ?_ | refine pd3 56 [0, 1, 0, 7, 15, 0, 0, 64, 255, 511] [0, 1, 0, 0, 1, 0, 0, 1, 5, 0] false ?_ | refine pd3 73 [0, 1, 0, 7, 15, 0, 32, 127, 255] [0, 1, 0, 0, 1, 0, 1, 5, 0] false ?_ | refine g1 @hdk ?_ | refine d1 @hdk ?_ | refine j1 @hdk (fun hg hgo => ?_) fun hg hgo => ?_ | refine ek_ret ?_ | refine ek_norm ?_ | refine ⟨by omega, ?_⟩ | rfl | trivial | intro _
              · have hx : (blocks[j].phis.all fun x => phiB x blocks.length values) = false := all_bad (p := fun x => phiB x blocks.length values) hlk (by simpa using hg)
                have hbd : blockB blocks[j] blocks.length values = false := by unfold blockB; rw [hx]; simp
                rw [all_bad (p := fun b => blockB b blocks.length values) hlt hbd]
              · refine rd_norm [(1, .box (.fv (fnF ⟨blocks, values⟩))), (3, iv blocks.length), (4, iv j), (5, .box (.fv (blockF blocks[j]))), (6, iv (k + 1 : Nat))] (sub_of ?_) (m2 - 1) (by omega) ⟨k + 1, by omega, all_step (p := fun x => phiB x blocks.length values) hb3 hlk (by simpa using hg), rfl⟩
                exact dn
            · have hdk : decide ((k : Int) < (blocks[j].phis.length : Int)) = false := by rw [decide_eq_false_iff_not]; omega
              have hallphis := all_end hb3 (by omega)
              repeat' first | refine g1 @hdk ?_ | refine d1 @hdk ?_ | refine j1 @hdk (fun hg hgo => ?_) fun hg hgo => ?_ | refine ek_ret ?_ | refine ek_norm ?_ | refine ⟨by omega, ?_⟩ | rfl | trivial | intro _
              refine pw_loop (fun m st => ∃ k : Nat, k + m = blocks[j].list.length ∧ (blocks[j].list.take k).all (fun x => insB x values) = true ∧ st = [(1, .box (.fv (fnF ⟨blocks, values⟩))), (3, iv blocks.length), (4, iv j), (5, .box (.fv (blockF blocks[j]))), (7, iv k)]) blocks[j].list.length [(1, .box (.fv (fnF ⟨blocks, values⟩))), (3, iv blocks.length), (4, iv j), (5, .box (.fv (blockF blocks[j]))), (7, iv (0 : Nat))] (sub_of ?_) ⟨0, by omega, rfl, rfl⟩ ?_
              · exact dn
              · rintro m2 st ⟨k, hk, hb3, rfl⟩
                by_cases hlk : k < blocks[j].list.length
                · have hdk : decide ((k : Int) < (blocks[j].list.length : Int)) = true := by rw [decide_eq_true_eq]; omega
                  have hmk : k < (blocks[j].list.map stF).length := by rw [List.length_map]; exact hlk
                  have hel := v_l2Ins blocks[j].list[k] values
                  repeat' first | refine ck_intro (by first | exact hel) ?_ ?_ | refine pd3 56 [0, 1, 0, 7, 15, 0, 0, 64, 255, 511] [0, 1, 0, 0, 1, 0, 0, 1, 5, 0] false ?_ | refine pd3 73 [0, 1, 0, 7, 15, 0, 32, 127, 255] [0, 1, 0, 0, 1, 0, 1, 5, 0] false ?_ | refine g1 @hdk ?_ | refine d1 @hdk ?_ | refine j1 @hdk (fun hg hgo => ?_) fun hg hgo => ?_ | refine ek_ret ?_ | refine ek_norm ?_ | refine ⟨by omega, ?_⟩ | rfl | trivial | intro _
                  · have hx : (blocks[j].list.all fun x => insB x values) = false := all_bad (p := fun x => insB x values) hlk (by simpa using hg)
                    have hbd : blockB blocks[j] blocks.length values = false := by unfold blockB; rw [hx]; simp
                    rw [all_bad (p := fun b => blockB b blocks.length values) hlt hbd]
                  · refine rd_norm [(1, .box (.fv (fnF ⟨blocks, values⟩))), (3, iv blocks.length), (4, iv j), (5, .box (.fv (blockF blocks[j]))), (7, iv (k + 1 : Nat))] (sub_of ?_) (m2 - 1) (by omega) ⟨k + 1, by omega, all_step (p := fun x => insB x values) hb3 hlk (by simpa using hg), rfl⟩
                    exact dn
                · have hdk : decide ((k : Int) < (blocks[j].list.length : Int)) = false := by rw [decide_eq_false_iff_not]; omega
                  have halllist := all_end hb3 (by omega)
                  repeat' first | refine g1 @hdk ?_ | refine d1 @hdk ?_ | refine j1 @hdk (fun hg hgo => ?_) fun hg hgo => ?_ | refine ek_ret ?_ | refine ek_norm ?_ | refine ⟨by omega, ?_⟩ | rfl | trivial | intro _
                  refine rd_norm [(1, .box (.fv (fnF ⟨blocks, values⟩))), (3, iv blocks.length), (4, iv (j + 1 : Nat))] (sub_of ?_) (m - 1) (by omega) ⟨j + 1, by omega, all_step (p := fun b => blockB b blocks.length values) hb2 hlt ?_, rfl⟩
                  · exact dn
                  · show blockB blocks[j] blocks.length values = true
                    unfold blockB
                    rw [htm, hallphis, halllist, decide_eq_true (p := blocks[j].phis.length ≤ 24) (by omega), decide_eq_true (p := blocks[j].list.length ≤ 24) (by omega)]; rfl
      · have hd : decide ((j : Int) < (blocks.length : Int)) = false := by rw [decide_eq_false_iff_not]; omega
        have hq := all_end hb2 (by omega)
        repeat' first | refine g2 @hd @hq ?_ | refine d2 @hd @hq ?_ | refine j2 @hd @hq (fun hg hgo => ?_) fun hg hgo => ?_ | refine ek_ret ?_ | refine ek_norm ?_ | refine ⟨by omega, ?_⟩ | rfl | trivial | intro _
theorem v_IndexFunc_Arm (g : FuncId) (cs : List FV) (P : ArmD → Bool) (hmu : ∀ i, MU g i = 0) (hps : g ≠ 4294967295) (l : List ArmD) (hl : l.length < 4611686018427387904) (hg : ∀ x ∈ l, C2 CC g (.fv (armF x) :: cs.map .fv) (bv (P x)) []) : C2 CC F_slices_IndexFunc_impl_Arm [.fv (.row 2 (l.map armF)), .fv (.fn g [] cs)] (iv (idxP P l 0)) [] := by
  refine cw (keepF Tryz.f156) Tryz.f156 false ?_
  repeat' first | refine g0 ?_ | refine d0 ?_ | refine j0 (fun hg hgo => ?_) fun hg hgo => ?_ | refine ek_ret ?_ | refine ek_norm ?_ | refine ⟨by omega, ?_⟩ | rfl | trivial | intro _
  refine pw_loop (fun m st => ∃ j : Nat, j + m = l.length ∧ (∀ i (h : i < l.length), i < j → P l[i] = false) ∧ st = [(0, .fv (.row 2 (l.map armF))), (1, .fv (.fn g [] cs)), (7, iv l.length), (8, iv j)]) l.length [(0, .fv (.row 2 (l.map armF))), (1, .fv (.fn g [] cs)), (7, iv l.length), (8, iv (0 : Nat))] (sub_of ?_) ⟨0, by omega, fun i _ hi => by omega, rfl⟩ ?_
  · exact dn
  · rintro m st ⟨j, hj, hb, rfl⟩
    have hidx := idxP_at P l j 0 hb
    by_cases hlt : j < l.length
    · have hd : decide ((j : Int) < (l.length : Int)) = true := by rw [decide_eq_true_eq]; omega
      have hml : j < (l.map armF).length := by rw [List.length_map]; exact hlt
      have hel := hg l[j] (List.getElem_mem hlt)
      have hidx2 : idxP P l 0 = if P l[j] = true then (j : Int) else idxP P (l.drop (j + 1)) (j + 1) := by
        rw [hidx, List.drop_eq_getElem_cons hlt, idxP]; simp
      replace hb : True → _ := fun _ => hb
      repeat' first | refine ck_intro (by first | exact hel) ?_ ?_ | refine g3 @hd @hmu @hps ?_ | refine d3 @hd @hmu @hps ?_ | refine j3 @hd @hmu @hps (fun hg hgo => ?_) fun hg hgo => ?_ | refine ek_ret ?_ | refine ek_norm ?_ | refine ⟨by omega, ?_⟩ | rfl | trivial | intro _
      · rw [hidx2, if_pos (by simpa using hg)]
      · refine rd_norm [(0, .fv (.row 2 (l.map armF))), (1, .fv (.fn g [] cs)), (7, iv l.length), (8, iv (j + 1 : Nat))] (sub_of ?_) (m - 1) (by omega) ⟨j + 1, by omega, fun i hi h1 => ?_, rfl⟩
        · exact dn
        · by_cases h2 : i = j
          · subst h2; simpa using hg
          · exact hb trivial i hi (by omega)
    · have hd : decide ((j : Int) < (l.length : Int)) = false := by rw [decide_eq_false_iff_not]; omega
      have hidx2 : idxP P l 0 = -1 := by
        rw [hidx, List.drop_eq_nil_of_le (by omega)]; rfl
      repeat' first | refine g2 @hd @hidx2 ?_ | refine d2 @hd @hidx2 ?_ | refine j2 @hd @hidx2 (fun hg hgo => ?_) fun hg hgo => ?_ | refine ek_ret ?_ | refine ek_norm ?_ | refine ⟨by omega, ?_⟩ | rfl | trivial | intro _
theorem v_ContainsFunc_Arm (g : FuncId) (cs : List FV) (P : ArmD → Bool) (hmu : ∀ i, MU g i = 0) (hps : g ≠ 4294967295) (l : List ArmD) (hl : l.length < 4611686018427387904) (hg : ∀ x ∈ l, C2 CC g (.fv (armF x) :: cs.map .fv) (bv (P x)) []) : C2 CC F_slices_ContainsFunc_impl_Arm [.fv (.row 2 (l.map armF)), .fv (.fn g [] cs)] (bv (l.any P)) [] := by
  rw [← idxP_any P l]
  refine cw (keepF Tryz.f144) Tryz.f144 false ?_
  repeat' first | refine ck_intro (by first | exact v_IndexFunc_Arm g cs P hmu hps l hl hg) ?_ ?_ | refine g0 ?_ | refine d0 ?_ | refine j0 (fun hg hgo => ?_) fun hg hgo => ?_ | refine ek_ret ?_ | refine ek_norm ?_ | refine ⟨by omega, ?_⟩ | rfl | trivial | intro _
theorem v_IndexFunc_Phi (g : FuncId) (cs : List FV) (P : PhiD → Bool) (hmu : ∀ i, MU g i = 0) (hps : g ≠ 4294967295) (l : List PhiD) (hl : l.length < 4611686018427387904) (hg : ∀ x ∈ l, C2 CC g (.fv (phiF x) :: cs.map .fv) (bv (P x)) []) : C2 CC F_slices_IndexFunc_impl_Phi [.fv (.row 2 (l.map phiF)), .fv (.fn g [] cs)] (iv (idxP P l 0)) [] := by
  refine cw (keepF Tryz.f143) Tryz.f143 false ?_
  repeat' first | refine g0 ?_ | refine d0 ?_ | refine j0 (fun hg hgo => ?_) fun hg hgo => ?_ | refine ek_ret ?_ | refine ek_norm ?_ | refine ⟨by omega, ?_⟩ | rfl | trivial | intro _
  refine pw_loop (fun m st => ∃ j : Nat, j + m = l.length ∧ (∀ i (h : i < l.length), i < j → P l[i] = false) ∧ st = [(0, .fv (.row 2 (l.map phiF))), (1, .fv (.fn g [] cs)), (7, iv l.length), (8, iv j)]) l.length [(0, .fv (.row 2 (l.map phiF))), (1, .fv (.fn g [] cs)), (7, iv l.length), (8, iv (0 : Nat))] (sub_of ?_) ⟨0, by omega, fun i _ hi => by omega, rfl⟩ ?_
  · exact dn
  · rintro m st ⟨j, hj, hb, rfl⟩
    have hidx := idxP_at P l j 0 hb
    by_cases hlt : j < l.length
    · have hd : decide ((j : Int) < (l.length : Int)) = true := by rw [decide_eq_true_eq]; omega
      have hml : j < (l.map phiF).length := by rw [List.length_map]; exact hlt
      have hel := hg l[j] (List.getElem_mem hlt)
      have hidx2 : idxP P l 0 = if P l[j] = true then (j : Int) else idxP P (l.drop (j + 1)) (j + 1) := by
        rw [hidx, List.drop_eq_getElem_cons hlt, idxP]; simp
      replace hb : True → _ := fun _ => hb
      repeat' first | refine ck_intro (by first | exact hel) ?_ ?_ | refine g3 @hd @hmu @hps ?_ | refine d3 @hd @hmu @hps ?_ | refine j3 @hd @hmu @hps (fun hg hgo => ?_) fun hg hgo => ?_ | refine ek_ret ?_ | refine ek_norm ?_ | refine ⟨by omega, ?_⟩ | rfl | trivial | intro _
      · rw [hidx2, if_pos (by simpa using hg)]
      · refine rd_norm [(0, .fv (.row 2 (l.map phiF))), (1, .fv (.fn g [] cs)), (7, iv l.length), (8, iv (j + 1 : Nat))] (sub_of ?_) (m - 1) (by omega) ⟨j + 1, by omega, fun i hi h1 => ?_, rfl⟩
        · exact dn
        · by_cases h2 : i = j
          · subst h2; simpa using hg
          · exact hb trivial i hi (by omega)
    · have hd : decide ((j : Int) < (l.length : Int)) = false := by rw [decide_eq_false_iff_not]; omega
      have hidx2 : idxP P l 0 = -1 := by
        rw [hidx, List.drop_eq_nil_of_le (by omega)]; rfl
      repeat' first | refine g2 @hd @hidx2 ?_ | refine d2 @hd @hidx2 ?_ | refine j2 @hd @hidx2 (fun hg hgo => ?_) fun hg hgo => ?_ | refine ek_ret ?_ | refine ek_norm ?_ | refine ⟨by omega, ?_⟩ | rfl | trivial | intro _
theorem v_ContainsFunc_Phi (g : FuncId) (cs : List FV) (P : PhiD → Bool) (hmu : ∀ i, MU g i = 0) (hps : g ≠ 4294967295) (l : List PhiD) (hl : l.length < 4611686018427387904) (hg : ∀ x ∈ l, C2 CC g (.fv (phiF x) :: cs.map .fv) (bv (P x)) []) : C2 CC F_slices_ContainsFunc_impl_Phi [.fv (.row 2 (l.map phiF)), .fv (.fn g [] cs)] (bv (l.any P)) [] := by
  rw [← idxP_any P l]
  refine cw (keepF Tryz.f110) Tryz.f110 false ?_
  repeat' first | refine ck_intro (by first | exact v_IndexFunc_Phi g cs P hmu hps l hl hg) ?_ ?_ | refine g0 ?_ | refine d0 ?_ | refine j0 (fun hg hgo => ?_) fun hg hgo => ?_ | refine ek_ret ?_ | refine ek_norm ?_ | refine ⟨by omega, ?_⟩ | rfl | trivial | intro _
theorem v_IndexFunc_Ins (g : FuncId) (cs : List FV) (P : StepD → Bool) (hmu : ∀ i, MU g i = 0) (hps : g ≠ 4294967295) (l : List StepD) (hl : l.length < 4611686018427387904) (hg : ∀ x ∈ l, C2 CC g (.fv (stF x) :: cs.map .fv) (bv (P x)) []) : C2 CC F_slices_IndexFunc_impl_Ins [.fv (.row 5 (l.map stF)), .fv (.fn g [] cs)] (iv (idxP P l 0)) [] := by
  refine cw (keepF Tryz.f146) Tryz.f146 false ?_
  repeat' first | refine g0 ?_ | refine d0 ?_ | refine j0 (fun hg hgo => ?_) fun hg hgo => ?_ | refine ek_ret ?_ | refine ek_norm ?_ | refine ⟨by omega, ?_⟩ | rfl | trivial | intro _
  refine pw_loop (fun m st => ∃ j : Nat, j + m = l.length ∧ (∀ i (h : i < l.length), i < j → P l[i] = false) ∧ st = [(0, .fv (.row 5 (l.map stF))), (1, .fv (.fn g [] cs)), (7, iv l.length), (8, iv j)]) l.length [(0, .fv (.row 5 (l.map stF))), (1, .fv (.fn g [] cs)), (7, iv l.length), (8, iv (0 : Nat))] (sub_of ?_) ⟨0, by omega, fun i _ hi => by omega, rfl⟩ ?_
  · exact dn
  · rintro m st ⟨j, hj, hb, rfl⟩
    have hidx := idxP_at P l j 0 hb
    by_cases hlt : j < l.length
    · have hd : decide ((j : Int) < (l.length : Int)) = true := by rw [decide_eq_true_eq]; omega
      have hml : j < (l.map stF).length := by rw [List.length_map]; exact hlt
      have hel := hg l[j] (List.getElem_mem hlt)
      have hidx2 : idxP P l 0 = if P l[j] = true then (j : Int) else idxP P (l.drop (j + 1)) (j + 1) := by
        rw [hidx, List.drop_eq_getElem_cons hlt, idxP]; simp
      replace hb : True → _ := fun _ => hb
      repeat' first | refine ck_intro (by first | exact hel) ?_ ?_ | refine g3 @hd @hmu @hps ?_ | refine d3 @hd @hmu @hps ?_ | refine j3 @hd @hmu @hps (fun hg hgo => ?_) fun hg hgo => ?_ | refine ek_ret ?_ | refine ek_norm ?_ | refine ⟨by omega, ?_⟩ | rfl | trivial | intro _
      · rw [hidx2, if_pos (by simpa using hg)]
      · refine rd_norm [(0, .fv (.row 5 (l.map stF))), (1, .fv (.fn g [] cs)), (7, iv l.length), (8, iv (j + 1 : Nat))] (sub_of ?_) (m - 1) (by omega) ⟨j + 1, by omega, fun i hi h1 => ?_, rfl⟩
        · exact dn
        · by_cases h2 : i = j
          · subst h2; simpa using hg
          · exact hb trivial i hi (by omega)
    · have hd : decide ((j : Int) < (l.length : Int)) = false := by rw [decide_eq_false_iff_not]; omega
      have hidx2 : idxP P l 0 = -1 := by
        rw [hidx, List.drop_eq_nil_of_le (by omega)]; rfl
      repeat' first | refine g2 @hd @hidx2 ?_ | refine d2 @hd @hidx2 ?_ | refine j2 @hd @hidx2 (fun hg hgo => ?_) fun hg hgo => ?_ | refine ek_ret ?_ | refine ek_norm ?_ | refine ⟨by omega, ?_⟩ | rfl | trivial | intro _
theorem v_ContainsFunc_Ins (g : FuncId) (cs : List FV) (P : StepD → Bool) (hmu : ∀ i, MU g i = 0) (hps : g ≠ 4294967295) (l : List StepD) (hl : l.length < 4611686018427387904) (hg : ∀ x ∈ l, C2 CC g (.fv (stF x) :: cs.map .fv) (bv (P x)) []) : C2 CC F_slices_ContainsFunc_impl_Ins [.fv (.row 5 (l.map stF)), .fv (.fn g [] cs)] (bv (l.any P)) [] := by
  rw [← idxP_any P l]
  refine cw (keepF Tryz.f113) Tryz.f113 false ?_
  repeat' first | refine ck_intro (by first | exact v_IndexFunc_Ins g cs P hmu hps l hl hg) ?_ ?_ | refine g0 ?_ | refine d0 ?_ | refine j0 (fun hg hgo => ?_) fun hg hgo => ?_ | refine ek_ret ?_ | refine ek_norm ?_ | refine ⟨by omega, ?_⟩ | rfl | trivial | intro _
theorem v_IndexFunc_Block (g : FuncId) (cs : List FV) (P : BlockD → Bool) (hmu : ∀ i, MU g i = 0) (hps : g ≠ 4294967295) (l : List BlockD) (hl : l.length < 4611686018427387904) (hg : ∀ x ∈ l, C2 CC g (.fv (blockF x) :: cs.map .fv) (bv (P x)) []) : C2 CC F_slices_IndexFunc_impl_Block [.fv (.row 6 (l.map blockF)), .fv (.fn g [] cs)] (iv (idxP P l 0)) [] := by
  refine cw (keepF Tryz.f116) Tryz.f116 false ?_
  repeat' first | refine g0 ?_ | refine d0 ?_ | refine j0 (fun hg hgo => ?_) fun hg hgo => ?_ | refine ek_ret ?_ | refine ek_norm ?_ | refine ⟨by omega, ?_⟩ | rfl | trivial | intro _
  refine pw_loop (fun m st => ∃ j : Nat, j + m = l.length ∧ (∀ i (h : i < l.length), i < j → P l[i] = false) ∧ st = [(0, .fv (.row 6 (l.map blockF))), (1, .fv (.fn g [] cs)), (7, iv l.length), (8, iv j)]) l.length [(0, .fv (.row 6 (l.map blockF))), (1, .fv (.fn g [] cs)), (7, iv l.length), (8, iv (0 : Nat))] (sub_of ?_) ⟨0, by omega, fun i _ hi => by omega, rfl⟩ ?_
  · exact dn
  · rintro m st ⟨j, hj, hb, rfl⟩
    have hidx := idxP_at P l j 0 hb
    by_cases hlt : j < l.length
    · have hd : decide ((j : Int) < (l.length : Int)) = true := by rw [decide_eq_true_eq]; omega
      have hml : j < (l.map blockF).length := by rw [List.length_map]; exact hlt
      have hel := hg l[j] (List.getElem_mem hlt)
      have hidx2 : idxP P l 0 = if P l[j] = true then (j : Int) else idxP P (l.drop (j + 1)) (j + 1) := by
        rw [hidx, List.drop_eq_getElem_cons hlt, idxP]; simp
      replace hb : True → _ := fun _ => hb
      repeat' first | refine ck_intro (by first | exact hel) ?_ ?_ | refine g3 @hd @hmu @hps ?_ | refine d3 @hd @hmu @hps ?_ | refine j3 @hd @hmu @hps (fun hg hgo => ?_) fun hg hgo => ?_ | refine ek_ret ?_ | refine ek_norm ?_ | refine ⟨by omega, ?_⟩ | rfl | trivial | intro _
      · rw [hidx2, if_pos (by simpa using hg)]
      · refine rd_norm [(0, .fv (.row 6 (l.map blockF))), (1, .fv (.fn g [] cs)), (7, iv l.length), (8, iv (j + 1 : Nat))] (sub_of ?_) (m - 1) (by omega) ⟨j + 1, by omega, fun i hi h1 => ?_, rfl⟩
        · exact dn
        · by_cases h2 : i = j
          · subst h2; simpa using hg
          · exact hb trivial i hi (by omega)
    · have hd : decide ((j : Int) < (l.length : Int)) = false := by rw [decide_eq_false_iff_not]; omega
      have hidx2 : idxP P l 0 = -1 := by
        rw [hidx, List.drop_eq_nil_of_le (by omega)]; rfl
      repeat' first | refine g2 @hd @hidx2 ?_ | refine d2 @hd @hidx2 ?_ | refine j2 @hd @hidx2 (fun hg hgo => ?_) fun hg hgo => ?_ | refine ek_ret ?_ | refine ek_norm ?_ | refine ⟨by omega, ?_⟩ | rfl | trivial | intro _
theorem v_ContainsFunc_Block (g : FuncId) (cs : List FV) (P : BlockD → Bool) (hmu : ∀ i, MU g i = 0) (hps : g ≠ 4294967295) (l : List BlockD) (hl : l.length < 4611686018427387904) (hg : ∀ x ∈ l, C2 CC g (.fv (blockF x) :: cs.map .fv) (bv (P x)) []) : C2 CC F_slices_ContainsFunc_impl_Block [.fv (.row 6 (l.map blockF)), .fv (.fn g [] cs)] (bv (l.any P)) [] := by
  rw [← idxP_any P l]
  refine cw (keepF Tryz.f71) Tryz.f71 false ?_
  repeat' first | refine ck_intro (by first | exact v_IndexFunc_Block g cs P hmu hps l hl hg) ?_ ?_ | refine g0 ?_ | refine d0 ?_ | refine j0 (fun hg hgo => ?_) fun hg hgo => ?_ | refine ek_ret ?_ | refine ek_norm ?_ | refine ⟨by omega, ?_⟩ | rfl | trivial | intro _
def partB (n : Int) (had : Bool) (values : Int) : Bool := if had = true then valB n values else decide (n = 0)
theorem v_partOk (n : Int) (had : Bool) (values : Int) : C2 CC F_impl_partOk [iv n, bv had, iv values] (bv (partB n had values)) [] := by
  refine cw (keepF Tryz.f142) Tryz.f142 false ?_
  repeat' first | refine g0 ?_ | refine d0 ?_ | refine j0 (fun hg hgo => ?_) fun hg hgo => ?_ | refine ek_ret ?_ | refine ek_norm ?_ | refine ⟨by omega, ?_⟩ | rfl | trivial | intro _
  all_goals first | rfl | (simp_all [beqD, partB, valB]; done) | ((try simp only [partB, valB]); (repeat' split) <;> first | omega | (simp_all [beqD]; done) | (simp_all [beqD]; omega)) | (simp_all [beqD, partB, valB]; (repeat' split) <;> first | rfl | omega | (simp_all; done))
theorem insB_eq (x : StepD) (values : Int) : insB x values = (formK x.op && partB x.r (makesB x.op) values && partB x.a (hasA x.op) values && partB x.b (hasBb x.op) values && (decide (x.n = 0) || hasNb x.op)) := by
  obtain ⟨op, r, a, b, n⟩ := x
  cases hw : wok op with
  | true =>
    have hr : 1 ≤ op ∧ op ≤ 10 := by unfold wok at hw; simpa using hw
    have e20 : ¬ op = 20 := by omega
    have e21 : ¬ op = 21 := by omega
    have e22 : ¬ op = 22 := by omega
    have e23 : ¬ op = 23 := by omega
    have e24 : ¬ op = 24 := by omega
    have e25 : ¬ op = 25 := by omega
    have b20 : (op == 20) = false := by simp [e20]
    simp [b20, insB, hw, formK, partB, makesB, hasA, hasBb, hasNb, e20, e21, e22, e23, e24, e25]
  | false =>
    by_cases h20 : op = 20
    · subst h20; simp [insB, hw, formK, partB, makesB, hasA, hasBb, hasNb]
    by_cases h21 : op = 21
    · subst h21; simp [insB, hw, formK, partB, makesB, hasA, hasBb, hasNb]
    by_cases h22 : op = 22
    · subst h22; simp [insB, hw, formK, partB, makesB, hasA, hasBb, hasNb]; rw [Bool.eq_iff_iff]; simp; intros; constructor <;> (intro h; simp_all)
    by_cases h23 : op = 23
    · subst h23; simp [insB, hw, formK, partB, makesB, hasA, hasBb, hasNb]; rw [Bool.eq_iff_iff]; simp; intros; constructor <;> (intro h; simp_all)
    by_cases h24 : op = 24
    · subst h24; simp [insB, hw, formK, partB, makesB, hasA, hasBb, hasNb]
    by_cases h25 : op = 25
    · subst h25; simp [insB, hw, formK, partB, makesB, hasA, hasBb, hasNb]
    simp [insB, hw, formK, h20, h21, h22, h23, h24, h25]
theorem v_insOk (x : StepD) (values : Int) : C2 CC F_impl_insOk [sF x, iv values] (bv (insB x values)) [] := by
  rw [insB_eq]
  obtain ⟨op, r, a, b, n⟩ := x
  have cf := v_formOf op
  have cd := v_partOk r (makesB op) values
  have ca := v_partOk a (hasA op) values
  have cb := v_partOk b (hasBb op) values
  have qa := v_hasA op
  have qb := v_hasB op
  have qd := v_hasD op
  have qn := v_hasN op
  generalize formB op = fb at cf
  generalize formK op = p1 at cf
  generalize partB r (makesB op) values = p2 at cd
  generalize partB a (hasA op) values = p3 at ca
  generalize partB b (hasBb op) values = p4 at cb
  generalize hasNb op = p6 at qn
  generalize hasA op = ha at ca qa
  generalize hasBb op = hb at cb qb
  generalize makesB op = hm at cd qd
  simp only [← beqD]
  cases p1 with
  | false => refine cw (keepF Tryz.f115) Tryz.f115 false ?_
             repeat' first | refine ck_intro (by first | exact cf) ?_ ?_ | refine pdx 13 [0, 1, 3, 7, 3, 19, 51, 3, 255, 511, 1023, 2047, 4095, 2047, 10239, 26623, 2047, 131071, 262143, 524287, 1048575, 2097151, 1048575, 5242879, 13631487, 1048575, 67108863, 134217727, 268435455, 536870911, 1073741823, 2147483647, 4294967295, 8589934591, 17179869183, 34359738367, 68719476735, 137438953471, 274877906943] [0, 0, 0, 2, 0, 1, 6, 0, 5, 0, 0, 0, 2, 0, 1, 6, 0, 5, 0, 0, 0, 2, 0, 1, 6, 0, 5, 0, 0, 0, 1, 0, 0, 0, 1, 5, 0, 0, 0] ?_ | refine g0 ?_ | refine d0 ?_ | refine j0 (fun hg hgo => ?_) fun hg hgo => ?_ | refine ek_ret ?_ | refine ek_norm ?_ | refine ⟨by omega, ?_⟩ | rfl | trivial | intro _
  | true =>
    cases p2 with
    | false => refine cw (keepF Tryz.f115) Tryz.f115 false ?_
               repeat' first | refine ck_intro (by first | exact cf | exact qd | exact cd) ?_ ?_ | refine pdx 13 [0, 1, 3, 7, 3, 19, 51, 3, 255, 511, 1023, 2047, 4095, 2047, 10239, 26623, 2047, 131071, 262143, 524287, 1048575, 2097151, 1048575, 5242879, 13631487, 1048575, 67108863, 134217727, 268435455, 536870911, 1073741823, 2147483647, 4294967295, 8589934591, 17179869183, 34359738367, 68719476735, 137438953471, 274877906943] [0, 0, 0, 2, 0, 1, 6, 0, 5, 0, 0, 0, 2, 0, 1, 6, 0, 5, 0, 0, 0, 2, 0, 1, 6, 0, 5, 0, 0, 0, 1, 0, 0, 0, 1, 5, 0, 0, 0] ?_ | refine g0 ?_ | refine d0 ?_ | refine j0 (fun hg hgo => ?_) fun hg hgo => ?_ | refine ek_ret ?_ | refine ek_norm ?_ | refine ⟨by omega, ?_⟩ | rfl | trivial | intro _
    | true =>
      cases p3 with
      | false => refine cw (keepF Tryz.f115) Tryz.f115 false ?_
                 repeat' first | refine ck_intro (by first | exact cf | exact qd | exact qa | exact cd | exact ca) ?_ ?_ | refine pdx 13 [0, 1, 3, 7, 3, 19, 51, 3, 255, 511, 1023, 2047, 4095, 2047, 10239, 26623, 2047, 131071, 262143, 524287, 1048575, 2097151, 1048575, 5242879, 13631487, 1048575, 67108863, 134217727, 268435455, 536870911, 1073741823, 2147483647, 4294967295, 8589934591, 17179869183, 34359738367, 68719476735, 137438953471, 274877906943] [0, 0, 0, 2, 0, 1, 6, 0, 5, 0, 0, 0, 2, 0, 1, 6, 0, 5, 0, 0, 0, 2, 0, 1, 6, 0, 5, 0, 0, 0, 1, 0, 0, 0, 1, 5, 0, 0, 0] ?_ | refine g0 ?_ | refine d0 ?_ | refine j0 (fun hg hgo => ?_) fun hg hgo => ?_ | refine ek_ret ?_ | refine ek_norm ?_ | refine ⟨by omega, ?_⟩ | rfl | trivial | intro _
      | true =>
        cases p4 with
        | false => refine cw (keepF Tryz.f115) Tryz.f115 false ?_
                   repeat' first | refine ck_intro (by first | exact cf | exact qd | exact qa | exact qb | exact cd | exact ca | exact cb) ?_ ?_ | refine pdx 13 [0, 1, 3, 7, 3, 19, 51, 3, 255, 511, 1023, 2047, 4095, 2047, 10239, 26623, 2047, 131071, 262143, 524287, 1048575, 2097151, 1048575, 5242879, 13631487, 1048575, 67108863, 134217727, 268435455, 536870911, 1073741823, 2147483647, 4294967295, 8589934591, 17179869183, 34359738367, 68719476735, 137438953471, 274877906943] [0, 0, 0, 2, 0, 1, 6, 0, 5, 0, 0, 0, 2, 0, 1, 6, 0, 5, 0, 0, 0, 2, 0, 1, 6, 0, 5, 0, 0, 0, 1, 0, 0, 0, 1, 5, 0, 0, 0] ?_ | refine g0 ?_ | refine d0 ?_ | refine j0 (fun hg hgo => ?_) fun hg hgo => ?_ | refine ek_ret ?_ | refine ek_norm ?_ | refine ⟨by omega, ?_⟩ | rfl | trivial | intro _
        | true =>
          cases h5 : (n == 0) with
          | true => refine cw (keepF Tryz.f115) Tryz.f115 false ?_
                    repeat' first | refine ck_intro (by first | exact cf | exact qd | exact qa | exact qb | exact cd | exact ca | exact cb) ?_ ?_ | refine pdx 13 [0, 1, 3, 7, 3, 19, 51, 3, 255, 511, 1023, 2047, 4095, 2047, 10239, 26623, 2047, 131071, 262143, 524287, 1048575, 2097151, 1048575, 5242879, 13631487, 1048575, 67108863, 134217727, 268435455, 536870911, 1073741823, 2147483647, 4294967295, 8589934591, 17179869183, 34359738367, 68719476735, 137438953471, 274877906943] [0, 0, 0, 2, 0, 1, 6, 0, 5, 0, 0, 0, 2, 0, 1, 6, 0, 5, 0, 0, 0, 2, 0, 1, 6, 0, 5, 0, 0, 0, 1, 0, 0, 0, 1, 5, 0, 0, 0] ?_ | refine g1 @h5 ?_ | refine d1 @h5 ?_ | refine j1 @h5 (fun hg hgo => ?_) fun hg hgo => ?_ | refine ek_ret ?_ | refine ek_norm ?_ | refine ⟨by omega, ?_⟩ | rfl | trivial | intro _
          | false => refine cw (keepF Tryz.f115) Tryz.f115 false ?_
                     repeat' first | refine ck_intro (by first | exact cf | exact qd | exact qa | exact qb | exact qn | exact cd | exact ca | exact cb) ?_ ?_ | refine pdx 13 [0, 1, 3, 7, 3, 19, 51, 3, 255, 511, 1023, 2047, 4095, 2047, 10239, 26623, 2047, 131071, 262143, 524287, 1048575, 2097151, 1048575, 5242879, 13631487, 1048575, 67108863, 134217727, 268435455, 536870911, 1073741823, 2147483647, 4294967295, 8589934591, 17179869183, 34359738367, 68719476735, 137438953471, 274877906943] [0, 0, 0, 2, 0, 1, 6, 0, 5, 0, 0, 0, 2, 0, 1, 6, 0, 5, 0, 0, 0, 2, 0, 1, 6, 0, 5, 0, 0, 0, 1, 0, 0, 0, 1, 5, 0, 0, 0] ?_ | refine g1 @h5 ?_ | refine d1 @h5 ?_ | refine j1 @h5 (fun hg hgo => ?_) fun hg hgo => ?_ | refine ek_ret ?_ | refine ek_norm ?_ | refine ⟨by omega, ?_⟩ | rfl | trivial | intro _
theorem v_termOk (x : TermD) (blocks values : Int) (hb : 0 ≤ blocks ∧ blocks ≤ 1000000000) : C2 CC F_impl_termOk [.fv (termF x), iv blocks, iv values] (bv (termB x blocks values)) [] := by
  obtain ⟨k, a, to, els⟩ := x
  have hp : ∀ n v, partB n true v = valB n v := fun n v => by unfold partB; simp
  refine cw (keepF Tryz.f109) Tryz.f109 false ?_
  repeat' first | refine ck_intro (by first | exact v_partOk _ _ _ | exact v_in _ _ _) ?_ ?_ | refine g1 @hp ?_ | refine d1 @hp ?_ | refine j1 @hp (fun hg hgo => ?_) fun hg hgo => ?_ | refine ek_ret ?_ | refine ek_norm ?_ | refine ⟨by omega, ?_⟩ | rfl | trivial | intro _
  all_goals first | rfl | (simp_all [beqD, termB, rgB, beqT, beqF]; done) | ((try simp only [termB, rgB, beqT, beqF]); (repeat' split) <;> first | omega | (simp_all [beqD]; done) | (simp_all [beqD]; omega)) | (simp_all [beqD, termB, rgB, beqT, beqF]; (repeat' split) <;> first | rfl | omega | (simp_all; done))
theorem v_phiOk_1 (x a : ArmD) : C2 CC F_impl_phiOk_1 [.fv (armF x), .fv (.fp (armF a))] (bv (decide (x.fr = a.fr))) [] := by
  obtain ⟨f, v⟩ := x
  obtain ⟨f', v'⟩ := a
  refine cw (keepF Tryz.f145) Tryz.f145 false ?_
  repeat' first | refine g0 ?_ | refine d0 ?_ | refine j0 (fun hg hgo => ?_) fun hg hgo => ?_ | refine ek_ret ?_ | refine ek_norm ?_ | refine ⟨by omega, ?_⟩ | rfl | trivial | intro _
  all_goals first | rfl | (simp_all [beqD, beqD]; done) | ((try simp only [beqD]); (repeat' split) <;> first | omega | (simp_all [beqD]; done) | (simp_all [beqD]; omega)) | (simp_all [beqD, beqD]; (repeat' split) <;> first | rfl | omega | (simp_all; done))
theorem armB_any (pre : List ArmD) (a : ArmD) (blocks values : Int) : armB pre a blocks values = (rgB a.fr 0 (blocks - 1) && valB a.v values && !(pre.any fun x => decide (x.fr = a.fr))) := by
  unfold armB
  rw [List.not_any_eq_all_not]
theorem v_phiOk (x : PhiD) (blocks values : Int) (hb : 0 ≤ blocks ∧ blocks ≤ 1000000000) (hx : x.ok) : C2 CC F_impl_phiOk [.fv (phiF x), iv blocks, iv values] (bv (phiB x blocks values)) [] := by
  obtain ⟨d, arms⟩ := x
  replace hx : arms.length < 1073741824 := hx
  have hpt : ∀ n v, partB n true v = valB n v := fun n v => by unfold partB; simp
  unfold phiB
  refine cw (keepF Tryz.f112) Tryz.f112 false ?_
  repeat' first | refine g0 ?_ | refine d0 ?_ | refine j0 (fun hg hgo => ?_) fun hg hgo => ?_ | refine ek_ret ?_ | refine ek_norm ?_ | refine ⟨by omega, ?_⟩ | rfl | trivial | intro _
  refine pw_loop (fun m st => ∃ j : Nat, j + m = arms.length ∧ (∀ i (h : i < arms.length), i < j → armB ([] ++ arms.take i) arms[i] blocks values = true) ∧ st = [(1, iv blocks), (2, iv values), (3, .box (.fv (phiF ⟨d, arms⟩))), (10, .fv (.row 2 (arms.map armF))), (11, iv arms.length), (12, iv j)]) arms.length [(1, iv blocks), (2, iv values), (3, .box (.fv (phiF ⟨d, arms⟩))), (10, .fv (.row 2 (arms.map armF))), (11, iv arms.length), (12, iv (0 : Nat))] (sub_of ?_) ⟨0, by omega, fun i _ hi => by omega, rfl⟩ ?_
  · exact dn
  · rintro m st ⟨j, hj, hb2, rfl⟩
    have hsp := armsB_split blocks values arms [] j hb2
    by_cases hlt : j < arms.length
    · have hd : decide ((j : Int) < (arms.length : Int)) = true := by rw [decide_eq_true_eq]; omega
      have hml : j < (arms.map armF).length := by rw [List.length_map]; exact hlt
      have hsl : List.take j (arms.map armF) = (arms.take j).map armF := by rw [List.map_take]
      have hle : j ≤ arms.length := by omega
      have hj0 : (0 : Int) ≤ (j : Int) := by omega
      rw [List.nil_append, List.drop_eq_getElem_cons hlt, armsB] at hsp
      rw [hsp]
      replace hb2 : True → _ := fun _ => hb2
      have hcf := v_ContainsFunc_Arm F_impl_phiOk_1 [.fp (armF arms[j])] (fun x => decide (x.fr = arms[j].fr)) (fun i => rfl) (by decide) (arms.take j) (by rw [List.length_take]; omega) (fun x _ => v_phiOk_1 x arms[j])
      repeat' first | refine ck_intro (by first | exact v_partOk _ _ _ | exact v_in _ _ _ | exact hcf) ?_ ?_ | refine g8 @hd @hpt @hsl @hle @hj0 @Nat.zero_le @List.drop_zero.{0} @Nat.sub_zero ?_ | refine d8 @hd @hpt @hsl @hle @hj0 @Nat.zero_le @List.drop_zero.{0} @Nat.sub_zero ?_ | refine j8 @hd @hpt @hsl @hle @hj0 @Nat.zero_le @List.drop_zero.{0} @Nat.sub_zero (fun hg hgo => ?_) fun hg hgo => ?_ | refine ek_ret ?_ | refine ek_norm ?_ | refine ⟨by omega, ?_⟩ | rfl | trivial | intro _
      · have : armB (arms.take j) arms[j] blocks values = false := by
          unfold armB rgB
          rcases hgo with h | h
          · simp [h]
          · rw [decide_eq_false h]; simp
        rw [this, Bool.false_and, Bool.and_false]
      · have : armB (arms.take j) arms[j] blocks values = false := by unfold armB; simp [hgo]
        rw [this, Bool.false_and, Bool.and_false]
      · have : armB (arms.take j) arms[j] blocks values = false := by
          rw [armB_any, show ((arms.take j).any fun x => decide (x.fr = arms[j].fr)) = true by assumption]; simp
        rw [this, Bool.false_and, Bool.and_false]
      · have hq : arms[j].fr ≥ 0 ∧ arms[j].fr ≤ blocks - 1 := by assumption
        have harm : armB (arms.take j) arms[j] blocks values = true := by
          rw [armB_any, show ((arms.take j).any fun x => decide (x.fr = arms[j].fr)) = false by assumption, show valB arms[j].v values = true by assumption]
          unfold rgB
          rw [decide_eq_true hq.1, decide_eq_true hq.2]; rfl
        refine rd_norm [(1, iv blocks), (2, iv values), (3, .box (.fv (phiF ⟨d, arms⟩))), (10, .fv (.row 2 (arms.map armF))), (11, iv arms.length), (12, iv (j + 1 : Nat))] (sub_of ?_) (m - 1) (by omega) ⟨j + 1, by omega, fun i hi h1 => ?_, rfl⟩
        · exact dn
        · by_cases h2 : i = j
          · subst h2; exact harm
          · exact hb2 trivial i hi (by omega)
    · have hd : decide ((j : Int) < (arms.length : Int)) = false := by rw [decide_eq_false_iff_not]; omega
      rw [hsp, List.drop_eq_nil_of_le (by omega), armsB]
      repeat' first | refine ck_intro (by first | exact v_partOk _ _ _) ?_ ?_ | refine g2 @hd @hpt ?_ | refine d2 @hd @hpt ?_ | refine j2 @hd @hpt (fun hg hgo => ?_) fun hg hgo => ?_ | refine ek_ret ?_ | refine ek_norm ?_ | refine ⟨by omega, ?_⟩ | rfl | trivial | intro _
      all_goals first | (simp; done) | (rename_i hv _; simp [hv]; done) | (simp_all; done) | (simp_all; omega)
end Go.Proofs.YtbfphlaeiahljaaGreatM
