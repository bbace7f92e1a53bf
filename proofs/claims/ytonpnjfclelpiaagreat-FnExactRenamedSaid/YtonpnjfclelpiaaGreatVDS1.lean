import Derived.Test.YtonpnjfclelpiaaGreatVDV
namespace Go.Proofs.YtonpnjfclelpiaaGreatM
open Go
open Int renaming cast_ofNat_Int → Q0, reduceLT → Q1, reduceLE → Q2, reduceGT → Q3, reduceGE → Q4, reduceEq → Q5, reduceBEq → Q6, reduceAdd → Q7, reduceSub → Q8, reduceToNat → Q9
open Nat renaming reduceShiftRight → Z0, reduceMod → Z1, reduceLT → Z2, reduceEqDiff → Z3, reduceAdd → Z4, reduceMul → Z5, reduceLeDiff → Z6, reduceBEq → Z7
open List renaming getElem?_eq_getElem → L0, length_map → L1, length_cons → L2, length_nil → L3
open Bool renaming and_eq_true → B0, or_eq_false_iff → B1, or_eq_true → B2, and_eq_false_iff → B3, not_eq_true' → B4, not_eq_false' → B5
set_option linter.unusedVariables false
set_option linter.unusedSimpArgs false
set_option maxRecDepth 100000
set_option maxHeartbeats 4000000
attribute [local irreducible] PW CK EK C2 PXM XK LX axK rdK thK blK FK SK LK AK GK CD unK TT keK
def MU (f : FuncId) (i : Nat) : Nat := match f with
 | 5 => 1
 | 8 => 1
 | 9 => 1
 | 10 => 1
 | 11 => (if i = 0 then 2 else 0)
 | 12 => (if i = 0 then 2 else 0)
 | 13 => (if i = 0 then 1 else 0)
 | 15 => 1
 | 20 => 1
 | 24 => (if i = 0 then 2 else 0)
 | 27 => 1
 | 32 => 1
 | 36 => 1
 | 37 => 1
 | 40 => (if i = 0 then 2 else 0)
 | 41 => (if i = 0 then 2 else 0)
 | 46 => 1
 | 52 => 1
 | 58 => (if i = 2 then 1 else 0)
 | 66 => (if i = 0 then 2 else 0)
 | 73 => (if i = 3 then 1 else 0)
 | 85 => 1
 | 95 => (if i = 2 then 1 else 0)
 | 105 => (if i = 2 then 1 else 0)
 | _ => 0
@[go_sem] theorem mu_4 {i : Nat} : MU 4 i = 0 := nr rfl
@[go_sem] theorem mu_5 {i : Nat} : MU 5 i = 1 := nr rfl
@[go_sem] theorem mu_6 {i : Nat} : MU 6 i = 0 := nr rfl
@[go_sem] theorem mu_7 {i : Nat} : MU 7 i = 0 := nr rfl
@[go_sem] theorem mu_8 {i : Nat} : MU 8 i = 1 := nr rfl
@[go_sem] theorem mu_9 {i : Nat} : MU 9 i = 1 := nr rfl
@[go_sem] theorem mu_10 {i : Nat} : MU 10 i = 1 := nr rfl
@[go_sem] theorem mu_11 {i : Nat} : MU 11 i = (if i = 0 then 2 else 0) := nr rfl
@[go_sem] theorem mu_12 {i : Nat} : MU 12 i = (if i = 0 then 2 else 0) := nr rfl
@[go_sem] theorem mu_13 {i : Nat} : MU 13 i = (if i = 0 then 1 else 0) := nr rfl
@[go_sem] theorem mu_14 {i : Nat} : MU 14 i = 0 := nr rfl
@[go_sem] theorem mu_15 {i : Nat} : MU 15 i = 1 := nr rfl
@[go_sem] theorem mu_16 {i : Nat} : MU 16 i = 0 := nr rfl
@[go_sem] theorem mu_17 {i : Nat} : MU 17 i = 0 := nr rfl
@[go_sem] theorem mu_18 {i : Nat} : MU 18 i = 0 := nr rfl
@[go_sem] theorem mu_19 {i : Nat} : MU 19 i = 0 := nr rfl
@[go_sem] theorem mu_20 {i : Nat} : MU 20 i = 1 := nr rfl
@[go_sem] theorem mu_21 {i : Nat} : MU 21 i = 0 := nr rfl
@[go_sem] theorem mu_22 {i : Nat} : MU 22 i = 0 := nr rfl
@[go_sem] theorem mu_23 {i : Nat} : MU 23 i = 0 := nr rfl
@[go_sem] theorem mu_24 {i : Nat} : MU 24 i = (if i = 0 then 2 else 0) := nr rfl
@[go_sem] theorem mu_25 {i : Nat} : MU 25 i = 0 := nr rfl
@[go_sem] theorem mu_26 {i : Nat} : MU 26 i = 0 := nr rfl
@[go_sem] theorem mu_27 {i : Nat} : MU 27 i = 1 := nr rfl
@[go_sem] theorem mu_28 {i : Nat} : MU 28 i = 0 := nr rfl
@[go_sem] theorem mu_29 {i : Nat} : MU 29 i = 0 := nr rfl
@[go_sem] theorem mu_30 {i : Nat} : MU 30 i = 0 := nr rfl
@[go_sem] theorem mu_31 {i : Nat} : MU 31 i = 0 := nr rfl
@[go_sem] theorem mu_32 {i : Nat} : MU 32 i = 1 := nr rfl
@[go_sem] theorem mu_33 {i : Nat} : MU 33 i = 0 := nr rfl
@[go_sem] theorem mu_34 {i : Nat} : MU 34 i = 0 := nr rfl
@[go_sem] theorem mu_35 {i : Nat} : MU 35 i = 0 := nr rfl
@[go_sem] theorem mu_36 {i : Nat} : MU 36 i = 1 := nr rfl
@[go_sem] theorem mu_37 {i : Nat} : MU 37 i = 1 := nr rfl
@[go_sem] theorem mu_38 {i : Nat} : MU 38 i = 0 := nr rfl
@[go_sem] theorem mu_39 {i : Nat} : MU 39 i = 0 := nr rfl
@[go_sem] theorem mu_40 {i : Nat} : MU 40 i = (if i = 0 then 2 else 0) := nr rfl
@[go_sem] theorem mu_41 {i : Nat} : MU 41 i = (if i = 0 then 2 else 0) := nr rfl
@[go_sem] theorem mu_42 {i : Nat} : MU 42 i = 0 := nr rfl
@[go_sem] theorem mu_43 {i : Nat} : MU 43 i = 0 := nr rfl
@[go_sem] theorem mu_44 {i : Nat} : MU 44 i = 0 := nr rfl
@[go_sem] theorem mu_45 {i : Nat} : MU 45 i = 0 := nr rfl
@[go_sem] theorem mu_46 {i : Nat} : MU 46 i = 1 := nr rfl
@[go_sem] theorem mu_47 {i : Nat} : MU 47 i = 0 := nr rfl
@[go_sem] theorem mu_48 {i : Nat} : MU 48 i = 0 := nr rfl
@[go_sem] theorem mu_49 {i : Nat} : MU 49 i = 0 := nr rfl
@[go_sem] theorem mu_50 {i : Nat} : MU 50 i = 0 := nr rfl
@[go_sem] theorem mu_51 {i : Nat} : MU 51 i = 0 := nr rfl
@[go_sem] theorem mu_52 {i : Nat} : MU 52 i = 1 := nr rfl
@[go_sem] theorem mu_53 {i : Nat} : MU 53 i = 0 := nr rfl
@[go_sem] theorem mu_55 {i : Nat} : MU 55 i = 0 := nr rfl
@[go_sem] theorem mu_56 {i : Nat} : MU 56 i = 0 := nr rfl
@[go_sem] theorem mu_57 {i : Nat} : MU 57 i = 0 := nr rfl
@[go_sem] theorem mu_58 {i : Nat} : MU 58 i = (if i = 2 then 1 else 0) := nr rfl
@[go_sem] theorem mu_59 {i : Nat} : MU 59 i = 0 := nr rfl
@[go_sem] theorem mu_60 {i : Nat} : MU 60 i = 0 := nr rfl
@[go_sem] theorem mu_61 {i : Nat} : MU 61 i = 0 := nr rfl
@[go_sem] theorem mu_62 {i : Nat} : MU 62 i = 0 := nr rfl
@[go_sem] theorem mu_63 {i : Nat} : MU 63 i = 0 := nr rfl
@[go_sem] theorem mu_64 {i : Nat} : MU 64 i = 0 := nr rfl
@[go_sem] theorem mu_65 {i : Nat} : MU 65 i = 0 := nr rfl
@[go_sem] theorem mu_66 {i : Nat} : MU 66 i = (if i = 0 then 2 else 0) := nr rfl
@[go_sem] theorem mu_67 {i : Nat} : MU 67 i = 0 := nr rfl
@[go_sem] theorem mu_68 {i : Nat} : MU 68 i = 0 := nr rfl
@[go_sem] theorem mu_69 {i : Nat} : MU 69 i = 0 := nr rfl
@[go_sem] theorem mu_70 {i : Nat} : MU 70 i = 0 := nr rfl
@[go_sem] theorem mu_71 {i : Nat} : MU 71 i = 0 := nr rfl
@[go_sem] theorem mu_72 {i : Nat} : MU 72 i = 0 := nr rfl
@[go_sem] theorem mu_73 {i : Nat} : MU 73 i = (if i = 3 then 1 else 0) := nr rfl
@[go_sem] theorem mu_74 {i : Nat} : MU 74 i = 0 := nr rfl
@[go_sem] theorem mu_75 {i : Nat} : MU 75 i = 0 := nr rfl
@[go_sem] theorem mu_77 {i : Nat} : MU 77 i = 0 := nr rfl
@[go_sem] theorem mu_78 {i : Nat} : MU 78 i = 0 := nr rfl
@[go_sem] theorem mu_80 {i : Nat} : MU 80 i = 0 := nr rfl
@[go_sem] theorem mu_81 {i : Nat} : MU 81 i = 0 := nr rfl
@[go_sem] theorem mu_83 {i : Nat} : MU 83 i = 0 := nr rfl
@[go_sem] theorem mu_84 {i : Nat} : MU 84 i = 0 := nr rfl
@[go_sem] theorem mu_85 {i : Nat} : MU 85 i = 1 := nr rfl
@[go_sem] theorem mu_86 {i : Nat} : MU 86 i = 0 := nr rfl
@[go_sem] theorem mu_87 {i : Nat} : MU 87 i = 0 := nr rfl
@[go_sem] theorem mu_88 {i : Nat} : MU 88 i = 0 := nr rfl
@[go_sem] theorem mu_89 {i : Nat} : MU 89 i = 0 := nr rfl
@[go_sem] theorem mu_90 {i : Nat} : MU 90 i = 0 := nr rfl
@[go_sem] theorem mu_91 {i : Nat} : MU 91 i = 0 := nr rfl
@[go_sem] theorem mu_92 {i : Nat} : MU 92 i = 0 := nr rfl
@[go_sem] theorem mu_93 {i : Nat} : MU 93 i = 0 := nr rfl
@[go_sem] theorem mu_94 {i : Nat} : MU 94 i = 0 := nr rfl
@[go_sem] theorem mu_95 {i : Nat} : MU 95 i = (if i = 2 then 1 else 0) := nr rfl
@[go_sem] theorem mu_96 {i : Nat} : MU 96 i = 0 := nr rfl
@[go_sem] theorem mu_97 {i : Nat} : MU 97 i = 0 := nr rfl
@[go_sem] theorem mu_98 {i : Nat} : MU 98 i = 0 := nr rfl
@[go_sem] theorem mu_99 {i : Nat} : MU 99 i = 0 := nr rfl
@[go_sem] theorem mu_100 {i : Nat} : MU 100 i = 0 := nr rfl
@[go_sem] theorem mu_102 {i : Nat} : MU 102 i = 0 := nr rfl
@[go_sem] theorem mu_103 {i : Nat} : MU 103 i = 0 := nr rfl
@[go_sem] theorem mu_104 {i : Nat} : MU 104 i = 0 := nr rfl
@[go_sem] theorem mu_105 {i : Nat} : MU 105 i = (if i = 2 then 1 else 0) := nr rfl
@[go_sem] theorem mu_106 {i : Nat} : MU 106 i = 0 := nr rfl
@[go_sem] theorem mu_107 {i : Nat} : MU 107 i = 0 := nr rfl
@[go_sem] theorem mu_108 {i : Nat} : MU 108 i = 0 := nr rfl
@[go_sem] theorem mu_109 {i : Nat} : MU 109 i = 0 := nr rfl
theorem beqD {a b : Int} : (a == b) = decide (a = b) := by rw [Bool.eq_iff_iff]; simp
abbrev iv (n : Int) : DV := .fv (.int .i64 n)
abbrev bv (b : Bool) : DV := .fv (.bool b)
def I64 (n : Int) : Prop := -9223372036854775808 ≤ n ∧ n ≤ 9223372036854775807
theorem g0 { P Q : Prop} (h : Q) (e : P = Q := by simp (maxSteps := 1000000) only [go_sem, Int.cast_ofNat_Int, Int.reduceLT, Int.reduceLE, Int.reduceGT, Int.reduceGE, Int.reduceEq, Int.reduceBEq, Int.reduceAdd, Int.reduceSub, Int.reduceToNat, Nat.reduceShiftRight, Nat.reduceMod, Nat.reduceLT, Nat.reduceEqDiff, Nat.reduceAdd, Nat.reduceMul, Nat.reduceLeDiff, Nat.reduceBEq, reduceIte, List.getElem_map]; first | done | rfl) : P := (e).mpr h
theorem d0 { P Q : Prop} (h : Q) (e : P = Q := by simp (disch := first | omega | assumption) only [wrapI, ia3_hdrN, ia3_rowN, ia3_hdrI, ia3_rowI, List.getElem?_eq_getElem, List.length_map, List.length_cons, List.length_nil, List.getElem_map]; first | done | rfl) : P := (e).mpr h
theorem j0 {b : Bool} {B C D E R T : Prop} (h1 : b = true → R → D) (h2 : b = false → T → E) (r1 : b = true → R := by intro hg; (try simp only [Bool.and_eq_true, Bool.or_eq_false_iff, Bool.or_eq_true, Bool.and_eq_false_iff, Bool.not_eq_true', Bool.not_eq_false', decide_eq_true_eq, decide_eq_false_iff_not, beqT, beqF, bneT, bneF] at hg); exact hg) (r2 : b = false → T := by intro hg; (try simp only [Bool.and_eq_true, Bool.or_eq_false_iff, Bool.or_eq_true, Bool.and_eq_false_iff, Bool.not_eq_true', Bool.not_eq_false', decide_eq_true_eq, decide_eq_false_iff_not, beqT, beqF, bneT, bneF] at hg); exact hg) (e1 : b = true → B = D := by intro hg; (try simp (disch := first | omega | assumption) only [wrapI, ia3_hdrN, ia3_rowN, ia3_hdrI, ia3_rowI, List.getElem?_eq_getElem, List.length_map, List.length_cons, List.length_nil, List.getElem_map]); (try simp only [hg]); (first | simp only [eq_true (beq_iff_eq.1 hg)] | simp only [eq_false (beq_eq_false_iff_ne.1 hg)] | simp only [eq_true (of_decide_eq_true hg)] | simp only [eq_false (of_decide_eq_false hg)] | skip); (first | done | rfl)) (e2 : b = false → C = E := by intro hg; (try simp (disch := first | omega | assumption) only [wrapI, ia3_hdrN, ia3_rowN, ia3_hdrI, ia3_rowI, List.getElem?_eq_getElem, List.length_map, List.length_cons, List.length_nil, List.getElem_map]); (try simp only [hg]); (first | simp only [eq_true (beq_iff_eq.1 hg)] | simp only [eq_false (beq_eq_false_iff_ne.1 hg)] | simp only [eq_true (of_decide_eq_true hg)] | simp only [eq_false (of_decide_eq_false hg)] | skip); (first | done | rfl)) : TT b B C .mk .mk := tt_i (fun g => (e1 (tb_eq g)).mpr (h1 (tb_eq g) (r1 (tb_eq g)))) fun g => (e2 (tb_eq g)).mpr (h2 (tb_eq g) (r2 (tb_eq g)))
theorem g1 {A0 P Q : Prop} (a0 : A0) (h : Q) (e : A0 → P = Q := by intro a0; simp (maxSteps := 1000000) only [go_sem, Int.cast_ofNat_Int, Int.reduceLT, Int.reduceLE, Int.reduceGT, Int.reduceGE, Int.reduceEq, Int.reduceBEq, Int.reduceAdd, Int.reduceSub, Int.reduceToNat, Nat.reduceShiftRight, Nat.reduceMod, Nat.reduceLT, Nat.reduceEqDiff, Nat.reduceAdd, Nat.reduceMul, Nat.reduceLeDiff, Nat.reduceBEq, reduceIte, List.getElem_map, a0]; first | done | rfl) : P := (e a0).mpr h
theorem d1 {A0 P Q : Prop} (a0 : A0) (h : Q) (e : A0 → P = Q := by intro a0; simp (disch := first | omega | assumption) only [wrapI, ia3_hdrN, ia3_rowN, ia3_hdrI, ia3_rowI, List.getElem?_eq_getElem, List.length_map, List.length_cons, List.length_nil, List.getElem_map, a0]; first | done | rfl) : P := (e a0).mpr h
theorem j1 {b : Bool} {A0 B C D E R T : Prop} (a0 : A0) (h1 : b = true → R → D) (h2 : b = false → T → E) (r1 : b = true → R := by intro hg; (try simp only [Bool.and_eq_true, Bool.or_eq_false_iff, Bool.or_eq_true, Bool.and_eq_false_iff, Bool.not_eq_true', Bool.not_eq_false', decide_eq_true_eq, decide_eq_false_iff_not, beqT, beqF, bneT, bneF] at hg); exact hg) (r2 : b = false → T := by intro hg; (try simp only [Bool.and_eq_true, Bool.or_eq_false_iff, Bool.or_eq_true, Bool.and_eq_false_iff, Bool.not_eq_true', Bool.not_eq_false', decide_eq_true_eq, decide_eq_false_iff_not, beqT, beqF, bneT, bneF] at hg); exact hg) (e1 : A0 → b = true → B = D := by intro a0; intro hg; (try simp (disch := first | omega | assumption) only [wrapI, ia3_hdrN, ia3_rowN, ia3_hdrI, ia3_rowI, List.getElem?_eq_getElem, List.length_map, List.length_cons, List.length_nil, List.getElem_map, a0]); (try simp only [hg]); (first | simp only [eq_true (beq_iff_eq.1 hg)] | simp only [eq_false (beq_eq_false_iff_ne.1 hg)] | simp only [eq_true (of_decide_eq_true hg)] | simp only [eq_false (of_decide_eq_false hg)] | skip); (first | done | rfl)) (e2 : A0 → b = false → C = E := by intro a0; intro hg; (try simp (disch := first | omega | assumption) only [wrapI, ia3_hdrN, ia3_rowN, ia3_hdrI, ia3_rowI, List.getElem?_eq_getElem, List.length_map, List.length_cons, List.length_nil, List.getElem_map, a0]); (try simp only [hg]); (first | simp only [eq_true (beq_iff_eq.1 hg)] | simp only [eq_false (beq_eq_false_iff_ne.1 hg)] | simp only [eq_true (of_decide_eq_true hg)] | simp only [eq_false (of_decide_eq_false hg)] | skip); (first | done | rfl)) : TT b B C .mk .mk := tt_i (fun g => (e1 a0 (tb_eq g)).mpr (h1 (tb_eq g) (r1 (tb_eq g)))) fun g => (e2 a0 (tb_eq g)).mpr (h2 (tb_eq g) (r2 (tb_eq g)))
theorem g2 {A0 A1 P Q : Prop} (a0 : A0) (a1 : A1) (h : Q) (e : A0 → A1 → P = Q := by intro a0 a1; simp (maxSteps := 1000000) only [go_sem, Int.cast_ofNat_Int, Int.reduceLT, Int.reduceLE, Int.reduceGT, Int.reduceGE, Int.reduceEq, Int.reduceBEq, Int.reduceAdd, Int.reduceSub, Int.reduceToNat, Nat.reduceShiftRight, Nat.reduceMod, Nat.reduceLT, Nat.reduceEqDiff, Nat.reduceAdd, Nat.reduceMul, Nat.reduceLeDiff, Nat.reduceBEq, reduceIte, List.getElem_map, a0, a1]; first | done | rfl) : P := (e a0 a1).mpr h
theorem d2 {A0 A1 P Q : Prop} (a0 : A0) (a1 : A1) (h : Q) (e : A0 → A1 → P = Q := by intro a0 a1; simp (disch := first | omega | assumption) only [wrapI, ia3_hdrN, ia3_rowN, ia3_hdrI, ia3_rowI, List.getElem?_eq_getElem, List.length_map, List.length_cons, List.length_nil, List.getElem_map, a0, a1]; first | done | rfl) : P := (e a0 a1).mpr h
theorem j2 {b : Bool} {A0 A1 B C D E R T : Prop} (a0 : A0) (a1 : A1) (h1 : b = true → R → D) (h2 : b = false → T → E) (r1 : b = true → R := by intro hg; (try simp only [Bool.and_eq_true, Bool.or_eq_false_iff, Bool.or_eq_true, Bool.and_eq_false_iff, Bool.not_eq_true', Bool.not_eq_false', decide_eq_true_eq, decide_eq_false_iff_not, beqT, beqF, bneT, bneF] at hg); exact hg) (r2 : b = false → T := by intro hg; (try simp only [Bool.and_eq_true, Bool.or_eq_false_iff, Bool.or_eq_true, Bool.and_eq_false_iff, Bool.not_eq_true', Bool.not_eq_false', decide_eq_true_eq, decide_eq_false_iff_not, beqT, beqF, bneT, bneF] at hg); exact hg) (e1 : A0 → A1 → b = true → B = D := by intro a0 a1; intro hg; (try simp (disch := first | omega | assumption) only [wrapI, ia3_hdrN, ia3_rowN, ia3_hdrI, ia3_rowI, List.getElem?_eq_getElem, List.length_map, List.length_cons, List.length_nil, List.getElem_map, a0, a1]); (try simp only [hg]); (first | simp only [eq_true (beq_iff_eq.1 hg)] | simp only [eq_false (beq_eq_false_iff_ne.1 hg)] | simp only [eq_true (of_decide_eq_true hg)] | simp only [eq_false (of_decide_eq_false hg)] | skip); (first | done | rfl)) (e2 : A0 → A1 → b = false → C = E := by intro a0 a1; intro hg; (try simp (disch := first | omega | assumption) only [wrapI, ia3_hdrN, ia3_rowN, ia3_hdrI, ia3_rowI, List.getElem?_eq_getElem, List.length_map, List.length_cons, List.length_nil, List.getElem_map, a0, a1]); (try simp only [hg]); (first | simp only [eq_true (beq_iff_eq.1 hg)] | simp only [eq_false (beq_eq_false_iff_ne.1 hg)] | simp only [eq_true (of_decide_eq_true hg)] | simp only [eq_false (of_decide_eq_false hg)] | skip); (first | done | rfl)) : TT b B C .mk .mk := tt_i (fun g => (e1 a0 a1 (tb_eq g)).mpr (h1 (tb_eq g) (r1 (tb_eq g)))) fun g => (e2 a0 a1 (tb_eq g)).mpr (h2 (tb_eq g) (r2 (tb_eq g)))
theorem g3 {A0 A1 A2 P Q : Prop} (a0 : A0) (a1 : A1) (a2 : A2) (h : Q) (e : A0 → A1 → A2 → P = Q := by intro a0 a1 a2; simp (maxSteps := 1000000) only [go_sem, Int.cast_ofNat_Int, Int.reduceLT, Int.reduceLE, Int.reduceGT, Int.reduceGE, Int.reduceEq, Int.reduceBEq, Int.reduceAdd, Int.reduceSub, Int.reduceToNat, Nat.reduceShiftRight, Nat.reduceMod, Nat.reduceLT, Nat.reduceEqDiff, Nat.reduceAdd, Nat.reduceMul, Nat.reduceLeDiff, Nat.reduceBEq, reduceIte, List.getElem_map, a0, a1, a2]; first | done | rfl) : P := (e a0 a1 a2).mpr h
theorem d3 {A0 A1 A2 P Q : Prop} (a0 : A0) (a1 : A1) (a2 : A2) (h : Q) (e : A0 → A1 → A2 → P = Q := by intro a0 a1 a2; simp (disch := first | omega | assumption) only [wrapI, ia3_hdrN, ia3_rowN, ia3_hdrI, ia3_rowI, List.getElem?_eq_getElem, List.length_map, List.length_cons, List.length_nil, List.getElem_map, a0, a1, a2]; first | done | rfl) : P := (e a0 a1 a2).mpr h
theorem j3 {b : Bool} {A0 A1 A2 B C D E R T : Prop} (a0 : A0) (a1 : A1) (a2 : A2) (h1 : b = true → R → D) (h2 : b = false → T → E) (r1 : b = true → R := by intro hg; (try simp only [Bool.and_eq_true, Bool.or_eq_false_iff, Bool.or_eq_true, Bool.and_eq_false_iff, Bool.not_eq_true', Bool.not_eq_false', decide_eq_true_eq, decide_eq_false_iff_not, beqT, beqF, bneT, bneF] at hg); exact hg) (r2 : b = false → T := by intro hg; (try simp only [Bool.and_eq_true, Bool.or_eq_false_iff, Bool.or_eq_true, Bool.and_eq_false_iff, Bool.not_eq_true', Bool.not_eq_false', decide_eq_true_eq, decide_eq_false_iff_not, beqT, beqF, bneT, bneF] at hg); exact hg) (e1 : A0 → A1 → A2 → b = true → B = D := by intro a0 a1 a2; intro hg; (try simp (disch := first | omega | assumption) only [wrapI, ia3_hdrN, ia3_rowN, ia3_hdrI, ia3_rowI, List.getElem?_eq_getElem, List.length_map, List.length_cons, List.length_nil, List.getElem_map, a0, a1, a2]); (try simp only [hg]); (first | simp only [eq_true (beq_iff_eq.1 hg)] | simp only [eq_false (beq_eq_false_iff_ne.1 hg)] | simp only [eq_true (of_decide_eq_true hg)] | simp only [eq_false (of_decide_eq_false hg)] | skip); (first | done | rfl)) (e2 : A0 → A1 → A2 → b = false → C = E := by intro a0 a1 a2; intro hg; (try simp (disch := first | omega | assumption) only [wrapI, ia3_hdrN, ia3_rowN, ia3_hdrI, ia3_rowI, List.getElem?_eq_getElem, List.length_map, List.length_cons, List.length_nil, List.getElem_map, a0, a1, a2]); (try simp only [hg]); (first | simp only [eq_true (beq_iff_eq.1 hg)] | simp only [eq_false (beq_eq_false_iff_ne.1 hg)] | simp only [eq_true (of_decide_eq_true hg)] | simp only [eq_false (of_decide_eq_false hg)] | skip); (first | done | rfl)) : TT b B C .mk .mk := tt_i (fun g => (e1 a0 a1 a2 (tb_eq g)).mpr (h1 (tb_eq g) (r1 (tb_eq g)))) fun g => (e2 a0 a1 a2 (tb_eq g)).mpr (h2 (tb_eq g) (r2 (tb_eq g)))
theorem g4 {A0 A1 A2 A3 P Q : Prop} (a0 : A0) (a1 : A1) (a2 : A2) (a3 : A3) (h : Q) (e : A0 → A1 → A2 → A3 → P = Q := by intro a0 a1 a2 a3; simp (maxSteps := 1000000) only [go_sem, Int.cast_ofNat_Int, Int.reduceLT, Int.reduceLE, Int.reduceGT, Int.reduceGE, Int.reduceEq, Int.reduceBEq, Int.reduceAdd, Int.reduceSub, Int.reduceToNat, Nat.reduceShiftRight, Nat.reduceMod, Nat.reduceLT, Nat.reduceEqDiff, Nat.reduceAdd, Nat.reduceMul, Nat.reduceLeDiff, Nat.reduceBEq, reduceIte, List.getElem_map, a0, a1, a2, a3]; first | done | rfl) : P := (e a0 a1 a2 a3).mpr h
theorem d4 {A0 A1 A2 A3 P Q : Prop} (a0 : A0) (a1 : A1) (a2 : A2) (a3 : A3) (h : Q) (e : A0 → A1 → A2 → A3 → P = Q := by intro a0 a1 a2 a3; simp (disch := first | omega | assumption) only [wrapI, ia3_hdrN, ia3_rowN, ia3_hdrI, ia3_rowI, List.getElem?_eq_getElem, List.length_map, List.length_cons, List.length_nil, List.getElem_map, a0, a1, a2, a3]; first | done | rfl) : P := (e a0 a1 a2 a3).mpr h
theorem j4 {b : Bool} {A0 A1 A2 A3 B C D E R T : Prop} (a0 : A0) (a1 : A1) (a2 : A2) (a3 : A3) (h1 : b = true → R → D) (h2 : b = false → T → E) (r1 : b = true → R := by intro hg; (try simp only [Bool.and_eq_true, Bool.or_eq_false_iff, Bool.or_eq_true, Bool.and_eq_false_iff, Bool.not_eq_true', Bool.not_eq_false', decide_eq_true_eq, decide_eq_false_iff_not, beqT, beqF, bneT, bneF] at hg); exact hg) (r2 : b = false → T := by intro hg; (try simp only [Bool.and_eq_true, Bool.or_eq_false_iff, Bool.or_eq_true, Bool.and_eq_false_iff, Bool.not_eq_true', Bool.not_eq_false', decide_eq_true_eq, decide_eq_false_iff_not, beqT, beqF, bneT, bneF] at hg); exact hg) (e1 : A0 → A1 → A2 → A3 → b = true → B = D := by intro a0 a1 a2 a3; intro hg; (try simp (disch := first | omega | assumption) only [wrapI, ia3_hdrN, ia3_rowN, ia3_hdrI, ia3_rowI, List.getElem?_eq_getElem, List.length_map, List.length_cons, List.length_nil, List.getElem_map, a0, a1, a2, a3]); (try simp only [hg]); (first | simp only [eq_true (beq_iff_eq.1 hg)] | simp only [eq_false (beq_eq_false_iff_ne.1 hg)] | simp only [eq_true (of_decide_eq_true hg)] | simp only [eq_false (of_decide_eq_false hg)] | skip); (first | done | rfl)) (e2 : A0 → A1 → A2 → A3 → b = false → C = E := by intro a0 a1 a2 a3; intro hg; (try simp (disch := first | omega | assumption) only [wrapI, ia3_hdrN, ia3_rowN, ia3_hdrI, ia3_rowI, List.getElem?_eq_getElem, List.length_map, List.length_cons, List.length_nil, List.getElem_map, a0, a1, a2, a3]); (try simp only [hg]); (first | simp only [eq_true (beq_iff_eq.1 hg)] | simp only [eq_false (beq_eq_false_iff_ne.1 hg)] | simp only [eq_true (of_decide_eq_true hg)] | simp only [eq_false (of_decide_eq_false hg)] | skip); (first | done | rfl)) : TT b B C .mk .mk := tt_i (fun g => (e1 a0 a1 a2 a3 (tb_eq g)).mpr (h1 (tb_eq g) (r1 (tb_eq g)))) fun g => (e2 a0 a1 a2 a3 (tb_eq g)).mpr (h2 (tb_eq g) (r2 (tb_eq g)))
theorem g5 {A0 A1 A2 A3 A4 P Q : Prop} (a0 : A0) (a1 : A1) (a2 : A2) (a3 : A3) (a4 : A4) (h : Q) (e : A0 → A1 → A2 → A3 → A4 → P = Q := by intro a0 a1 a2 a3 a4; simp (maxSteps := 1000000) only [go_sem, Int.cast_ofNat_Int, Int.reduceLT, Int.reduceLE, Int.reduceGT, Int.reduceGE, Int.reduceEq, Int.reduceBEq, Int.reduceAdd, Int.reduceSub, Int.reduceToNat, Nat.reduceShiftRight, Nat.reduceMod, Nat.reduceLT, Nat.reduceEqDiff, Nat.reduceAdd, Nat.reduceMul, Nat.reduceLeDiff, Nat.reduceBEq, reduceIte, List.getElem_map, a0, a1, a2, a3, a4]; first | done | rfl) : P := (e a0 a1 a2 a3 a4).mpr h
theorem d5 {A0 A1 A2 A3 A4 P Q : Prop} (a0 : A0) (a1 : A1) (a2 : A2) (a3 : A3) (a4 : A4) (h : Q) (e : A0 → A1 → A2 → A3 → A4 → P = Q := by intro a0 a1 a2 a3 a4; simp (disch := first | omega | assumption) only [wrapI, ia3_hdrN, ia3_rowN, ia3_hdrI, ia3_rowI, List.getElem?_eq_getElem, List.length_map, List.length_cons, List.length_nil, List.getElem_map, a0, a1, a2, a3, a4]; first | done | rfl) : P := (e a0 a1 a2 a3 a4).mpr h
theorem j5 {b : Bool} {A0 A1 A2 A3 A4 B C D E R T : Prop} (a0 : A0) (a1 : A1) (a2 : A2) (a3 : A3) (a4 : A4) (h1 : b = true → R → D) (h2 : b = false → T → E) (r1 : b = true → R := by intro hg; (try simp only [Bool.and_eq_true, Bool.or_eq_false_iff, Bool.or_eq_true, Bool.and_eq_false_iff, Bool.not_eq_true', Bool.not_eq_false', decide_eq_true_eq, decide_eq_false_iff_not, beqT, beqF, bneT, bneF] at hg); exact hg) (r2 : b = false → T := by intro hg; (try simp only [Bool.and_eq_true, Bool.or_eq_false_iff, Bool.or_eq_true, Bool.and_eq_false_iff, Bool.not_eq_true', Bool.not_eq_false', decide_eq_true_eq, decide_eq_false_iff_not, beqT, beqF, bneT, bneF] at hg); exact hg) (e1 : A0 → A1 → A2 → A3 → A4 → b = true → B = D := by intro a0 a1 a2 a3 a4; intro hg; (try simp (disch := first | omega | assumption) only [wrapI, ia3_hdrN, ia3_rowN, ia3_hdrI, ia3_rowI, List.getElem?_eq_getElem, List.length_map, List.length_cons, List.length_nil, List.getElem_map, a0, a1, a2, a3, a4]); (try simp only [hg]); (first | simp only [eq_true (beq_iff_eq.1 hg)] | simp only [eq_false (beq_eq_false_iff_ne.1 hg)] | simp only [eq_true (of_decide_eq_true hg)] | simp only [eq_false (of_decide_eq_false hg)] | skip); (first | done | rfl)) (e2 : A0 → A1 → A2 → A3 → A4 → b = false → C = E := by intro a0 a1 a2 a3 a4; intro hg; (try simp (disch := first | omega | assumption) only [wrapI, ia3_hdrN, ia3_rowN, ia3_hdrI, ia3_rowI, List.getElem?_eq_getElem, List.length_map, List.length_cons, List.length_nil, List.getElem_map, a0, a1, a2, a3, a4]); (try simp only [hg]); (first | simp only [eq_true (beq_iff_eq.1 hg)] | simp only [eq_false (beq_eq_false_iff_ne.1 hg)] | simp only [eq_true (of_decide_eq_true hg)] | simp only [eq_false (of_decide_eq_false hg)] | skip); (first | done | rfl)) : TT b B C .mk .mk := tt_i (fun g => (e1 a0 a1 a2 a3 a4 (tb_eq g)).mpr (h1 (tb_eq g) (r1 (tb_eq g)))) fun g => (e2 a0 a1 a2 a3 a4 (tb_eq g)).mpr (h2 (tb_eq g) (r2 (tb_eq g)))
theorem g6 {A0 A1 A2 A3 A4 A5 P Q : Prop} (a0 : A0) (a1 : A1) (a2 : A2) (a3 : A3) (a4 : A4) (a5 : A5) (h : Q) (e : A0 → A1 → A2 → A3 → A4 → A5 → P = Q := by intro a0 a1 a2 a3 a4 a5; simp (maxSteps := 1000000) only [go_sem, Int.cast_ofNat_Int, Int.reduceLT, Int.reduceLE, Int.reduceGT, Int.reduceGE, Int.reduceEq, Int.reduceBEq, Int.reduceAdd, Int.reduceSub, Int.reduceToNat, Nat.reduceShiftRight, Nat.reduceMod, Nat.reduceLT, Nat.reduceEqDiff, Nat.reduceAdd, Nat.reduceMul, Nat.reduceLeDiff, Nat.reduceBEq, reduceIte, List.getElem_map, a0, a1, a2, a3, a4, a5]; first | done | rfl) : P := (e a0 a1 a2 a3 a4 a5).mpr h
theorem d6 {A0 A1 A2 A3 A4 A5 P Q : Prop} (a0 : A0) (a1 : A1) (a2 : A2) (a3 : A3) (a4 : A4) (a5 : A5) (h : Q) (e : A0 → A1 → A2 → A3 → A4 → A5 → P = Q := by intro a0 a1 a2 a3 a4 a5; simp (disch := first | omega | assumption) only [wrapI, ia3_hdrN, ia3_rowN, ia3_hdrI, ia3_rowI, List.getElem?_eq_getElem, List.length_map, List.length_cons, List.length_nil, List.getElem_map, a0, a1, a2, a3, a4, a5]; first | done | rfl) : P := (e a0 a1 a2 a3 a4 a5).mpr h
theorem j6 {b : Bool} {A0 A1 A2 A3 A4 A5 B C D E R T : Prop} (a0 : A0) (a1 : A1) (a2 : A2) (a3 : A3) (a4 : A4) (a5 : A5) (h1 : b = true → R → D) (h2 : b = false → T → E) (r1 : b = true → R := by intro hg; (try simp only [Bool.and_eq_true, Bool.or_eq_false_iff, Bool.or_eq_true, Bool.and_eq_false_iff, Bool.not_eq_true', Bool.not_eq_false', decide_eq_true_eq, decide_eq_false_iff_not, beqT, beqF, bneT, bneF] at hg); exact hg) (r2 : b = false → T := by intro hg; (try simp only [Bool.and_eq_true, Bool.or_eq_false_iff, Bool.or_eq_true, Bool.and_eq_false_iff, Bool.not_eq_true', Bool.not_eq_false', decide_eq_true_eq, decide_eq_false_iff_not, beqT, beqF, bneT, bneF] at hg); exact hg) (e1 : A0 → A1 → A2 → A3 → A4 → A5 → b = true → B = D := by intro a0 a1 a2 a3 a4 a5; intro hg; (try simp (disch := first | omega | assumption) only [wrapI, ia3_hdrN, ia3_rowN, ia3_hdrI, ia3_rowI, List.getElem?_eq_getElem, List.length_map, List.length_cons, List.length_nil, List.getElem_map, a0, a1, a2, a3, a4, a5]); (try simp only [hg]); (first | simp only [eq_true (beq_iff_eq.1 hg)] | simp only [eq_false (beq_eq_false_iff_ne.1 hg)] | simp only [eq_true (of_decide_eq_true hg)] | simp only [eq_false (of_decide_eq_false hg)] | skip); (first | done | rfl)) (e2 : A0 → A1 → A2 → A3 → A4 → A5 → b = false → C = E := by intro a0 a1 a2 a3 a4 a5; intro hg; (try simp (disch := first | omega | assumption) only [wrapI, ia3_hdrN, ia3_rowN, ia3_hdrI, ia3_rowI, List.getElem?_eq_getElem, List.length_map, List.length_cons, List.length_nil, List.getElem_map, a0, a1, a2, a3, a4, a5]); (try simp only [hg]); (first | simp only [eq_true (beq_iff_eq.1 hg)] | simp only [eq_false (beq_eq_false_iff_ne.1 hg)] | simp only [eq_true (of_decide_eq_true hg)] | simp only [eq_false (of_decide_eq_false hg)] | skip); (first | done | rfl)) : TT b B C .mk .mk := tt_i (fun g => (e1 a0 a1 a2 a3 a4 a5 (tb_eq g)).mpr (h1 (tb_eq g) (r1 (tb_eq g)))) fun g => (e2 a0 a1 a2 a3 a4 a5 (tb_eq g)).mpr (h2 (tb_eq g) (r2 (tb_eq g)))
theorem g7 {A0 A1 A2 A3 A4 A5 A6 P Q : Prop} (a0 : A0) (a1 : A1) (a2 : A2) (a3 : A3) (a4 : A4) (a5 : A5) (a6 : A6) (h : Q) (e : A0 → A1 → A2 → A3 → A4 → A5 → A6 → P = Q := by intro a0 a1 a2 a3 a4 a5 a6; simp (maxSteps := 1000000) only [go_sem, Int.cast_ofNat_Int, Int.reduceLT, Int.reduceLE, Int.reduceGT, Int.reduceGE, Int.reduceEq, Int.reduceBEq, Int.reduceAdd, Int.reduceSub, Int.reduceToNat, Nat.reduceShiftRight, Nat.reduceMod, Nat.reduceLT, Nat.reduceEqDiff, Nat.reduceAdd, Nat.reduceMul, Nat.reduceLeDiff, Nat.reduceBEq, reduceIte, List.getElem_map, a0, a1, a2, a3, a4, a5, a6]; first | done | rfl) : P := (e a0 a1 a2 a3 a4 a5 a6).mpr h
theorem d7 {A0 A1 A2 A3 A4 A5 A6 P Q : Prop} (a0 : A0) (a1 : A1) (a2 : A2) (a3 : A3) (a4 : A4) (a5 : A5) (a6 : A6) (h : Q) (e : A0 → A1 → A2 → A3 → A4 → A5 → A6 → P = Q := by intro a0 a1 a2 a3 a4 a5 a6; simp (disch := first | omega | assumption) only [wrapI, ia3_hdrN, ia3_rowN, ia3_hdrI, ia3_rowI, List.getElem?_eq_getElem, List.length_map, List.length_cons, List.length_nil, List.getElem_map, a0, a1, a2, a3, a4, a5, a6]; first | done | rfl) : P := (e a0 a1 a2 a3 a4 a5 a6).mpr h
theorem j7 {b : Bool} {A0 A1 A2 A3 A4 A5 A6 B C D E R T : Prop} (a0 : A0) (a1 : A1) (a2 : A2) (a3 : A3) (a4 : A4) (a5 : A5) (a6 : A6) (h1 : b = true → R → D) (h2 : b = false → T → E) (r1 : b = true → R := by intro hg; (try simp only [Bool.and_eq_true, Bool.or_eq_false_iff, Bool.or_eq_true, Bool.and_eq_false_iff, Bool.not_eq_true', Bool.not_eq_false', decide_eq_true_eq, decide_eq_false_iff_not, beqT, beqF, bneT, bneF] at hg); exact hg) (r2 : b = false → T := by intro hg; (try simp only [Bool.and_eq_true, Bool.or_eq_false_iff, Bool.or_eq_true, Bool.and_eq_false_iff, Bool.not_eq_true', Bool.not_eq_false', decide_eq_true_eq, decide_eq_false_iff_not, beqT, beqF, bneT, bneF] at hg); exact hg) (e1 : A0 → A1 → A2 → A3 → A4 → A5 → A6 → b = true → B = D := by intro a0 a1 a2 a3 a4 a5 a6; intro hg; (try simp (disch := first | omega | assumption) only [wrapI, ia3_hdrN, ia3_rowN, ia3_hdrI, ia3_rowI, List.getElem?_eq_getElem, List.length_map, List.length_cons, List.length_nil, List.getElem_map, a0, a1, a2, a3, a4, a5, a6]); (try simp only [hg]); (first | simp only [eq_true (beq_iff_eq.1 hg)] | simp only [eq_false (beq_eq_false_iff_ne.1 hg)] | simp only [eq_true (of_decide_eq_true hg)] | simp only [eq_false (of_decide_eq_false hg)] | skip); (first | done | rfl)) (e2 : A0 → A1 → A2 → A3 → A4 → A5 → A6 → b = false → C = E := by intro a0 a1 a2 a3 a4 a5 a6; intro hg; (try simp (disch := first | omega | assumption) only [wrapI, ia3_hdrN, ia3_rowN, ia3_hdrI, ia3_rowI, List.getElem?_eq_getElem, List.length_map, List.length_cons, List.length_nil, List.getElem_map, a0, a1, a2, a3, a4, a5, a6]); (try simp only [hg]); (first | simp only [eq_true (beq_iff_eq.1 hg)] | simp only [eq_false (beq_eq_false_iff_ne.1 hg)] | simp only [eq_true (of_decide_eq_true hg)] | simp only [eq_false (of_decide_eq_false hg)] | skip); (first | done | rfl)) : TT b B C .mk .mk := tt_i (fun g => (e1 a0 a1 a2 a3 a4 a5 a6 (tb_eq g)).mpr (h1 (tb_eq g) (r1 (tb_eq g)))) fun g => (e2 a0 a1 a2 a3 a4 a5 a6 (tb_eq g)).mpr (h2 (tb_eq g) (r2 (tb_eq g)))
theorem g8 {A0 A1 A2 A3 A4 A5 A6 A7 P Q : Prop} (a0 : A0) (a1 : A1) (a2 : A2) (a3 : A3) (a4 : A4) (a5 : A5) (a6 : A6) (a7 : A7) (h : Q) (e : A0 → A1 → A2 → A3 → A4 → A5 → A6 → A7 → P = Q := by intro a0 a1 a2 a3 a4 a5 a6 a7; simp (maxSteps := 1000000) only [go_sem, Int.cast_ofNat_Int, Int.reduceLT, Int.reduceLE, Int.reduceGT, Int.reduceGE, Int.reduceEq, Int.reduceBEq, Int.reduceAdd, Int.reduceSub, Int.reduceToNat, Nat.reduceShiftRight, Nat.reduceMod, Nat.reduceLT, Nat.reduceEqDiff, Nat.reduceAdd, Nat.reduceMul, Nat.reduceLeDiff, Nat.reduceBEq, reduceIte, List.getElem_map, a0, a1, a2, a3, a4, a5, a6, a7]; first | done | rfl) : P := (e a0 a1 a2 a3 a4 a5 a6 a7).mpr h
theorem d8 {A0 A1 A2 A3 A4 A5 A6 A7 P Q : Prop} (a0 : A0) (a1 : A1) (a2 : A2) (a3 : A3) (a4 : A4) (a5 : A5) (a6 : A6) (a7 : A7) (h : Q) (e : A0 → A1 → A2 → A3 → A4 → A5 → A6 → A7 → P = Q := by intro a0 a1 a2 a3 a4 a5 a6 a7; simp (disch := first | omega | assumption) only [wrapI, ia3_hdrN, ia3_rowN, ia3_hdrI, ia3_rowI, List.getElem?_eq_getElem, List.length_map, List.length_cons, List.length_nil, List.getElem_map, a0, a1, a2, a3, a4, a5, a6, a7]; first | done | rfl) : P := (e a0 a1 a2 a3 a4 a5 a6 a7).mpr h
theorem j8 {b : Bool} {A0 A1 A2 A3 A4 A5 A6 A7 B C D E R T : Prop} (a0 : A0) (a1 : A1) (a2 : A2) (a3 : A3) (a4 : A4) (a5 : A5) (a6 : A6) (a7 : A7) (h1 : b = true → R → D) (h2 : b = false → T → E) (r1 : b = true → R := by intro hg; (try simp only [Bool.and_eq_true, Bool.or_eq_false_iff, Bool.or_eq_true, Bool.and_eq_false_iff, Bool.not_eq_true', Bool.not_eq_false', decide_eq_true_eq, decide_eq_false_iff_not, beqT, beqF, bneT, bneF] at hg); exact hg) (r2 : b = false → T := by intro hg; (try simp only [Bool.and_eq_true, Bool.or_eq_false_iff, Bool.or_eq_true, Bool.and_eq_false_iff, Bool.not_eq_true', Bool.not_eq_false', decide_eq_true_eq, decide_eq_false_iff_not, beqT, beqF, bneT, bneF] at hg); exact hg) (e1 : A0 → A1 → A2 → A3 → A4 → A5 → A6 → A7 → b = true → B = D := by intro a0 a1 a2 a3 a4 a5 a6 a7; intro hg; (try simp (disch := first | omega | assumption) only [wrapI, ia3_hdrN, ia3_rowN, ia3_hdrI, ia3_rowI, List.getElem?_eq_getElem, List.length_map, List.length_cons, List.length_nil, List.getElem_map, a0, a1, a2, a3, a4, a5, a6, a7]); (try simp only [hg]); (first | simp only [eq_true (beq_iff_eq.1 hg)] | simp only [eq_false (beq_eq_false_iff_ne.1 hg)] | simp only [eq_true (of_decide_eq_true hg)] | simp only [eq_false (of_decide_eq_false hg)] | skip); (first | done | rfl)) (e2 : A0 → A1 → A2 → A3 → A4 → A5 → A6 → A7 → b = false → C = E := by intro a0 a1 a2 a3 a4 a5 a6 a7; intro hg; (try simp (disch := first | omega | assumption) only [wrapI, ia3_hdrN, ia3_rowN, ia3_hdrI, ia3_rowI, List.getElem?_eq_getElem, List.length_map, List.length_cons, List.length_nil, List.getElem_map, a0, a1, a2, a3, a4, a5, a6, a7]); (try simp only [hg]); (first | simp only [eq_true (beq_iff_eq.1 hg)] | simp only [eq_false (beq_eq_false_iff_ne.1 hg)] | simp only [eq_true (of_decide_eq_true hg)] | simp only [eq_false (of_decide_eq_false hg)] | skip); (first | done | rfl)) : TT b B C .mk .mk := tt_i (fun g => (e1 a0 a1 a2 a3 a4 a5 a6 a7 (tb_eq g)).mpr (h1 (tb_eq g) (r1 (tb_eq g)))) fun g => (e2 a0 a1 a2 a3 a4 a5 a6 a7 (tb_eq g)).mpr (h2 (tb_eq g) (r2 (tb_eq g)))
theorem g9 {A0 A1 A2 A3 A4 A5 A6 A7 A8 P Q : Prop} (a0 : A0) (a1 : A1) (a2 : A2) (a3 : A3) (a4 : A4) (a5 : A5) (a6 : A6) (a7 : A7) (a8 : A8) (h : Q) (e : A0 → A1 → A2 → A3 → A4 → A5 → A6 → A7 → A8 → P = Q := by intro a0 a1 a2 a3 a4 a5 a6 a7 a8; simp (maxSteps := 1000000) only [go_sem, Int.cast_ofNat_Int, Int.reduceLT, Int.reduceLE, Int.reduceGT, Int.reduceGE, Int.reduceEq, Int.reduceBEq, Int.reduceAdd, Int.reduceSub, Int.reduceToNat, Nat.reduceShiftRight, Nat.reduceMod, Nat.reduceLT, Nat.reduceEqDiff, Nat.reduceAdd, Nat.reduceMul, Nat.reduceLeDiff, Nat.reduceBEq, reduceIte, List.getElem_map, a0, a1, a2, a3, a4, a5, a6, a7, a8]; first | done | rfl) : P := (e a0 a1 a2 a3 a4 a5 a6 a7 a8).mpr h
theorem d9 {A0 A1 A2 A3 A4 A5 A6 A7 A8 P Q : Prop} (a0 : A0) (a1 : A1) (a2 : A2) (a3 : A3) (a4 : A4) (a5 : A5) (a6 : A6) (a7 : A7) (a8 : A8) (h : Q) (e : A0 → A1 → A2 → A3 → A4 → A5 → A6 → A7 → A8 → P = Q := by intro a0 a1 a2 a3 a4 a5 a6 a7 a8; simp (disch := first | omega | assumption) only [wrapI, ia3_hdrN, ia3_rowN, ia3_hdrI, ia3_rowI, List.getElem?_eq_getElem, List.length_map, List.length_cons, List.length_nil, List.getElem_map, a0, a1, a2, a3, a4, a5, a6, a7, a8]; first | done | rfl) : P := (e a0 a1 a2 a3 a4 a5 a6 a7 a8).mpr h
theorem j9 {b : Bool} {A0 A1 A2 A3 A4 A5 A6 A7 A8 B C D E R T : Prop} (a0 : A0) (a1 : A1) (a2 : A2) (a3 : A3) (a4 : A4) (a5 : A5) (a6 : A6) (a7 : A7) (a8 : A8) (h1 : b = true → R → D) (h2 : b = false → T → E) (r1 : b = true → R := by intro hg; (try simp only [Bool.and_eq_true, Bool.or_eq_false_iff, Bool.or_eq_true, Bool.and_eq_false_iff, Bool.not_eq_true', Bool.not_eq_false', decide_eq_true_eq, decide_eq_false_iff_not, beqT, beqF, bneT, bneF] at hg); exact hg) (r2 : b = false → T := by intro hg; (try simp only [Bool.and_eq_true, Bool.or_eq_false_iff, Bool.or_eq_true, Bool.and_eq_false_iff, Bool.not_eq_true', Bool.not_eq_false', decide_eq_true_eq, decide_eq_false_iff_not, beqT, beqF, bneT, bneF] at hg); exact hg) (e1 : A0 → A1 → A2 → A3 → A4 → A5 → A6 → A7 → A8 → b = true → B = D := by intro a0 a1 a2 a3 a4 a5 a6 a7 a8; intro hg; (try simp (disch := first | omega | assumption) only [wrapI, ia3_hdrN, ia3_rowN, ia3_hdrI, ia3_rowI, List.getElem?_eq_getElem, List.length_map, List.length_cons, List.length_nil, List.getElem_map, a0, a1, a2, a3, a4, a5, a6, a7, a8]); (try simp only [hg]); (first | simp only [eq_true (beq_iff_eq.1 hg)] | simp only [eq_false (beq_eq_false_iff_ne.1 hg)] | simp only [eq_true (of_decide_eq_true hg)] | simp only [eq_false (of_decide_eq_false hg)] | skip); (first | done | rfl)) (e2 : A0 → A1 → A2 → A3 → A4 → A5 → A6 → A7 → A8 → b = false → C = E := by intro a0 a1 a2 a3 a4 a5 a6 a7 a8; intro hg; (try simp (disch := first | omega | assumption) only [wrapI, ia3_hdrN, ia3_rowN, ia3_hdrI, ia3_rowI, List.getElem?_eq_getElem, List.length_map, List.length_cons, List.length_nil, List.getElem_map, a0, a1, a2, a3, a4, a5, a6, a7, a8]); (try simp only [hg]); (first | simp only [eq_true (beq_iff_eq.1 hg)] | simp only [eq_false (beq_eq_false_iff_ne.1 hg)] | simp only [eq_true (of_decide_eq_true hg)] | simp only [eq_false (of_decide_eq_false hg)] | skip); (first | done | rfl)) : TT b B C .mk .mk := tt_i (fun g => (e1 a0 a1 a2 a3 a4 a5 a6 a7 a8 (tb_eq g)).mpr (h1 (tb_eq g) (r1 (tb_eq g)))) fun g => (e2 a0 a1 a2 a3 a4 a5 a6 a7 a8 (tb_eq g)).mpr (h2 (tb_eq g) (r2 (tb_eq g)))
theorem g10 {A0 A1 A2 A3 A4 A5 A6 A7 A8 A9 P Q : Prop} (a0 : A0) (a1 : A1) (a2 : A2) (a3 : A3) (a4 : A4) (a5 : A5) (a6 : A6) (a7 : A7) (a8 : A8) (a9 : A9) (h : Q) (e : A0 → A1 → A2 → A3 → A4 → A5 → A6 → A7 → A8 → A9 → P = Q := by intro a0 a1 a2 a3 a4 a5 a6 a7 a8 a9; simp (maxSteps := 1000000) only [go_sem, Int.cast_ofNat_Int, Int.reduceLT, Int.reduceLE, Int.reduceGT, Int.reduceGE, Int.reduceEq, Int.reduceBEq, Int.reduceAdd, Int.reduceSub, Int.reduceToNat, Nat.reduceShiftRight, Nat.reduceMod, Nat.reduceLT, Nat.reduceEqDiff, Nat.reduceAdd, Nat.reduceMul, Nat.reduceLeDiff, Nat.reduceBEq, reduceIte, List.getElem_map, a0, a1, a2, a3, a4, a5, a6, a7, a8, a9]; first | done | rfl) : P := (e a0 a1 a2 a3 a4 a5 a6 a7 a8 a9).mpr h
theorem d10 {A0 A1 A2 A3 A4 A5 A6 A7 A8 A9 P Q : Prop} (a0 : A0) (a1 : A1) (a2 : A2) (a3 : A3) (a4 : A4) (a5 : A5) (a6 : A6) (a7 : A7) (a8 : A8) (a9 : A9) (h : Q) (e : A0 → A1 → A2 → A3 → A4 → A5 → A6 → A7 → A8 → A9 → P = Q := by intro a0 a1 a2 a3 a4 a5 a6 a7 a8 a9; simp (disch := first | omega | assumption) only [wrapI, ia3_hdrN, ia3_rowN, ia3_hdrI, ia3_rowI, List.getElem?_eq_getElem, List.length_map, List.length_cons, List.length_nil, List.getElem_map, a0, a1, a2, a3, a4, a5, a6, a7, a8, a9]; first | done | rfl) : P := (e a0 a1 a2 a3 a4 a5 a6 a7 a8 a9).mpr h
theorem j10 {b : Bool} {A0 A1 A2 A3 A4 A5 A6 A7 A8 A9 B C D E R T : Prop} (a0 : A0) (a1 : A1) (a2 : A2) (a3 : A3) (a4 : A4) (a5 : A5) (a6 : A6) (a7 : A7) (a8 : A8) (a9 : A9) (h1 : b = true → R → D) (h2 : b = false → T → E) (r1 : b = true → R := by intro hg; (try simp only [Bool.and_eq_true, Bool.or_eq_false_iff, Bool.or_eq_true, Bool.and_eq_false_iff, Bool.not_eq_true', Bool.not_eq_false', decide_eq_true_eq, decide_eq_false_iff_not, beqT, beqF, bneT, bneF] at hg); exact hg) (r2 : b = false → T := by intro hg; (try simp only [Bool.and_eq_true, Bool.or_eq_false_iff, Bool.or_eq_true, Bool.and_eq_false_iff, Bool.not_eq_true', Bool.not_eq_false', decide_eq_true_eq, decide_eq_false_iff_not, beqT, beqF, bneT, bneF] at hg); exact hg) (e1 : A0 → A1 → A2 → A3 → A4 → A5 → A6 → A7 → A8 → A9 → b = true → B = D := by intro a0 a1 a2 a3 a4 a5 a6 a7 a8 a9; intro hg; (try simp (disch := first | omega | assumption) only [wrapI, ia3_hdrN, ia3_rowN, ia3_hdrI, ia3_rowI, List.getElem?_eq_getElem, List.length_map, List.length_cons, List.length_nil, List.getElem_map, a0, a1, a2, a3, a4, a5, a6, a7, a8, a9]); (try simp only [hg]); (first | simp only [eq_true (beq_iff_eq.1 hg)] | simp only [eq_false (beq_eq_false_iff_ne.1 hg)] | simp only [eq_true (of_decide_eq_true hg)] | simp only [eq_false (of_decide_eq_false hg)] | skip); (first | done | rfl)) (e2 : A0 → A1 → A2 → A3 → A4 → A5 → A6 → A7 → A8 → A9 → b = false → C = E := by intro a0 a1 a2 a3 a4 a5 a6 a7 a8 a9; intro hg; (try simp (disch := first | omega | assumption) only [wrapI, ia3_hdrN, ia3_rowN, ia3_hdrI, ia3_rowI, List.getElem?_eq_getElem, List.length_map, List.length_cons, List.length_nil, List.getElem_map, a0, a1, a2, a3, a4, a5, a6, a7, a8, a9]); (try simp only [hg]); (first | simp only [eq_true (beq_iff_eq.1 hg)] | simp only [eq_false (beq_eq_false_iff_ne.1 hg)] | simp only [eq_true (of_decide_eq_true hg)] | simp only [eq_false (of_decide_eq_false hg)] | skip); (first | done | rfl)) : TT b B C .mk .mk := tt_i (fun g => (e1 a0 a1 a2 a3 a4 a5 a6 a7 a8 a9 (tb_eq g)).mpr (h1 (tb_eq g) (r1 (tb_eq g)))) fun g => (e2 a0 a1 a2 a3 a4 a5 a6 a7 a8 a9 (tb_eq g)).mpr (h2 (tb_eq g) (r2 (tb_eq g)))
theorem g11 {A0 A1 A2 A3 A4 A5 A6 A7 A8 A9 A10 P Q : Prop} (a0 : A0) (a1 : A1) (a2 : A2) (a3 : A3) (a4 : A4) (a5 : A5) (a6 : A6) (a7 : A7) (a8 : A8) (a9 : A9) (a10 : A10) (h : Q) (e : A0 → A1 → A2 → A3 → A4 → A5 → A6 → A7 → A8 → A9 → A10 → P = Q := by intro a0 a1 a2 a3 a4 a5 a6 a7 a8 a9 a10; simp (maxSteps := 1000000) only [go_sem, Int.cast_ofNat_Int, Int.reduceLT, Int.reduceLE, Int.reduceGT, Int.reduceGE, Int.reduceEq, Int.reduceBEq, Int.reduceAdd, Int.reduceSub, Int.reduceToNat, Nat.reduceShiftRight, Nat.reduceMod, Nat.reduceLT, Nat.reduceEqDiff, Nat.reduceAdd, Nat.reduceMul, Nat.reduceLeDiff, Nat.reduceBEq, reduceIte, List.getElem_map, a0, a1, a2, a3, a4, a5, a6, a7, a8, a9, a10]; first | done | rfl) : P := (e a0 a1 a2 a3 a4 a5 a6 a7 a8 a9 a10).mpr h
theorem d11 {A0 A1 A2 A3 A4 A5 A6 A7 A8 A9 A10 P Q : Prop} (a0 : A0) (a1 : A1) (a2 : A2) (a3 : A3) (a4 : A4) (a5 : A5) (a6 : A6) (a7 : A7) (a8 : A8) (a9 : A9) (a10 : A10) (h : Q) (e : A0 → A1 → A2 → A3 → A4 → A5 → A6 → A7 → A8 → A9 → A10 → P = Q := by intro a0 a1 a2 a3 a4 a5 a6 a7 a8 a9 a10; simp (disch := first | omega | assumption) only [wrapI, ia3_hdrN, ia3_rowN, ia3_hdrI, ia3_rowI, List.getElem?_eq_getElem, List.length_map, List.length_cons, List.length_nil, List.getElem_map, a0, a1, a2, a3, a4, a5, a6, a7, a8, a9, a10]; first | done | rfl) : P := (e a0 a1 a2 a3 a4 a5 a6 a7 a8 a9 a10).mpr h
theorem j11 {b : Bool} {A0 A1 A2 A3 A4 A5 A6 A7 A8 A9 A10 B C D E R T : Prop} (a0 : A0) (a1 : A1) (a2 : A2) (a3 : A3) (a4 : A4) (a5 : A5) (a6 : A6) (a7 : A7) (a8 : A8) (a9 : A9) (a10 : A10) (h1 : b = true → R → D) (h2 : b = false → T → E) (r1 : b = true → R := by intro hg; (try simp only [Bool.and_eq_true, Bool.or_eq_false_iff, Bool.or_eq_true, Bool.and_eq_false_iff, Bool.not_eq_true', Bool.not_eq_false', decide_eq_true_eq, decide_eq_false_iff_not, beqT, beqF, bneT, bneF] at hg); exact hg) (r2 : b = false → T := by intro hg; (try simp only [Bool.and_eq_true, Bool.or_eq_false_iff, Bool.or_eq_true, Bool.and_eq_false_iff, Bool.not_eq_true', Bool.not_eq_false', decide_eq_true_eq, decide_eq_false_iff_not, beqT, beqF, bneT, bneF] at hg); exact hg) (e1 : A0 → A1 → A2 → A3 → A4 → A5 → A6 → A7 → A8 → A9 → A10 → b = true → B = D := by intro a0 a1 a2 a3 a4 a5 a6 a7 a8 a9 a10; intro hg; (try simp (disch := first | omega | assumption) only [wrapI, ia3_hdrN, ia3_rowN, ia3_hdrI, ia3_rowI, List.getElem?_eq_getElem, List.length_map, List.length_cons, List.length_nil, List.getElem_map, a0, a1, a2, a3, a4, a5, a6, a7, a8, a9, a10]); (try simp only [hg]); (first | simp only [eq_true (beq_iff_eq.1 hg)] | simp only [eq_false (beq_eq_false_iff_ne.1 hg)] | simp only [eq_true (of_decide_eq_true hg)] | simp only [eq_false (of_decide_eq_false hg)] | skip); (first | done | rfl)) (e2 : A0 → A1 → A2 → A3 → A4 → A5 → A6 → A7 → A8 → A9 → A10 → b = false → C = E := by intro a0 a1 a2 a3 a4 a5 a6 a7 a8 a9 a10; intro hg; (try simp (disch := first | omega | assumption) only [wrapI, ia3_hdrN, ia3_rowN, ia3_hdrI, ia3_rowI, List.getElem?_eq_getElem, List.length_map, List.length_cons, List.length_nil, List.getElem_map, a0, a1, a2, a3, a4, a5, a6, a7, a8, a9, a10]); (try simp only [hg]); (first | simp only [eq_true (beq_iff_eq.1 hg)] | simp only [eq_false (beq_eq_false_iff_ne.1 hg)] | simp only [eq_true (of_decide_eq_true hg)] | simp only [eq_false (of_decide_eq_false hg)] | skip); (first | done | rfl)) : TT b B C .mk .mk := tt_i (fun g => (e1 a0 a1 a2 a3 a4 a5 a6 a7 a8 a9 a10 (tb_eq g)).mpr (h1 (tb_eq g) (r1 (tb_eq g)))) fun g => (e2 a0 a1 a2 a3 a4 a5 a6 a7 a8 a9 a10 (tb_eq g)).mpr (h2 (tb_eq g) (r2 (tb_eq g)))
theorem cw {f : FuncId} {ds : List DV} {d : DV} {outs : List DV} {kq : Nat} {q : PC} {rs : List ResultVar} (kp : Nat) (fn : Func) (fz : Bool) (h : PW Γ E MU CC kq q (ini 0 ds) (EK Γ fz rs (eqP d outs) (cst outs))) (hF : F f = some fn := by rfl) (hb : fn.body = some (fn.body.getD .skip) := by rfl) (hp : prep (fn.body.getD .skip) = some ((prep (fn.body.getD .skip)).getD .skip) := by rfl) (hn : ds.length ≤ fn.ntmps := by exact Nat.le_of_ble_eq_true rfl) (hl : ds.length ≤ 900000 := by exact Nat.le_of_ble_eq_true rfl) (e1 : kp = kq := by conv => lhs; cbv) (e2 : (prep (fn.body.getD .skip)).getD .skip = q := by conv => lhs; cbv) (e3 : fn.results.toList = rs := by conv => lhs; cbv) : C2 CC f ds d outs := by
 subst e1; subst e2
 exact c2_fn _ fz hF hb hp hn hl e3 h
theorem cwW {f : FuncId} {ds : List DV} {d : DV} {outs : List DV} {kq : Nat} {q : PC} {rs : List ResultVar} (kp : Nat) (fn : Func) (fz : Bool) (h : PW Γ E MU CC kq q (ini 0 ds) (EK Γ fz rs (eqW d outs) (cst outs))) (hF : F f = some fn := by rfl) (hb : fn.body = some (fn.body.getD .skip) := by rfl) (hp : prep (fn.body.getD .skip) = some ((prep (fn.body.getD .skip)).getD .skip) := by rfl) (hn : ds.length ≤ fn.ntmps := by exact Nat.le_of_ble_eq_true rfl) (hl : ds.length ≤ 900000 := by exact Nat.le_of_ble_eq_true rfl) (e1 : kp = kq := by conv => lhs; cbv) (e2 : (prep (fn.body.getD .skip)).getD .skip = q := by conv => lhs; cbv) (e3 : fn.results.toList = rs := by conv => lhs; cbv) : C2 CC f ds d outs := by
 subst e1; subst e2
 exact c2_fnW _ fz hF hb hp hn hl e3 h
theorem cwG (ib : Nat) {f : FuncId} {ds : List DV} {d : DV} {outs : List DV} {kq : Nat} {q : PC} {rs : List ResultVar} (kp : Nat) (fn : Func) (fz : Bool) (h : PW Γ E MU CC kq q (ini 0 ds) (EKG ib Γ fz rs (eqP d outs) (cst outs))) (hF : F f = some fn := by rfl) (hb : fn.body = some (fn.body.getD .skip) := by rfl) (hp : prep (fn.body.getD .skip) = some ((prep (fn.body.getD .skip)).getD .skip) := by rfl) (hn : ds.length ≤ fn.ntmps := by exact Nat.le_of_ble_eq_true rfl) (hl : ds.length ≤ 900000 := by exact Nat.le_of_ble_eq_true rfl) (e1 : kp = kq := by conv => lhs; cbv) (e2 : (prep (fn.body.getD .skip)).getD .skip = q := by conv => lhs; cbv) (e3 : fn.results.toList = rs := by conv => lhs; cbv) : C2 CC f ds d outs := by
 subst e1; subst e2
 exact c2_fnG ib _ fz hF hb hp hn hl e3 h
section
variable {MU : FuncId → Nat → Nat} {C : Rel} {kp : Nat} {Q : Ex → St → Prop} {st : St}
theorem pdx (t : Nat) {op : Op} {ty : TypeId} {pos : String} {af : Array Edge} {gd : Option (Tmp × Bool)} {rest : List Oper} (am kd : List Nat) {L : List POp} (h : OX Γ E MU C L st st (keK kp Q)) (h1 : drOk Γ ⟨⟨some t, op, ty, pos, af, gd⟩ :: rest⟩ am kd true = true := by kernel_rfl) (e : prepT kd ((prepO ⟨⟨some t, op, ty, pos, af, gd⟩ :: rest⟩ (⟨some t, op, ty, pos, af, gd⟩ :: rest)).getD []) = L := by conv => lhs; cbv) : PW Γ E MU C kp (.draw ⟨⟨some t, op, ty, pos, af, gd⟩ :: rest⟩) st Q := pw_drawX am kd h1 (e ▸ h)
theorem pd3 (t : Nat) {op : Op} {ty : TypeId} {pos : String} {af : Array Edge} {gd : Option (Tmp × Bool)} {rest : List Oper} (am kd : List Nat) (x : Bool) {L : List POp} (h : OW Γ E MU C x L st (keK kp Q)) (h1 : drOk Γ ⟨⟨some t, op, ty, pos, af, gd⟩ :: rest⟩ am kd x = true := by kernel_rfl) (e : prepT kd ((prepO ⟨⟨some t, op, ty, pos, af, gd⟩ :: rest⟩ (⟨some t, op, ty, pos, af, gd⟩ :: rest)).getD []) = L := by conv => lhs; cbv) : PW Γ E MU C kp (.draw ⟨⟨some t, op, ty, pos, af, gd⟩ :: rest⟩) st Q := pw_draw2 am kd x h1 (e ▸ h)
end
theorem dn {P : Prop} (h : P := by repeat' first | refine g0 ?_ | refine d0 ?_ | refine j0 (fun hg hgo => ?_) fun hg hgo => ?_ | refine ek_ret ?_ | refine ek_norm ?_ | refine ⟨by omega, ?_⟩ | rfl | trivial | intro _) : P := h
structure StepD where
 op : Int
 r : Int
 a : Int
 b : Int
 n : Int
 deriving DecidableEq
def StepD.wf (x : StepD) : Prop := I64 x.op ∧ I64 x.r ∧ I64 x.a ∧ I64 x.b ∧ I64 x.n
abbrev stF (s : StepD) : FV := .agg [.int .i64 s.op, .int .i64 s.r, .int .i64 s.a, .int .i64 s.b, .int .i64 s.n]
abbrev sF (s : StepD) : DV := .fv (stF s)
def steps (l : List StepD) : List DV := l.map fun s => .fv (stF s)
def ints (l : List Int) : List DV := l.map fun n => .fv (.int .i64 n)
@[go_sem] theorem nrs_steps {l : List StepD} : noRefs (steps l) = true := nrs_map
@[go_sem] theorem steps_len {l : List StepD} : (steps l).length = l.length := by unfold steps; simp
@[go_sem] theorem nrs_ints {l : List Int} : noRefs (ints l) = true := nrs_map
@[go_sem] theorem fzL_ints {l : List Int} : fzL (ints l) = some (l.map (.int .i64)) := fzL_map
@[go_sem] theorem clDs_ints {l : List Int} : clDs (ints l) = true := clDs_map fun x => rfl
@[go_sem] theorem ints_len {l : List Int} : (ints l).length = l.length := by unfold ints; simp
structure ArmD where
 fr : Int
 v : Int
 deriving DecidableEq
structure PhiD where
 d : Int
 arms : List ArmD
 deriving DecidableEq
structure TermD where
 kind : Int
 a : Int
 to : Int
 els : Int
 deriving DecidableEq
structure BlockD where
 phis : List PhiD
 list : List StepD
 term : TermD
 deriving DecidableEq
structure FnD where
 blocks : List BlockD
 values : Int
 deriving DecidableEq
def PhiD.ok (p : PhiD) : Prop := p.arms.length < 1073741824
def BlockD.ok (b : BlockD) : Prop := b.phis.length < 1073741824 ∧ (∀ p ∈ b.phis, p.ok) ∧ b.list.length < 1073741824
def FnD.ok (f : FnD) : Prop := f.blocks.length < 1073741824 ∧ ∀ b ∈ f.blocks, b.ok
abbrev armF (x : ArmD) : FV := .agg [.int .i64 x.fr, .int .i64 x.v]
abbrev phiF (x : PhiD) : FV := .agg [.int .i64 x.d, .row 2 (x.arms.map armF)]
abbrev termF (x : TermD) : FV := .agg [.int .i64 x.kind, .int .i64 x.a, .int .i64 x.to, .int .i64 x.els]
abbrev blockF (x : BlockD) : FV := .agg [.row 2 (x.phis.map phiF), .row 5 (x.list.map stF), termF x.term]
abbrev fnF (x : FnD) : FV := .agg [.row 6 (x.blocks.map blockF), .int .i64 x.values]
def rowD {α : Type} (o : α → DV) (l : List α) : List DV := l.map o
abbrev armO (x : ArmD) : DV := .fv (armF x)
abbrev phiO (x : PhiD) : DV := .agg [iv x.d, .own 2 (rowD armO x.arms)]
abbrev blockO (x : BlockD) : DV := .agg [.own 2 (rowD phiO x.phis), .own 5 (rowD sF x.list), .fv (termF x.term)]
abbrev fnO (x : FnD) : DV := .agg [.own 6 (rowD blockO x.blocks), iv x.values]
def bld {α : Type} (o : α → DV) (z : DV) (j : Nat) (l : List α) : List DV := (l.take j).map o ++ List.replicate (l.length - j) z
theorem bld_0 {α : Type} {o : α → DV} {z : DV} {l : List α} : bld o z 0 l = List.replicate l.length z := by unfold bld; simp
theorem bld_n {α : Type} {o : α → DV} {z : DV} {l : List α} : bld o z l.length l = rowD o l := by unfold bld rowD; simp
theorem bld_len {α : Type} {o : α → DV} {z : DV} {l : List α} {j : Nat} (h : j ≤ l.length) : (bld o z j l).length = l.length := by unfold bld; simp; omega
theorem bld_set {α : Type} {o : α → DV} {z : DV} {l : List α} {j : Nat} (h : j < l.length) : (bld o z j l).set j (o l[j]) = bld o z (j + 1) l := by
 unfold bld
 have e : l.length - j = (l.length - (j + 1)) + 1 := by omega
 rw [List.set_append_right _ _ (by simp; omega), e, List.replicate_succ]
 simp only [List.length_map, List.length_take, Nat.min_eq_left (Nat.le_of_lt h), Nat.sub_self, List.set_cons_zero]
 rw [List.take_succ_eq_append_getElem h, List.map_append, List.append_assoc]; rfl
theorem bld_get {α : Type} {o : α → DV} {z : DV} {l : List α} {j : Nat} (h : j < l.length) : (bld o z j l)[j]? = some z := by
 unfold bld
 rw [List.getElem?_append_right (by simp; omega)]
 simp only [List.length_map, List.length_take, Nat.min_eq_left (Nat.le_of_lt h), Nat.sub_self]
 rw [List.getElem?_replicate, if_pos (by omega)]
theorem nrs_rowD {α : Type} {o : α → DV} {l : List α} (h : ∀ x, noRef (o x) = true) : noRefs (rowD o l) = true := by
 unfold rowD
 induction l with
 | nil => rfl
 | cons a l ih => rw [List.map_cons, nrs_cons, h a, ih]; rfl
theorem nrs_bld {α : Type} {o : α → DV} {z : DV} {l : List α} {j : Nat} (h : ∀ x, noRef (o x) = true) (hz : noRef z = true) : noRefs (bld o z j l) = true := by
 unfold bld
 rw [nrs_app]
 have h1 := nrs_rowD (l := l.take j) h
 unfold rowD at h1
 rw [h1]
 have : ∀ n : Nat, noRefs (List.replicate n z) = true := fun n => by
  induction n with
  | zero => rfl
  | succ n ih => rw [List.replicate_succ, nrs_cons, hz, ih]; rfl
 rw [this]; rfl
@[go_sem] theorem nr_armO {x : ArmD} : noRef (.fv (armF x)) = true := rfl
@[go_sem] theorem nrs_arms {l : List ArmD} : noRefs (rowD armO l) = true := nrs_rowD fun _ => rfl
@[go_sem] theorem nr_phiO {x : PhiD} : noRef (phiO x) = true := by
 show noRef (.agg _) = true; rw [nr_agg, nrs_cons, nrs_cons, nr_own, nrs_arms]; rfl
@[go_sem] theorem nrs_phis {l : List PhiD} : noRefs (rowD phiO l) = true := nrs_rowD fun _ => nr_phiO
@[go_sem] theorem nrs_ins {l : List StepD} : noRefs (rowD sF l) = true := nrs_rowD fun _ => rfl
@[go_sem] theorem nr_blockO {x : BlockD} : noRef (blockO x) = true := by
 show noRef (.agg _) = true; rw [nr_agg, nrs_cons, nrs_cons, nrs_cons, nr_own, nr_own, nrs_phis, nrs_ins]; rfl
@[go_sem] theorem nrs_blocks {l : List BlockD} : noRefs (rowD blockO l) = true := nrs_rowD fun _ => nr_blockO
@[go_sem] theorem rowD_len {α : Type} {o : α → DV} {l : List α} : (rowD o l).length = l.length := by unfold rowD; simp
theorem v_toArm (x : ArmD) : C2 CC F_laws_toArm [.fv (armF x)] (.fv (armF x)) [] := by
 obtain ⟨a, b⟩ := x
 refine cw (keepF Tryz.f106) Tryz.f106 false ?_
 repeat' first | refine g0 ?_ | refine d0 ?_ | refine j0 (fun hg hgo => ?_) fun hg hgo => ?_ | refine ek_ret ?_ | refine ek_norm ?_ | refine ⟨by omega, ?_⟩ | rfl | trivial | intro _
theorem v_toTerm (x : TermD) : C2 CC F_laws_toTerm [.fv (termF x)] (.fv (termF x)) [] := by
 obtain ⟨a, b, c, d⟩ := x
 refine cw (keepF Tryz.f51) Tryz.f51 false ?_
 repeat' first | refine g0 ?_ | refine d0 ?_ | refine j0 (fun hg hgo => ?_) fun hg hgo => ?_ | refine ek_ret ?_ | refine ek_norm ?_ | refine ⟨by omega, ?_⟩ | rfl | trivial | intro _
theorem list_ne {α : Type} {l1 l2 : List α} {j : Nat} (h1 : j < l1.length) (h2 : j < l2.length) (h : l1[j] ≠ l2[j]) : l1 ≠ l2 := fun e => by subst e; exact h rfl
theorem v_eqArm (x y : ArmD) : C2 CC F_laws_eqArm [.fv (armF x), .fv (armF y)] (bv (decide (x = y))) [] := by
 obtain ⟨a, b⟩ := x
 obtain ⟨a', b'⟩ := y
 have hd : decide ((⟨a, b⟩ : ArmD) = ⟨a', b'⟩) = (decide (a = a') && decide (b = b')) := by
  rw [Bool.eq_iff_iff]; simp
 rw [hd]
 refine cw (keepF Tryz.f108) Tryz.f108 false ?_
 repeat' first | refine g0 ?_ | refine d0 ?_ | refine j0 (fun hg hgo => ?_) fun hg hgo => ?_ | refine ek_ret ?_ | refine ek_norm ?_ | refine ⟨by omega, ?_⟩ | rfl | trivial | intro _
 all_goals first | rfl | (simp_all [beqD, bneT, bneF]; done) | ((try simp only [bneT, bneF]); (repeat' split) <;> first | omega | (simp_all [beqD]; done) | (simp_all [beqD]; omega)) | (simp_all [beqD, bneT, bneF]; (repeat' split) <;> first | rfl | omega | (simp_all; done))
theorem v_eqIns (x y : StepD) : C2 CC F_laws_eqIns [sF x, sF y] (bv (decide (x = y))) [] := by
 obtain ⟨op, r, a, b, n⟩ := x
 obtain ⟨op', r', a', b', n'⟩ := y
 have hd : decide ((⟨op, r, a, b, n⟩ : StepD) = ⟨op', r', a', b', n'⟩) = (decide (op = op') && decide (r = r') && decide (a = a') && decide (b = b') && decide (n = n')) := by
  rw [Bool.eq_iff_iff]; simp; simp only [and_assoc]
 rw [hd]
 refine cw (keepF Tryz.f92) Tryz.f92 false ?_
 repeat' first | refine g0 ?_ | refine d0 ?_ | refine j0 (fun hg hgo => ?_) fun hg hgo => ?_ | refine ek_ret ?_ | refine ek_norm ?_ | refine ⟨by omega, ?_⟩ | rfl | trivial | intro _
 all_goals first | rfl | (simp_all [beqD, bneT, bneF]; done) | ((try simp only [bneT, bneF]); (repeat' split) <;> first | omega | (simp_all [beqD]; done) | (simp_all [beqD]; omega)) | (simp_all [beqD, bneT, bneF]; (repeat' split) <;> first | rfl | omega | (simp_all; done))
theorem v_eqTerm (x y : TermD) : C2 CC F_laws_eqTerm [.fv (termF x), .fv (termF y)] (bv (decide (x = y))) [] := by
 obtain ⟨r, a, b, n⟩ := x
 obtain ⟨r', a', b', n'⟩ := y
 have hd : decide ((⟨r, a, b, n⟩ : TermD) = ⟨r', a', b', n'⟩) = (decide (r = r') && decide (a = a') && decide (b = b') && decide (n = n')) := by
  rw [Bool.eq_iff_iff]; simp; simp only [and_assoc]
 rw [hd]
 refine cw (keepF Tryz.f65) Tryz.f65 false ?_
 repeat' first | refine g0 ?_ | refine d0 ?_ | refine j0 (fun hg hgo => ?_) fun hg hgo => ?_ | refine ek_ret ?_ | refine ek_norm ?_ | refine ⟨by omega, ?_⟩ | rfl | trivial | intro _
 all_goals first | rfl | (simp_all [beqD, bneT, bneF]; done) | ((try simp only [bneT, bneF]); (repeat' split) <;> first | omega | (simp_all [beqD]; done) | (simp_all [beqD]; omega)) | (simp_all [beqD, bneT, bneF]; (repeat' split) <;> first | rfl | omega | (simp_all; done))
theorem v_eqArmS (l1 l2 : List ArmD) (hn1 : l1.length < 1073741824) (hn2 : l2.length < 1073741824) (hb1 : ∀ x ∈ l1, True) (hb2 : ∀ x ∈ l2, True) : C2 CC F_laws_eqArmS [.fv (.row 2 (l1.map armF)), .fv (.row 2 (l2.map armF))] (bv (decide (l1 = l2))) [] := by
 refine cw (keepF Tryz.f104) Tryz.f104 false ?_
 repeat' first | refine pd3 17 [0, 0, 3, 7, 0, 0, 48, 112, 255, 511] [0, 0, 0, 1, 0, 0, 0, 1, 5, 0] false ?_ | refine g0 ?_ | refine d0 ?_ | refine j0 (fun hg hgo => ?_) fun hg hgo => ?_ | refine ek_ret ?_ | refine ek_norm ?_ | refine ⟨by omega, ?_⟩ | rfl | trivial | intro _
 ·have : l1 ≠ l2 := fun e => by subst e; simp at hg
  simp [this]
 ·have hlen : l1.length = l2.length := by have := hg; simp at this; omega
  refine pw_loop (fun m st => ∃ j : Nat, j + m = l1.length ∧ (∀ i (h1 : i < l1.length) (h2 : i < l2.length), i < j → l1[i] = l2[i]) ∧ st = [(0, .fv (.row 2 (l1.map armF))), (1, .fv (.row 2 (l2.map armF))), (5, iv j)]) l1.length [(0, .fv (.row 2 (l1.map armF))), (1, .fv (.row 2 (l2.map armF))), (5, iv (0 : Nat))] (sub_of ?_) ⟨0, by omega, fun i _ _ hi => by omega, rfl⟩ ?_
  ·exact dn
  ·rintro m st ⟨j, hj, hb, rfl⟩
   by_cases hlt : j < l1.length
   ·have hd : decide ((j : Int) < (l1.length : Int)) = true := by rw [decide_eq_true_eq]; omega
    have hlt2 : j < l2.length := by omega
    have hm1 : j < (l1.map armF).length := by rw [List.length_map]; exact hlt
    have hm2 : j < (l2.map armF).length := by rw [List.length_map]; exact hlt2
    replace hb : True → _ := fun _ => hb
    have hel := v_eqArm l1[j] l2[j]
    repeat' first | refine ck_intro (by first | exact hel) ?_ ?_ | refine pd3 17 [0, 0, 3, 7, 0, 0, 48, 112, 255, 511] [0, 0, 0, 1, 0, 0, 0, 1, 5, 0] false ?_ | refine g1 @hd ?_ | refine d1 @hd ?_ | refine j1 @hd (fun hg hgo => ?_) fun hg hgo => ?_ | refine ek_ret ?_ | refine ek_norm ?_ | refine ⟨by omega, ?_⟩ | rfl | trivial | intro _
    ·simp [list_ne hlt hlt2 hgo]
    ·refine rd_norm [(0, .fv (.row 2 (l1.map armF))), (1, .fv (.row 2 (l2.map armF))), (5, iv (j + 1 : Nat))] (sub_of ?_) (m - 1) (by omega) ⟨j + 1, by omega, fun i q1 q2 hi => ?_, rfl⟩
     ·exact dn
     ·by_cases hij : i = j
      ·subst hij; exact hgo
      ·exact hb trivial i q1 q2 (by omega)
   ·have hd : decide ((j : Int) < (l1.length : Int)) = false := by rw [decide_eq_false_iff_not]; omega
    have hq : decide (l1 = l2) = true := by rw [decide_eq_true_eq]; exact List.ext_getElem hlen fun i q1 q2 => hb i q1 q2 (by omega)
    repeat' first | refine pd3 17 [0, 0, 3, 7, 0, 0, 48, 112, 255, 511] [0, 0, 0, 1, 0, 0, 0, 1, 5, 0] false ?_ | refine g2 @hd @hq ?_ | refine d2 @hd @hq ?_ | refine j2 @hd @hq (fun hg hgo => ?_) fun hg hgo => ?_ | refine ek_ret ?_ | refine ek_norm ?_ | refine ⟨by omega, ?_⟩ | rfl | trivial | intro _
theorem v_eqInsS (l1 l2 : List StepD) (hn1 : l1.length < 1073741824) (hn2 : l2.length < 1073741824) (hb1 : ∀ x ∈ l1, True) (hb2 : ∀ x ∈ l2, True) : C2 CC F_laws_eqInsS [.fv (.row 5 (l1.map stF)), .fv (.row 5 (l2.map stF))] (bv (decide (l1 = l2))) [] := by
 refine cw (keepF Tryz.f64) Tryz.f64 false ?_
 repeat' first | refine pd3 17 [0, 0, 3, 7, 0, 0, 48, 112, 255, 511] [0, 0, 0, 1, 0, 0, 0, 1, 5, 0] false ?_ | refine g0 ?_ | refine d0 ?_ | refine j0 (fun hg hgo => ?_) fun hg hgo => ?_ | refine ek_ret ?_ | refine ek_norm ?_ | refine ⟨by omega, ?_⟩ | rfl | trivial | intro _
 ·have : l1 ≠ l2 := fun e => by subst e; simp at hg
  simp [this]
 ·have hlen : l1.length = l2.length := by have := hg; simp at this; omega
  refine pw_loop (fun m st => ∃ j : Nat, j + m = l1.length ∧ (∀ i (h1 : i < l1.length) (h2 : i < l2.length), i < j → l1[i] = l2[i]) ∧ st = [(0, .fv (.row 5 (l1.map stF))), (1, .fv (.row 5 (l2.map stF))), (5, iv j)]) l1.length [(0, .fv (.row 5 (l1.map stF))), (1, .fv (.row 5 (l2.map stF))), (5, iv (0 : Nat))] (sub_of ?_) ⟨0, by omega, fun i _ _ hi => by omega, rfl⟩ ?_
  ·exact dn
  ·rintro m st ⟨j, hj, hb, rfl⟩
   by_cases hlt : j < l1.length
   ·have hd : decide ((j : Int) < (l1.length : Int)) = true := by rw [decide_eq_true_eq]; omega
    have hlt2 : j < l2.length := by omega
    have hm1 : j < (l1.map stF).length := by rw [List.length_map]; exact hlt
    have hm2 : j < (l2.map stF).length := by rw [List.length_map]; exact hlt2
    replace hb : True → _ := fun _ => hb
    have hel := v_eqIns l1[j] l2[j]
    repeat' first | refine ck_intro (by first | exact hel) ?_ ?_ | refine pd3 17 [0, 0, 3, 7, 0, 0, 48, 112, 255, 511] [0, 0, 0, 1, 0, 0, 0, 1, 5, 0] false ?_ | refine g1 @hd ?_ | refine d1 @hd ?_ | refine j1 @hd (fun hg hgo => ?_) fun hg hgo => ?_ | refine ek_ret ?_ | refine ek_norm ?_ | refine ⟨by omega, ?_⟩ | rfl | trivial | intro _
    ·simp [list_ne hlt hlt2 hgo]
    ·refine rd_norm [(0, .fv (.row 5 (l1.map stF))), (1, .fv (.row 5 (l2.map stF))), (5, iv (j + 1 : Nat))] (sub_of ?_) (m - 1) (by omega) ⟨j + 1, by omega, fun i q1 q2 hi => ?_, rfl⟩
     ·exact dn
     ·by_cases hij : i = j
      ·subst hij; exact hgo
      ·exact hb trivial i q1 q2 (by omega)
   ·have hd : decide ((j : Int) < (l1.length : Int)) = false := by rw [decide_eq_false_iff_not]; omega
    have hq : decide (l1 = l2) = true := by rw [decide_eq_true_eq]; exact List.ext_getElem hlen fun i q1 q2 => hb i q1 q2 (by omega)
    repeat' first | refine pd3 17 [0, 0, 3, 7, 0, 0, 48, 112, 255, 511] [0, 0, 0, 1, 0, 0, 0, 1, 5, 0] false ?_ | refine g2 @hd @hq ?_ | refine d2 @hd @hq ?_ | refine j2 @hd @hq (fun hg hgo => ?_) fun hg hgo => ?_ | refine ek_ret ?_ | refine ek_norm ?_ | refine ⟨by omega, ?_⟩ | rfl | trivial | intro _
theorem v_eqPhi (x y : PhiD) (hx : x.ok) (hy : y.ok) : C2 CC F_laws_eqPhi [.fv (phiF x), .fv (phiF y)] (bv (decide (x = y))) [] := by
 obtain ⟨d, l⟩ := x
 obtain ⟨d', l'⟩ := y
 have hd : decide ((⟨d, l⟩ : PhiD) = ⟨d', l'⟩) = (decide (d = d') && decide (l = l')) := by
  rw [Bool.eq_iff_iff]; simp
 rw [hd]
 have he := v_eqArmS l l' hx hy (fun _ _ => trivial) (fun _ _ => trivial)
 refine cw (keepF Tryz.f91) Tryz.f91 false ?_
 repeat' first | refine ck_intro (by first | exact he) ?_ ?_ | refine g0 ?_ | refine d0 ?_ | refine j0 (fun hg hgo => ?_) fun hg hgo => ?_ | refine ek_ret ?_ | refine ek_norm ?_ | refine ⟨by omega, ?_⟩ | rfl | trivial | intro _
 all_goals first | rfl | (simp_all [beqD, bneT, bneF]; done) | ((try simp only [bneT, bneF]); (repeat' split) <;> first | omega | (simp_all [beqD]; done) | (simp_all [beqD]; omega)) | (simp_all [beqD, bneT, bneF]; (repeat' split) <;> first | rfl | omega | (simp_all; done))
theorem v_eqPhiS (l1 l2 : List PhiD) (hn1 : l1.length < 1073741824) (hn2 : l2.length < 1073741824) (hb1 : ∀ x ∈ l1, x.ok) (hb2 : ∀ x ∈ l2, x.ok) : C2 CC F_laws_eqPhiS [.fv (.row 2 (l1.map phiF)), .fv (.row 2 (l2.map phiF))] (bv (decide (l1 = l2))) [] := by
 refine cw (keepF Tryz.f63) Tryz.f63 false ?_
 repeat' first | refine pd3 17 [0, 0, 3, 7, 0, 0, 48, 112, 255, 511] [0, 0, 0, 1, 0, 0, 0, 1, 5, 0] false ?_ | refine g0 ?_ | refine d0 ?_ | refine j0 (fun hg hgo => ?_) fun hg hgo => ?_ | refine ek_ret ?_ | refine ek_norm ?_ | refine ⟨by omega, ?_⟩ | rfl | trivial | intro _
 ·have : l1 ≠ l2 := fun e => by subst e; simp at hg
  simp [this]
 ·have hlen : l1.length = l2.length := by have := hg; simp at this; omega
  refine pw_loop (fun m st => ∃ j : Nat, j + m = l1.length ∧ (∀ i (h1 : i < l1.length) (h2 : i < l2.length), i < j → l1[i] = l2[i]) ∧ st = [(0, .fv (.row 2 (l1.map phiF))), (1, .fv (.row 2 (l2.map phiF))), (5, iv j)]) l1.length [(0, .fv (.row 2 (l1.map phiF))), (1, .fv (.row 2 (l2.map phiF))), (5, iv (0 : Nat))] (sub_of ?_) ⟨0, by omega, fun i _ _ hi => by omega, rfl⟩ ?_
  ·exact dn
  ·rintro m st ⟨j, hj, hb, rfl⟩
   by_cases hlt : j < l1.length
   ·have hd : decide ((j : Int) < (l1.length : Int)) = true := by rw [decide_eq_true_eq]; omega
    have hlt2 : j < l2.length := by omega
    have hm1 : j < (l1.map phiF).length := by rw [List.length_map]; exact hlt
    have hm2 : j < (l2.map phiF).length := by rw [List.length_map]; exact hlt2
    replace hb : True → _ := fun _ => hb
    have hel := v_eqPhi l1[j] l2[j] (hb1 _ (List.getElem_mem hlt)) (hb2 _ (List.getElem_mem hlt2))
    repeat' first | refine ck_intro (by first | exact hel) ?_ ?_ | refine pd3 17 [0, 0, 3, 7, 0, 0, 48, 112, 255, 511] [0, 0, 0, 1, 0, 0, 0, 1, 5, 0] false ?_ | refine g1 @hd ?_ | refine d1 @hd ?_ | refine j1 @hd (fun hg hgo => ?_) fun hg hgo => ?_ | refine ek_ret ?_ | refine ek_norm ?_ | refine ⟨by omega, ?_⟩ | rfl | trivial | intro _
    ·simp [list_ne hlt hlt2 hgo]
    ·refine rd_norm [(0, .fv (.row 2 (l1.map phiF))), (1, .fv (.row 2 (l2.map phiF))), (5, iv (j + 1 : Nat))] (sub_of ?_) (m - 1) (by omega) ⟨j + 1, by omega, fun i q1 q2 hi => ?_, rfl⟩
     ·exact dn
     ·by_cases hij : i = j
      ·subst hij; exact hgo
      ·exact hb trivial i q1 q2 (by omega)
   ·have hd : decide ((j : Int) < (l1.length : Int)) = false := by rw [decide_eq_false_iff_not]; omega
    have hq : decide (l1 = l2) = true := by rw [decide_eq_true_eq]; exact List.ext_getElem hlen fun i q1 q2 => hb i q1 q2 (by omega)
    repeat' first | refine pd3 17 [0, 0, 3, 7, 0, 0, 48, 112, 255, 511] [0, 0, 0, 1, 0, 0, 0, 1, 5, 0] false ?_ | refine g2 @hd @hq ?_ | refine d2 @hd @hq ?_ | refine j2 @hd @hq (fun hg hgo => ?_) fun hg hgo => ?_ | refine ek_ret ?_ | refine ek_norm ?_ | refine ⟨by omega, ?_⟩ | rfl | trivial | intro _
theorem v_eqBlock (x y : BlockD) (hx : x.ok) (hy : y.ok) : C2 CC F_laws_eqBlock [.fv (blockF x), .fv (blockF y)] (bv (decide (x = y))) [] := by
 obtain ⟨p, l, t⟩ := x
 obtain ⟨p', l', t'⟩ := y
 have hd : decide ((⟨p, l, t⟩ : BlockD) = ⟨p', l', t'⟩) = (decide (p = p') && decide (l = l') && decide (t = t')) := by
  rw [Bool.eq_iff_iff]; simp; simp only [and_assoc]
 rw [hd]
 have he := v_eqPhiS p p' hx.1 hy.1 hx.2.1 hy.2.1
 have he2 := v_eqInsS l l' hx.2.2 hy.2.2 (fun _ _ => trivial) (fun _ _ => trivial)
 have he3 := v_eqTerm t t'
 refine cw (keepF Tryz.f39) Tryz.f39 false ?_
 repeat' first | refine ck_intro (by first | exact he | exact he2 | exact he3) ?_ ?_ | refine g0 ?_ | refine d0 ?_ | refine j0 (fun hg hgo => ?_) fun hg hgo => ?_ | refine ek_ret ?_ | refine ek_norm ?_ | refine ⟨by omega, ?_⟩ | rfl | trivial | intro _
 all_goals first | rfl | (simp_all [beqD, bneT, bneF]; done) | ((try simp only [bneT, bneF]); (repeat' split) <;> first | omega | (simp_all [beqD]; done) | (simp_all [beqD]; omega)) | (simp_all [beqD, bneT, bneF]; (repeat' split) <;> first | rfl | omega | (simp_all; done))
theorem v_eqBlockS (l1 l2 : List BlockD) (hn1 : l1.length < 1073741824) (hn2 : l2.length < 1073741824) (hb1 : ∀ x ∈ l1, x.ok) (hb2 : ∀ x ∈ l2, x.ok) : C2 CC F_laws_eqBlockS [.fv (.row 6 (l1.map blockF)), .fv (.row 6 (l2.map blockF))] (bv (decide (l1 = l2))) [] := by
 refine cw (keepF Tryz.f23) Tryz.f23 false ?_
 repeat' first | refine pd3 17 [0, 0, 3, 7, 0, 0, 48, 112, 255, 511] [0, 0, 0, 1, 0, 0, 0, 1, 5, 0] false ?_ | refine g0 ?_ | refine d0 ?_ | refine j0 (fun hg hgo => ?_) fun hg hgo => ?_ | refine ek_ret ?_ | refine ek_norm ?_ | refine ⟨by omega, ?_⟩ | rfl | trivial | intro _
 ·have : l1 ≠ l2 := fun e => by subst e; simp at hg
  simp [this]
 ·have hlen : l1.length = l2.length := by have := hg; simp at this; omega
  refine pw_loop (fun m st => ∃ j : Nat, j + m = l1.length ∧ (∀ i (h1 : i < l1.length) (h2 : i < l2.length), i < j → l1[i] = l2[i]) ∧ st = [(0, .fv (.row 6 (l1.map blockF))), (1, .fv (.row 6 (l2.map blockF))), (5, iv j)]) l1.length [(0, .fv (.row 6 (l1.map blockF))), (1, .fv (.row 6 (l2.map blockF))), (5, iv (0 : Nat))] (sub_of ?_) ⟨0, by omega, fun i _ _ hi => by omega, rfl⟩ ?_
  ·exact dn
  ·rintro m st ⟨j, hj, hb, rfl⟩
   by_cases hlt : j < l1.length
   ·have hd : decide ((j : Int) < (l1.length : Int)) = true := by rw [decide_eq_true_eq]; omega
    have hlt2 : j < l2.length := by omega
    have hm1 : j < (l1.map blockF).length := by rw [List.length_map]; exact hlt
    have hm2 : j < (l2.map blockF).length := by rw [List.length_map]; exact hlt2
    replace hb : True → _ := fun _ => hb
    have hel := v_eqBlock l1[j] l2[j] (hb1 _ (List.getElem_mem hlt)) (hb2 _ (List.getElem_mem hlt2))
    repeat' first | refine ck_intro (by first | exact hel) ?_ ?_ | refine pd3 17 [0, 0, 3, 7, 0, 0, 48, 112, 255, 511] [0, 0, 0, 1, 0, 0, 0, 1, 5, 0] false ?_ | refine g1 @hd ?_ | refine d1 @hd ?_ | refine j1 @hd (fun hg hgo => ?_) fun hg hgo => ?_ | refine ek_ret ?_ | refine ek_norm ?_ | refine ⟨by omega, ?_⟩ | rfl | trivial | intro _
    ·simp [list_ne hlt hlt2 hgo]
    ·refine rd_norm [(0, .fv (.row 6 (l1.map blockF))), (1, .fv (.row 6 (l2.map blockF))), (5, iv (j + 1 : Nat))] (sub_of ?_) (m - 1) (by omega) ⟨j + 1, by omega, fun i q1 q2 hi => ?_, rfl⟩
     ·exact dn
     ·by_cases hij : i = j
      ·subst hij; exact hgo
      ·exact hb trivial i q1 q2 (by omega)
   ·have hd : decide ((j : Int) < (l1.length : Int)) = false := by rw [decide_eq_false_iff_not]; omega
    have hq : decide (l1 = l2) = true := by rw [decide_eq_true_eq]; exact List.ext_getElem hlen fun i q1 q2 => hb i q1 q2 (by omega)
    repeat' first | refine pd3 17 [0, 0, 3, 7, 0, 0, 48, 112, 255, 511] [0, 0, 0, 1, 0, 0, 0, 1, 5, 0] false ?_ | refine g2 @hd @hq ?_ | refine d2 @hd @hq ?_ | refine j2 @hd @hq (fun hg hgo => ?_) fun hg hgo => ?_ | refine ek_ret ?_ | refine ek_norm ?_ | refine ⟨by omega, ?_⟩ | rfl | trivial | intro _
theorem v_eqFn (x y : FnD) (hx : x.ok) (hy : y.ok) : C2 CC F_laws_eqFn [.fv (fnF x), .fv (fnF y)] (bv (decide (x = y))) [] := by
 obtain ⟨p, t⟩ := x
 obtain ⟨p', t'⟩ := y
 have hd : decide ((⟨p, t⟩ : FnD) = ⟨p', t'⟩) = (decide (p = p') && decide (t = t')) := by
  rw [Bool.eq_iff_iff]; simp
 rw [hd]
 have he := v_eqBlockS p p' hx.1 hy.1 hx.2 hy.2
 refine cw (keepF Tryz.f9) Tryz.f9 false ?_
 repeat' first | refine ck_intro (by first | exact he) ?_ ?_ | refine g0 ?_ | refine d0 ?_ | refine j0 (fun hg hgo => ?_) fun hg hgo => ?_ | refine ek_ret ?_ | refine ek_norm ?_ | refine ⟨by omega, ?_⟩ | rfl | trivial | intro _
 all_goals first | rfl | (simp_all [beqD, bneT, bneF]; done) | ((try simp only [bneT, bneF]); (repeat' split) <;> first | omega | (simp_all [beqD]; done) | (simp_all [beqD]; omega)) | (simp_all [beqD, bneT, bneF]; (repeat' split) <;> first | rfl | omega | (simp_all; done))
def sub1 (left : Int) (n : Nat) : Int := if left - n < 0 then -1 else left - n
def szL {α : Type} (e : α → Int → Int) : List α → Int → Int
 | [], left => left
 | x :: l, left => if e x left < 0 then -1 else szL e l (e x left)
def szRow {α : Type} (e : α → Int → Int) (l : List α) (left : Int) : Int := if left - l.length < 0 then -1 else szL e l (left - l.length)
def szP (x : PhiD) (left : Int) : Int := sub1 left x.arms.length
def szB (x : BlockD) (left : Int) : Int := if szRow szP x.phis left < 0 then -1 else sub1 (szRow szP x.phis left) x.list.length
def szFn (x : FnD) (left : Int) : Int := if szRow szB x.blocks left < 0 then -1 else szRow szB x.blocks left
theorem sub1_le (left : Int) (n : Nat) (h : 0 ≤ left) : sub1 left n ≤ left ∧ -1 ≤ sub1 left n := by unfold sub1; split <;> omega
theorem szL_le {α : Type} {e : α → Int → Int} (he : ∀ x left, 0 ≤ left ∧ left ≤ 1048576 → e x left ≤ left ∧ -1 ≤ e x left) : ∀ (l : List α) (left : Int), 0 ≤ left ∧ left ≤ 1048576 → szL e l left ≤ left ∧ -1 ≤ szL e l left
 | [], left, h => by unfold szL; omega
 | x :: l, left, h => by
  unfold szL
  have h1 := he x left h
  split
  ·omega
  ·have := szL_le he l (e x left) (by omega); omega
theorem szRow_le {α : Type} {e : α → Int → Int} (he : ∀ x left, 0 ≤ left ∧ left ≤ 1048576 → e x left ≤ left ∧ -1 ≤ e x left) (l : List α) (left : Int) (h : 0 ≤ left ∧ left ≤ 1048576) : szRow e l left ≤ left ∧ -1 ≤ szRow e l left := by
 unfold szRow
 split
 ·omega
 ·have := szL_le he l (left - l.length) (by omega); omega
theorem szP_le (x : PhiD) (left : Int) (h : 0 ≤ left ∧ left ≤ 1048576) : szP x left ≤ left ∧ -1 ≤ szP x left := sub1_le _ _ h.1
theorem szB_le (x : BlockD) (left : Int) (h : 0 ≤ left ∧ left ≤ 1048576) : szB x left ≤ left ∧ -1 ≤ szB x left := by
 unfold szB
 have h1 := szRow_le szP_le x.phis left h
 split
 ·omega
 ·have := sub1_le (szRow szP x.phis left) x.list.length (by omega); omega
theorem szL_ok {α : Type} {e : α → Int → Int} {P : α → Prop} (he : ∀ x left, 0 ≤ left ∧ left ≤ 1048576 → e x left ≤ left ∧ (0 ≤ e x left → P x)) : ∀ (l : List α) (left : Int), 0 ≤ left ∧ left ≤ 1048576 → 0 ≤ szL e l left → ∀ x ∈ l, P x
 | [], left, h, hz => fun x hx => by simp at hx
 | x :: l, left, h, hz => by
  unfold szL at hz
  have h1 := he x left h
  split at hz
  ·omega
  ·intro y hy
   rcases List.mem_cons.1 hy with rfl | hy
   ·exact h1.2 (by omega)
   ·exact szL_ok he l (e x left) (by omega) hz y hy
theorem szRow_ok {α : Type} {e : α → Int → Int} {P : α → Prop} (he : ∀ x left, 0 ≤ left ∧ left ≤ 1048576 → e x left ≤ left ∧ (0 ≤ e x left → P x)) (l : List α) (left : Int) (h : 0 ≤ left ∧ left ≤ 1048576) (hz : 0 ≤ szRow e l left) : l.length ≤ 1048576 ∧ ∀ x ∈ l, P x := by
 unfold szRow at hz
 split at hz
 ·omega
 ·exact ⟨by omega, szL_ok he l _ (by omega) hz⟩
theorem szP_ok (x : PhiD) (left : Int) (h : 0 ≤ left ∧ left ≤ 1048576) (hz : 0 ≤ szP x left) : x.arms.length ≤ 1048576 := by unfold szP sub1 at hz; split at hz <;> omega
theorem szB_ok (x : BlockD) (left : Int) (h : 0 ≤ left ∧ left ≤ 1048576) (hz : 0 ≤ szB x left) : x.phis.length ≤ 1048576 ∧ (∀ p ∈ x.phis, p.arms.length ≤ 1048576) ∧ x.list.length ≤ 1048576 := by
 unfold szB at hz
 have h1 := szRow_le szP_le x.phis left h
 split at hz
 ·omega
 ·have h2 := szRow_ok (P := fun p => p.arms.length ≤ 1048576) (fun x left h => ⟨(szP_le x left h).1, szP_ok x left h⟩) x.phis left h (by omega)
  refine ⟨h2.1, h2.2, ?_⟩
  unfold sub1 at hz; split at hz <;> omega
theorem szFn_ok (x : FnD) (hz : 0 ≤ szFn x 1048576) : x.blocks.length ≤ 1048576 ∧ (∀ b ∈ x.blocks, b.phis.length ≤ 1048576 ∧ (∀ p ∈ b.phis, p.arms.length ≤ 1048576) ∧ b.list.length ≤ 1048576) ∧ x.ok := by
 unfold szFn at hz
 split at hz
 ·omega
 ·have h2 := szRow_ok (P := fun b : BlockD => b.phis.length ≤ 1048576 ∧ (∀ p ∈ b.phis, p.arms.length ≤ 1048576) ∧ b.list.length ≤ 1048576) (fun x left h => ⟨(szB_le x left h).1, szB_ok x left h⟩) x.blocks 1048576 (by omega) hz
  refine ⟨h2.1, h2.2, ?_, fun b hb => ?_⟩
  ·have := h2.1; omega
  ·obtain ⟨a, b1, c⟩ := h2.2 b hb
   exact ⟨by omega, fun p hp => by have := b1 p hp; unfold PhiD.ok; omega, by omega⟩
def PhiD.ln (p : PhiD) : Prop := p.arms.length ≤ 9223372036854775807
def BlockD.ln (b : BlockD) : Prop := b.phis.length ≤ 9223372036854775807 ∧ (∀ p ∈ b.phis, p.ln) ∧ b.list.length ≤ 9223372036854775807
def FnD.ln (f : FnD) : Prop := f.blocks.length ≤ 9223372036854775807 ∧ ∀ b ∈ f.blocks, b.ln
theorem v_szArmS (l : List ArmD) (left : Int) (h0 : 0 ≤ left ∧ left ≤ 1048576) (hn : l.length ≤ 9223372036854775807) : C2 CC F_laws_szArmS [.fv (.row 2 (l.map armF)), iv left] (iv (sub1 left l.length)) [] := by
 refine cw (keepF Tryz.f93) Tryz.f93 false ?_
 repeat' first | refine g0 ?_ | refine d0 ?_ | refine j0 (fun hg hgo => ?_) fun hg hgo => ?_ | refine ek_ret ?_ | refine ek_norm ?_ | refine ⟨by omega, ?_⟩ | rfl | trivial | intro _
 all_goals first | rfl | (simp_all [beqD, sub1]; done) | ((try simp only [sub1]); (repeat' split) <;> first | omega | (simp_all [beqD]; done) | (simp_all [beqD]; omega)) | (simp_all [beqD, sub1]; (repeat' split) <;> first | rfl | omega | (simp_all; done))
theorem v_szInsS (l : List StepD) (left : Int) (h0 : 0 ≤ left ∧ left ≤ 1048576) (hn : l.length ≤ 9223372036854775807) : C2 CC F_laws_szInsS [.fv (.row 5 (l.map stF)), iv left] (iv (sub1 left l.length)) [] := by
 refine cw (keepF Tryz.f45) Tryz.f45 false ?_
 repeat' first | refine g0 ?_ | refine d0 ?_ | refine j0 (fun hg hgo => ?_) fun hg hgo => ?_ | refine ek_ret ?_ | refine ek_norm ?_ | refine ⟨by omega, ?_⟩ | rfl | trivial | intro _
 all_goals first | rfl | (simp_all [beqD, sub1]; done) | ((try simp only [sub1]); (repeat' split) <;> first | omega | (simp_all [beqD]; done) | (simp_all [beqD]; omega)) | (simp_all [beqD, sub1]; (repeat' split) <;> first | rfl | omega | (simp_all; done))
theorem v_szPhi (x : PhiD) (left : Int) (h0 : 0 ≤ left ∧ left ≤ 1048576) (hx : x.ln) : C2 CC F_laws_szPhi [.fv (phiF x), iv left] (iv (szP x left)) [] := by
 obtain ⟨d, arms⟩ := x
 have he := v_szArmS arms left h0 hx
 refine cw (keepF Tryz.f68) Tryz.f68 false ?_
 repeat' first | refine ck_intro (by first | exact he) ?_ ?_ | refine g0 ?_ | refine d0 ?_ | refine j0 (fun hg hgo => ?_) fun hg hgo => ?_ | refine ek_ret ?_ | refine ek_norm ?_ | refine ⟨by omega, ?_⟩ | rfl | trivial | intro _
 all_goals first | rfl | (simp_all [beqD, szP, sub1]; done) | ((try simp only [szP, sub1]); (repeat' split) <;> first | omega | (simp_all [beqD]; done) | (simp_all [beqD]; omega)) | (simp_all [beqD, szP, sub1]; (repeat' split) <;> first | rfl | omega | (simp_all; done))
theorem v_szPhiS (l : List PhiD) (left : Int) (h0 : 0 ≤ left ∧ left ≤ 1048576) (hn : l.length ≤ 9223372036854775807) (hb : ∀ x ∈ l, x.ln) : C2 CC F_laws_szPhiS [.fv (.row 2 (l.map phiF)), iv left] (iv (szRow szP l left)) [] := by
 unfold szRow
 refine cw (keepF Tryz.f44) Tryz.f44 false ?_
 repeat' first | refine g0 ?_ | refine d0 ?_ | refine j0 (fun hg hgo => ?_) fun hg hgo => ?_ | refine ek_ret ?_ | refine ek_norm ?_ | refine ⟨by omega, ?_⟩ | rfl | trivial | intro _
 ·refine pw_loop (fun m st => ∃ (j : Nat) (lf : Int), j + m = l.length ∧ szL szP l (left - l.length) = szL szP (l.drop j) lf ∧ 0 ≤ lf ∧ lf ≤ 1048576 ∧ st = [(0, .fv (.row 2 (l.map phiF))), (1, iv lf), (5, iv j)]) l.length [(0, .fv (.row 2 (l.map phiF))), (1, iv (left - l.length)), (5, iv (0 : Nat))] (sub_of ?_) ⟨0, _, by omega, by rw [List.drop_zero], by omega, by omega, rfl⟩ ?_
  ·exact dn
  ·rintro m st ⟨j, lf, hj, hz, hl0, hl1, rfl⟩
   rw [hz]
   by_cases hlt : j < l.length
   ·have hd : decide ((j : Int) < (l.length : Int)) = true := by rw [decide_eq_true_eq]; omega
    have hm1 : j < (l.map phiF).length := by rw [List.length_map]; exact hlt
    have hel := v_szPhi l[j] lf ⟨hl0, hl1⟩ (hb _ (List.getElem_mem hlt))
    have hle := szP_le l[j] lf ⟨hl0, hl1⟩
    rw [List.drop_eq_getElem_cons hlt, szL] at hz ⊢
    repeat' first | refine ck_intro (by first | exact hel) ?_ ?_ | refine g1 @hd ?_ | refine d1 @hd ?_ | refine j1 @hd (fun hg hgo => ?_) fun hg hgo => ?_ | refine ek_ret ?_ | refine ek_norm ?_ | refine ⟨by omega, ?_⟩ | rfl | trivial | intro _
    ·rw [if_neg (by omega)] at hz
     refine rd_norm [(0, .fv (.row 2 (l.map phiF))), (1, iv (szP l[j] lf)), (5, iv (j + 1 : Nat))] (sub_of ?_) (m - 1) (by omega) ⟨j + 1, _, by omega, rfl, by omega, by omega, rfl⟩
     exact dn
   ·have hd : decide ((j : Int) < (l.length : Int)) = false := by rw [decide_eq_false_iff_not]; omega
    rw [List.drop_eq_nil_of_le (by omega), szL]
    repeat' first | refine g1 @hd ?_ | refine d1 @hd ?_ | refine j1 @hd (fun hg hgo => ?_) fun hg hgo => ?_ | refine ek_ret ?_ | refine ek_norm ?_ | refine ⟨by omega, ?_⟩ | rfl | trivial | intro _
theorem v_szBlock (x : BlockD) (left : Int) (h0 : 0 ≤ left ∧ left ≤ 1048576) (hx : x.ln) : C2 CC F_laws_szBlock [.fv (blockF x), iv left] (iv (szB x left)) [] := by
 obtain ⟨phis, list, term⟩ := x
 have he := v_szPhiS phis left h0 hx.1 hx.2.1
 have hle := szRow_le szP_le phis left h0
 have hll := hx.2.2
 unfold szB
 refine cw (keepF Tryz.f26) Tryz.f26 false ?_
 repeat' first | refine ck_intro (by first | exact he | exact v_szInsS _ _ (by omega) hll) ?_ ?_ | refine g0 ?_ | refine d0 ?_ | refine j0 (fun hg hgo => ?_) fun hg hgo => ?_ | refine ek_ret ?_ | refine ek_norm ?_ | refine ⟨by omega, ?_⟩ | rfl | trivial | intro _
 all_goals first | rfl | (simp_all [beqD, sub1]; done) | ((try simp only [sub1]); (repeat' split) <;> first | omega | (simp_all [beqD]; done) | (simp_all [beqD]; omega)) | (simp_all [beqD, sub1]; (repeat' split) <;> first | rfl | omega | (simp_all; done))
theorem v_szBlockS (l : List BlockD) (left : Int) (h0 : 0 ≤ left ∧ left ≤ 1048576) (hn : l.length ≤ 9223372036854775807) (hb : ∀ x ∈ l, x.ln) : C2 CC F_laws_szBlockS [.fv (.row 6 (l.map blockF)), iv left] (iv (szRow szB l left)) [] := by
 unfold szRow
 refine cw (keepF Tryz.f14) Tryz.f14 false ?_
 repeat' first | refine g0 ?_ | refine d0 ?_ | refine j0 (fun hg hgo => ?_) fun hg hgo => ?_ | refine ek_ret ?_ | refine ek_norm ?_ | refine ⟨by omega, ?_⟩ | rfl | trivial | intro _
 ·refine pw_loop (fun m st => ∃ (j : Nat) (lf : Int), j + m = l.length ∧ szL szB l (left - l.length) = szL szB (l.drop j) lf ∧ 0 ≤ lf ∧ lf ≤ 1048576 ∧ st = [(0, .fv (.row 6 (l.map blockF))), (1, iv lf), (5, iv j)]) l.length [(0, .fv (.row 6 (l.map blockF))), (1, iv (left - l.length)), (5, iv (0 : Nat))] (sub_of ?_) ⟨0, _, by omega, by rw [List.drop_zero], by omega, by omega, rfl⟩ ?_
  ·exact dn
  ·rintro m st ⟨j, lf, hj, hz, hl0, hl1, rfl⟩
   rw [hz]
   by_cases hlt : j < l.length
   ·have hd : decide ((j : Int) < (l.length : Int)) = true := by rw [decide_eq_true_eq]; omega
    have hm1 : j < (l.map blockF).length := by rw [List.length_map]; exact hlt
    have hel := v_szBlock l[j] lf ⟨hl0, hl1⟩ (hb _ (List.getElem_mem hlt))
    have hle := szB_le l[j] lf ⟨hl0, hl1⟩
    rw [List.drop_eq_getElem_cons hlt, szL] at hz ⊢
    repeat' first | refine ck_intro (by first | exact hel) ?_ ?_ | refine g1 @hd ?_ | refine d1 @hd ?_ | refine j1 @hd (fun hg hgo => ?_) fun hg hgo => ?_ | refine ek_ret ?_ | refine ek_norm ?_ | refine ⟨by omega, ?_⟩ | rfl | trivial | intro _
    ·rw [if_neg (by omega)] at hz
     refine rd_norm [(0, .fv (.row 6 (l.map blockF))), (1, iv (szB l[j] lf)), (5, iv (j + 1 : Nat))] (sub_of ?_) (m - 1) (by omega) ⟨j + 1, _, by omega, rfl, by omega, by omega, rfl⟩
     exact dn
   ·have hd : decide ((j : Int) < (l.length : Int)) = false := by rw [decide_eq_false_iff_not]; omega
    rw [List.drop_eq_nil_of_le (by omega), szL]
    repeat' first | refine g1 @hd ?_ | refine d1 @hd ?_ | refine j1 @hd (fun hg hgo => ?_) fun hg hgo => ?_ | refine ek_ret ?_ | refine ek_norm ?_ | refine ⟨by omega, ?_⟩ | rfl | trivial | intro _
theorem v_szFn (x : FnD) (left : Int) (h0 : 0 ≤ left ∧ left ≤ 1048576) (hx : x.ln) : C2 CC F_laws_szFn [.fv (fnF x), iv left] (iv (szFn x left)) [] := by
 obtain ⟨blocks, values⟩ := x
 have he := v_szBlockS blocks left h0 hx.1 hx.2
 unfold szFn
 refine cw (keepF Tryz.f4) Tryz.f4 false ?_
 repeat' first | refine ck_intro (by first | exact he) ?_ ?_ | refine g0 ?_ | refine d0 ?_ | refine j0 (fun hg hgo => ?_) fun hg hgo => ?_ | refine ek_ret ?_ | refine ek_norm ?_ | refine ⟨by omega, ?_⟩ | rfl | trivial | intro _
 all_goals first | rfl | (simp_all [beqD, sub1]; done) | ((try simp only [sub1]); (repeat' split) <;> first | omega | (simp_all [beqD]; done) | (simp_all [beqD]; omega)) | (simp_all [beqD, sub1]; (repeat' split) <;> first | rfl | omega | (simp_all; done))
theorem fzL_rowD {α : Type} {o : α → DV} {g : α → FV} (h : ∀ x, fzD (o x) = some (g x)) : ∀ (l : List α), fzL (rowD o l) = some (l.map g)
 | [] => rfl
 | a :: l => by
  have ih := fzL_rowD h l
  unfold rowD at ih ⊢
  rw [List.map_cons, fzL_cons, h a, ih]; rfl
@[go_sem] theorem fzL_arms {l : List ArmD} : fzL (rowD armO l) = some (l.map armF) := fzL_rowD (fun _ => rfl) l
@[go_sem] theorem fzD_phiO {x : PhiD} : fzD (phiO x) = some (phiF x) := by
 show fzD (.agg _) = _; rw [fzD_agg, fzL_cons, fzD_fv, fzL_cons, fzD_own, fzL_arms]; rfl
@[go_sem] theorem fzL_phis {l : List PhiD} : fzL (rowD phiO l) = some (l.map phiF) := fzL_rowD (fun _ => fzD_phiO) l
@[go_sem] theorem fzL_ins {l : List StepD} : fzL (rowD sF l) = some (l.map stF) := fzL_rowD (fun _ => rfl) l
@[go_sem] theorem fzD_blockO {x : BlockD} : fzD (blockO x) = some (blockF x) := by
 show fzD (.agg _) = _; rw [fzD_agg, fzL_cons, fzD_own, fzL_phis, fzL_cons, fzD_own, fzL_ins]; rfl
@[go_sem] theorem fzL_blocks {l : List BlockD} : fzL (rowD blockO l) = some (l.map blockF) := fzL_rowD (fun _ => fzD_blockO) l
mutual
inductive LeF : FV → FV → Prop
 | same (v : FV) : LeF v v
 | nil (z : Nat) : LeF .nil (.row z [])
 | agg {l m : List FV} : LeFs l m → LeF (.agg l) (.agg m)
inductive LeFs : List FV → List FV → Prop
 | nil : LeFs [] []
 | cons {a b : FV} {l m : List FV} : LeF a b → LeFs l m → LeFs (a :: l) (b :: m)
end
mutual
theorem fr_le {h : Hp} {ow : Nat → Ow} {B : Nat} : ∀ {u v : FV}, LeF u v → ∀ {cs : List Value}, FR h ow B u cs → FR h ow B v cs
 | _, _, .same v, cs, e => e
 | _, _, .nil z, cs, e => by unfold FR at e ⊢; exact .inl ⟨rfl, e⟩
 | _, _, .agg hl, cs, e => by
  unfold FR at e ⊢
  obtain ⟨css, h1, h2⟩ := e
  exact ⟨css, h1, frs_le hl h2⟩
theorem frs_le {h : Hp} {ow : Nat → Ow} {B : Nat} : ∀ {l m : List FV}, LeFs l m → ∀ {css : List (List Value)}, FRs h ow B l css → FRs h ow B m css
 | _, _, .nil, css, e => e
 | _, _, .cons ha hl, css, e => by
  unfold FRs at e ⊢
  obtain ⟨c, r, h1, h2, h3⟩ := e
  exact ⟨c, r, h1, fr_le ha h2, frs_le hl h3⟩
end
mutual
inductive LeD : DV → DV → Prop
 | same (d : DV) : LeD d d
 | fv {u v : FV} : LeF u v → LeD (.fv u) (.fv v)
 | fagg {l : List FV} {m : List DV} : LeDs (l.map .fv) m → LeD (.fv (.agg l)) (.agg m)
 | agg {l m : List DV} : LeDs l m → LeD (.agg l) (.agg m)
 | own {z : Nat} {l m : List DV} : LeDs l m → LeD (.own z l) (.own z m)
inductive LeDs : List DV → List DV → Prop
 | nil : LeDs [] []
 | cons {a b : DV} {l m : List DV} : LeD a b → LeDs l m → LeDs (a :: l) (b :: m)
end
theorem leDs_len : ∀ {l m : List DV}, LeDs l m → l.length = m.length
 | _, _, .nil => rfl
 | _, _, .cons _ hl => by rw [List.length_cons, List.length_cons, leDs_len hl]
theorem drs_fv {h : Hp} {ow : Nat → Ow} {B : Nat} {top : Bool} {p : Pt} : ∀ {l : List FV} {i : Nat} {css : List (List Value)}, FRs h ow B l css → DRs h ow B top p i (l.map .fv) css
 | [], i, css, e => by unfold FRs at e; unfold List.map DRs; exact e
 | v :: l, i, css, e => by
  unfold FRs at e
  obtain ⟨c, r, h1, h2, h3⟩ := e
  rw [List.map_cons]; unfold DRs
  exact ⟨c, r, h1, by unfold DR; exact h2, drs_fv h3⟩
mutual
theorem dr_le {h : Hp} {ow : Nat → Ow} {B : Nat} : ∀ {d d' : DV}, LeD d d' → ∀ {top : Bool} {p : Pt} {cs : List Value}, DR h ow B top p d cs → DR h ow B top p d' cs
 | _, _, .same d, top, p, cs, e => e
 | _, _, .fv hl, top, p, cs, e => by unfold DR at e ⊢; exact fr_le hl e
 | _, _, .fagg hl, top, p, cs, e => by
  unfold DR FR at e
  obtain ⟨css, h1, h2⟩ := e
  unfold DR
  exact ⟨css, h1, drs_le hl (drs_fv h2)⟩
 | _, _, .agg hl, top, p, cs, e => by
  unfold DR at e ⊢
  obtain ⟨css, h1, h2⟩ := e
  exact ⟨css, h1, drs_le hl h2⟩
 | _, _, .own hl, top, p, cs, e => by
  unfold DR at e ⊢
  obtain ⟨n, css, h1, h2, h3, h4, h5, h6, h7⟩ := e
  rw [leDs_len hl] at h1 h4
  exact ⟨n, css, h1, h2, h3, h4, h5, h6, drs_le hl h7⟩
theorem drs_le {h : Hp} {ow : Nat → Ow} {B : Nat} : ∀ {l m : List DV}, LeDs l m → ∀ {top : Bool} {p : Pt} {i : Nat} {css : List (List Value)}, DRs h ow B top p i l css → DRs h ow B top p i m css
 | _, _, .nil, top, p, i, css, e => e
 | _, _, .cons ha hl, top, p, i, css, e => by
  unfold DRs at e ⊢
  obtain ⟨c, r, h1, h2, h3⟩ := e
  exact ⟨c, r, h1, dr_le ha h2, drs_le hl h3⟩
end
theorem leF_agg {u v : FV} (h : LeF u v) : isAggF u = isAggF v := by cases h <;> rfl
theorem leD_agg {d d' : DV} (h : LeD d d') : isAgg d = isAgg d' := by
 cases h with
 | fv h => exact leF_agg h
 | _ => rfl
theorem vrc_le {h : Hp} {ow : Nat → Ow} {B : Nat} {p : Pt} {d d' : DV} {v : Value} (hl : LeD d d') (e : VRc h ow B p d v) : VRc h ow B p d' v := by
 rcases e with ⟨k, rfl⟩ | ⟨cs, h1, h2⟩
 ·cases hl; exact .inl ⟨k, rfl⟩
 ·exact .inr ⟨cs, dr_le hl h1, by rw [← leD_agg hl]; exact h2⟩
theorem vrs_le {h : Hp} {ow : Nat → Ow} {B : Nat} : ∀ {l m : List DV}, LeDs l m → ∀ {p : Pt} {i : Nat} {vs : List Value}, VRs h ow B p i l vs → VRs h ow B p i m vs
 | _, _, .nil, p, i, vs, e => e
 | _, _, .cons ha hl, p, i, vs, e => by
  unfold VRs at e ⊢
  obtain ⟨c, r, h1, h2, h3⟩ := e
  exact ⟨c, r, h1, vrc_le ha h2, vrs_le hl h3⟩
theorem c2_tup {C : Rel} {f : FuncId} {ds outs l m : List DV} (hl : LeDs l m) (h : C2 C f ds (.tup l) outs) : C2 C f ds (.tup m) outs := by
 unfold C2 at h ⊢
 intro hp ow vs h1 h2 h3 h4 h5 h6
 obtain ⟨v, h', ow', r1, r2, r3, r4, r5, r6, r7⟩ := h hp ow vs h1 h2 h3 h4 h5 h6
 refine ⟨v, h', ow', r1, r2, r3, r4, r5, ?_, r7⟩
 rcases r6 with ⟨l', vs, hk, q1, q2⟩ | ⟨k, hk⟩ | ⟨cs, q1, q2⟩
 ·injection hk with hk; subst hk
  exact .inl ⟨m, vs, rfl, q1, vrs_le hl q2⟩
 ·cases hk
 ·unfold DR at q1; exact q1.elim
def rowE {α : Type} (z : Nat) (o : α → DV) (l : List α) : DV := if l = [] then .fv (.row z []) else .own z (rowD o l)
theorem rowE_nil {α : Type} {z : Nat} {o : α → DV} : rowE z o [] = .fv (.row z []) := rfl
theorem rowE_ne {α : Type} {z : Nat} {o : α → DV} {l : List α} (h : l ≠ []) : rowE z o l = .own z (rowD o l) := by unfold rowE; rw [if_neg h]
theorem nr_rowE {α : Type} {z : Nat} {o : α → DV} {l : List α} (h : ∀ x, noRef (o x) = true) : noRef (rowE z o l) = true := by
 unfold rowE; split
 ·rfl
 ·rw [nr_own]; exact nrs_rowD h
theorem fz_rowE {α : Type} {z : Nat} {o : α → DV} {g : α → FV} {l : List α} (h : ∀ x, fzD (o x) = some (g x)) : fzD (rowE z o l) = some (.row z (l.map g)) := by
 unfold rowE; split
 ·rename_i e; subst e; rfl
 ·rw [fzD_own, fzL_rowD h]; rfl
theorem clDs_rowD {α : Type} {o : α → DV} (h : ∀ x, clD (o x) = true) : ∀ {l : List α}, clDs (rowD o l) = true
 | [] => rfl
 | a :: l => by
  have ih := clDs_rowD h (l := l)
  unfold rowD at ih ⊢
  rw [List.map_cons, clDs_cons, h a, ih]; rfl
theorem cl_rowE {α : Type} {z : Nat} {o : α → DV} {l : List α} (h : ∀ x, clD (o x) = true) : clD (rowE z o l) = true := by
 unfold rowE; split
 ·rfl
 ·rw [clD_own]; exact clDs_rowD h
def phiE (x : PhiD) : DV := .agg [iv x.d, rowE 2 armO x.arms]
def blockE (x : BlockD) : DV := .agg [rowE 2 phiE x.phis, rowE 5 sF x.list, .fv (termF x.term)]
@[go_sem] theorem nr_phiE {x : PhiD} : noRef (phiE x) = true := by
 unfold phiE; rw [nr_agg, nrs_cons, nrs_cons, nr_rowE fun _ => rfl]; rfl
@[go_sem] theorem nr_blockE {x : BlockD} : noRef (blockE x) = true := by
 unfold blockE; rw [nr_agg, nrs_cons, nrs_cons, nrs_cons, nr_rowE fun _ => nr_phiE, nr_rowE fun _ => rfl]; rfl
@[go_sem] theorem nrs_phiE {l : List PhiD} : noRefs (rowD phiE l) = true := nrs_rowD fun _ => nr_phiE
@[go_sem] theorem nrs_blockE {l : List BlockD} : noRefs (rowD blockE l) = true := nrs_rowD fun _ => nr_blockE
theorem cl_phiE {x : PhiD} : clD (phiE x) = true := by
 unfold phiE; rw [clD_agg, clDs_cons, clDs_cons, cl_rowE fun _ => rfl]; rfl
theorem cl_blockE {x : BlockD} : clD (blockE x) = true := by
 unfold blockE; rw [clD_agg, clDs_cons, clDs_cons, clDs_cons, cl_rowE fun _ => cl_phiE, cl_rowE fun _ => rfl]; rfl
@[go_sem] theorem clDs_blockE {l : List BlockD} : clDs (rowD blockE l) = true := clDs_rowD fun _ => cl_blockE
@[go_sem] theorem fzD_phiE {x : PhiD} : fzD (phiE x) = some (phiF x) := by
 unfold phiE; rw [fzD_agg, fzL_cons, fzD_fv, fzL_cons, fz_rowE (g := armF) fun _ => rfl]; rfl
@[go_sem] theorem fzD_blockE {x : BlockD} : fzD (blockE x) = some (blockF x) := by
 unfold blockE; rw [fzD_agg, fzL_cons, fz_rowE (g := phiF) fun _ => fzD_phiE, fzL_cons, fz_rowE (g := stF) fun _ => rfl]; rfl
@[go_sem] theorem fzL_blockE {l : List BlockD} : fzL (rowD blockE l) = some (l.map blockF) := fzL_rowD (fun _ => fzD_blockE) l
abbrev intR (l : List Int) : FV := .row 1 (l.map (.int .i64))
theorem ints_set {l : List Int} {i : Nat} {b : Int} : (ints l).set i (.fv (.int .i64 b)) = ints (l.set i b) := by unfold ints; rw [List.map_set]
theorem ints_rep {n : Nat} {b : Int} : List.replicate n (DV.fv (.int .i64 b)) = ints (List.replicate n b) := by unfold ints; simp
theorem ints_at {l : List Int} {i : Nat} (h : i < l.length) : (ints l)[i]? = some (.fv (.int .i64 l[i])) := by unfold ints; simp [h]
theorem v_eqIntS (l1 l2 : List Int) (hn1 : l1.length < 1073741824) (hn2 : l2.length < 1073741824) : C2 CC F_laws_eqIntS [.fv (intR l1), .fv (intR l2)] (bv (decide (l1 = l2))) [] := by
 refine cw (keepF Tryz.f10) Tryz.f10 false ?_
 repeat' first | refine pd3 17 [0, 0, 3, 7, 0, 0, 48, 112, 255] [0, 0, 0, 1, 0, 0, 0, 1, 0] false ?_ | refine g0 ?_ | refine d0 ?_ | refine j0 (fun hg hgo => ?_) fun hg hgo => ?_ | refine ek_ret ?_ | refine ek_norm ?_ | refine ⟨by omega, ?_⟩ | rfl | trivial | intro _
 ·have : l1 ≠ l2 := fun e => by subst e; simp at hg
  simp [this]
 ·have hlen : l1.length = l2.length := by have := hg; simp at this; omega
  refine pw_loop (fun m st => ∃ j : Nat, j + m = l1.length ∧ (∀ i (h1 : i < l1.length) (h2 : i < l2.length), i < j → l1[i] = l2[i]) ∧ st = [(0, .fv (intR l1)), (1, .fv (intR l2)), (5, iv j)]) l1.length [(0, .fv (intR l1)), (1, .fv (intR l2)), (5, iv (0 : Nat))] (sub_of ?_) ⟨0, by omega, fun i _ _ hi => by omega, rfl⟩ ?_
  ·exact dn
  ·rintro m st ⟨j, hj, hb, rfl⟩
   by_cases hlt : j < l1.length
   ·have hd : decide ((j : Int) < (l1.length : Int)) = true := by rw [decide_eq_true_eq]; omega
    have hlt2 : j < l2.length := by omega
    have hm1 : j < (l1.map (FV.int .i64)).length := by rw [List.length_map]; exact hlt
    have hm2 : j < (l2.map (FV.int .i64)).length := by rw [List.length_map]; exact hlt2
    replace hb : True → _ := fun _ => hb
    have hx : l1[j] = l2[j] ∨ l1[j] ≠ l2[j] := Classical.em _
    replace hx : True → _ := fun _ => hx
    repeat' first | refine pd3 17 [0, 0, 3, 7, 0, 0, 48, 112, 255] [0, 0, 0, 1, 0, 0, 0, 1, 0] false ?_ | refine g1 @hd ?_ | refine d1 @hd ?_ | refine j1 @hd (fun hg hgo => ?_) fun hg hgo => ?_ | refine ek_ret ?_ | refine ek_norm ?_ | refine ⟨by omega, ?_⟩ | rfl | trivial | intro _
    ·have hne : l1[j] ≠ l2[j] := by simpa using hg
     simp [list_ne hlt hlt2 hne]
    ·have hee : l1[j] = l2[j] := by simpa using hg
     refine rd_norm [(0, .fv (intR l1)), (1, .fv (intR l2)), (5, iv (j + 1 : Nat))] (sub_of ?_) (m - 1) (by omega) ⟨j + 1, by omega, fun i q1 q2 hi => ?_, rfl⟩
     ·exact dn
     ·by_cases hij : i = j
      ·subst hij; exact hee
      ·exact hb trivial i q1 q2 (by omega)
   ·have hd : decide ((j : Int) < (l1.length : Int)) = false := by rw [decide_eq_false_iff_not]; omega
    have hq : decide (l1 = l2) = true := by rw [decide_eq_true_eq]; exact List.ext_getElem hlen fun i q1 q2 => hb i q1 q2 (by omega)
    repeat' first | refine pd3 17 [0, 0, 3, 7, 0, 0, 48, 112, 255] [0, 0, 0, 1, 0, 0, 0, 1, 0] false ?_ | refine g2 @hd @hq ?_ | refine d2 @hd @hq ?_ | refine j2 @hd @hq (fun hg hgo => ?_) fun hg hgo => ?_ | refine ek_ret ?_ | refine ek_norm ?_ | refine ⟨by omega, ?_⟩ | rfl | trivial | intro _
def markI (k : Int) : Nat → List Int
 | 0 => []
 | n + 1 => markI k n ++ [k + n]
@[go_sem] theorem markI_len (k : Int) : ∀ n, (markI k n).length = n
 | 0 => rfl
 | n + 1 => by rw [markI, List.length_append, markI_len k n]; rfl
theorem v_markIntS (k : Int) (l : List Int) (hk : 0 ≤ k ∧ k < 1099511627776) (hn : l.length < 1073741824) : C2 CC F_laws_markIntS [.own 1 (ints l), iv k] (iv (k + l.length)) [.own 1 (ints (markI k l.length))] := by
 refine cw (keepF Tryz.f12) Tryz.f12 false ?_
 repeat' first | refine g0 ?_ | refine d0 ?_ | refine j0 (fun hg hgo => ?_) fun hg hgo => ?_ | refine ek_ret ?_ | refine ek_norm ?_ | refine ⟨by omega, ?_⟩ | rfl | trivial | intro _
 refine pw_loop (fun m st => ∃ j : Nat, j + m = l.length ∧ st = [(0, .hdr (1000000, []) 1 l.length), (1, iv (k + j)), (5, iv j), (1000000, .own 1 (ints (markI k j ++ l.drop j)))]) l.length [(0, .hdr (1000000, []) 1 l.length), (1, iv (k + (0 : Nat))), (5, iv (0 : Nat)), (1000000, .own 1 (ints (markI k 0 ++ l.drop 0)))] (sub_of ?_) ⟨0, by omega, rfl⟩ ?_
 ·have h0 : k + ((0 : Nat) : Int) = k := by omega
  rw [h0, markI, List.drop_zero, List.nil_append]
  exact dn
 ·rintro m st ⟨j, hj, rfl⟩
  by_cases hlt : j < l.length
  ·have hd : decide ((j : Int) < (l.length : Int)) = true := by rw [decide_eq_true_eq]; omega
   have hs : ∀ y : Int, (ints (markI k j ++ l.drop j)).set j (.fv (.int .i64 y)) = ints (markI k j ++ y :: l.drop (j + 1)) := by
    intro y
    rw [ints_set, List.drop_eq_getElem_cons hlt, List.set_append_right _ _ (by rw [markI_len]; omega), markI_len, Nat.sub_self, List.set_cons_zero]
   have hL : (ints (markI k j ++ l.drop j)).length = l.length := by rw [ints_len, List.length_append, markI_len, List.length_drop]; omega
   have hnr : noRefs (ints (markI k j ++ l.drop j)) = true := nrs_ints
   have hy := hs (k + j)
   have hm : markI k (j + 1) ++ l.drop (j + 1) = markI k j ++ (k + j) :: l.drop (j + 1) := by rw [markI, List.append_assoc]; rfl
   have hx : (ints (markI k j ++ l.drop j))[j]? = some (iv l[j]) := by
    rw [ints_at (by rw [List.length_append, markI_len, List.length_drop]; omega), List.getElem_append_right (by rw [markI_len]; omega)]
    simp [markI_len]
   generalize ints (markI k j ++ l.drop j) = L at hs hL hnr hy hx
   have hjL : j < L.length := by omega
   repeat' first | refine g5 @hd @hL @hnr @hy @hx ?_ | refine d5 @hd @hL @hnr @hy @hx ?_ | refine j5 @hd @hL @hnr @hy @hx (fun hg hgo => ?_) fun hg hgo => ?_ | refine ek_ret ?_ | refine ek_norm ?_ | refine ⟨by omega, ?_⟩ | rfl | trivial | intro _
   have h5 : k + ((j + 1 : Nat) : Int) = k + (j : Int) + 1 := by omega
   refine rd_norm [(0, .hdr (1000000, []) 1 l.length), (1, iv (k + (j + 1 : Nat))), (5, iv (j + 1 : Nat)), (1000000, .own 1 (ints (markI k (j + 1) ++ l.drop (j + 1))))] (sub_of ?_) (m - 1) (by omega) ⟨j + 1, by omega, rfl⟩
   rw [h5, hm]
   exact dn
  ·have hd : decide ((j : Int) < (l.length : Int)) = false := by rw [decide_eq_false_iff_not]; omega
   have hjn : j = l.length := by omega
   subst hjn
   have h0 : ints (markI k l.length ++ l.drop l.length) = ints (markI k l.length) := by simp
   repeat' first | refine g2 @hd @h0 ?_ | refine d2 @hd @h0 ?_ | refine j2 @hd @h0 (fun hg hgo => ?_) fun hg hgo => ?_ | refine ek_ret ?_ | refine ek_norm ?_ | refine ⟨by omega, ?_⟩ | rfl | trivial | intro _
theorem v_toIntS (l : List Int) (hn : l.length < 1073741824) : C2 CC F_laws_toIntS [.fv (intR l)] (.own 1 (ints l)) [] := by
 have hmk : 0 ≤ (l.length : Int) ∧ (l.length : Int) < 4294967296 := ⟨by omega, by omega⟩
 refine cw (keepF Tryz.f7) Tryz.f7 false ?_
 repeat' first | refine g1 @hmk ?_ | refine d1 @hmk ?_ | refine j1 @hmk (fun hg hgo => ?_) fun hg hgo => ?_ | refine ek_ret ?_ | refine ek_norm ?_ | refine ⟨by omega, ?_⟩ | rfl | trivial | intro _
 refine pw_loop (fun m st => ∃ j : Nat, j + m = l.length ∧ st = [(0, .fv (intR l)), (3, .own 1 (ints (l.take j ++ List.replicate (l.length - j) 0))), (4, iv j)]) l.length [(0, .fv (intR l)), (3, .own 1 (ints (l.take 0 ++ List.replicate (l.length - 0) 0))), (4, iv (0 : Nat))] (sub_of ?_) ⟨0, by omega, rfl⟩ ?_
 ·rw [List.take_zero, List.nil_append, Nat.sub_zero, ← ints_rep]
  exact dn
 ·rintro m st ⟨j, hj, rfl⟩
  by_cases hlt : j < l.length
  ·have hd : decide ((j : Int) < (l.length : Int)) = true := by rw [decide_eq_true_eq]; omega
   have hm1 : j < (l.map (FV.int .i64)).length := by rw [List.length_map]; exact hlt
   have hs : (ints (l.take j ++ List.replicate (l.length - j) 0)).set j (.fv (.int .i64 l[j])) = ints (l.take (j + 1) ++ List.replicate (l.length - (j + 1)) 0) := by
    rw [ints_set, List.set_append_right _ _ (by rw [List.length_take]; omega), List.length_take, Nat.min_eq_left (by omega), Nat.sub_self, show l.length - j = l.length - (j + 1) + 1 by omega, List.replicate_succ, List.set_cons_zero, List.take_succ_eq_append_getElem hlt, List.append_assoc]; rfl
   have hL : (ints (l.take j ++ List.replicate (l.length - j) 0)).length = l.length := by rw [ints_len]; simp; omega
   have hnr : noRefs (ints (l.take j ++ List.replicate (l.length - j) 0)) = true := nrs_ints
   have hx : (ints (l.take j ++ List.replicate (l.length - j) 0))[j]? = some (iv 0) := by
    rw [ints_at (by simp; omega), List.getElem_append_right (by simp; omega)]
    simp
   generalize ints (l.take j ++ List.replicate (l.length - j) 0) = L at hs hL hnr hx
   have hjL : j < L.length := by omega
   repeat' first | refine g5 @hd @hL @hnr @hs @hx ?_ | refine d5 @hd @hL @hnr @hs @hx ?_ | refine j5 @hd @hL @hnr @hs @hx (fun hg hgo => ?_) fun hg hgo => ?_ | refine ek_ret ?_ | refine ek_norm ?_ | refine ⟨by omega, ?_⟩ | rfl | trivial | intro _
   refine rd_norm [(0, .fv (intR l)), (3, .own 1 (ints (l.take (j + 1) ++ List.replicate (l.length - (j + 1)) 0))), (4, iv (j + 1 : Nat))] (sub_of ?_) (m - 1) (by omega) ⟨j + 1, by omega, rfl⟩
   exact dn
  ·have hd : decide ((j : Int) < (l.length : Int)) = false := by rw [decide_eq_false_iff_not]; omega
   have hjn : j = l.length := by omega
   subst hjn
   have h0 : ints (l.take l.length ++ List.replicate (l.length - l.length) 0) = ints l := by simp
   repeat' first | refine g2 @hd @h0 ?_ | refine d2 @hd @h0 ?_ | refine j2 @hd @h0 (fun hg hgo => ?_) fun hg hgo => ?_ | refine ek_ret ?_ | refine ek_norm ?_ | refine ⟨by omega, ?_⟩ | rfl | trivial | intro _
theorem v_toIns (x : StepD) : C2 CC F_laws_toIns [sF x] (sF x) [] := by
 obtain ⟨op, r, a, b, n⟩ := x
 refine cw (keepF Tryz.f75) Tryz.f75 false ?_
 repeat' first | refine g0 ?_ | refine d0 ?_ | refine j0 (fun hg hgo => ?_) fun hg hgo => ?_ | refine ek_ret ?_ | refine ek_norm ?_ | refine ⟨by omega, ?_⟩ | rfl | trivial | intro _
theorem v_toArmS (l : List ArmD) (hn : l.length < 1073741824) (hb : ∀ x ∈ l, True) : C2 CC F_laws_toArmS [.fv (.row 2 (l.map armF))] (.own 2 (rowD armO l)) [] := by
 have hmk : 0 ≤ (l.length : Int) ∧ (l.length : Int) < 4294967296 := ⟨by omega, by omega⟩
 refine cw (keepF Tryz.f97) Tryz.f97 false ?_
 repeat' first | refine g1 @hmk ?_ | refine d1 @hmk ?_ | refine j1 @hmk (fun hg hgo => ?_) fun hg hgo => ?_ | refine ek_ret ?_ | refine ek_norm ?_ | refine ⟨by omega, ?_⟩ | rfl | trivial | intro _
 refine pw_loop (fun m st => ∃ j : Nat, j + m = l.length ∧ st = [(0, .fv (.row 2 (l.map armF))), (3, .own 2 (bld armO (.fv (.agg [.int .i64 0, .int .i64 0])) j l)), (4, iv j)]) l.length [(0, .fv (.row 2 (l.map armF))), (3, .own 2 (bld armO (.fv (.agg [.int .i64 0, .int .i64 0])) 0 l)), (4, iv (0 : Nat))] (sub_of ?_) ⟨0, by omega, rfl⟩ ?_
 ·rw [bld_0]
  exact dn
 ·rintro m st ⟨j, hj, rfl⟩
  by_cases hlt : j < l.length
  ·have hd : decide ((j : Int) < (l.length : Int)) = true := by rw [decide_eq_true_eq]; omega
   have hm1 : j < (l.map armF).length := by rw [List.length_map]; exact hlt
   have hel := v_toArm l[j]
   have hs : (bld armO (.fv (.agg [.int .i64 0, .int .i64 0])) j l).set j (armO l[j]) = bld armO (.fv (.agg [.int .i64 0, .int .i64 0])) (j + 1) l := bld_set hlt
   have hx : (bld armO (.fv (.agg [.int .i64 0, .int .i64 0])) j l)[j]? = some (.fv (.agg [.int .i64 0, .int .i64 0])) := bld_get hlt
   have hL : (bld armO (.fv (.agg [.int .i64 0, .int .i64 0])) j l).length = l.length := bld_len (by omega)
   have hnr : noRefs (bld armO (.fv (.agg [.int .i64 0, .int .i64 0])) j l) = true := nrs_bld (fun x => rfl) (by rfl)
   generalize bld armO (.fv (.agg [.int .i64 0, .int .i64 0])) j l = L at hs hx hL hnr
   have hjL : j < L.length := by omega
   skip
   repeat' first | refine ck_intro (by first | exact hel) ?_ ?_ | refine g4 @hd @hL @hx @hnr ?_ | refine d4 @hd @hL @hx @hnr ?_ | refine j4 @hd @hL @hx @hnr (fun hg hgo => ?_) fun hg hgo => ?_ | refine ek_ret ?_ | refine ek_norm ?_ | refine ⟨by omega, ?_⟩ | rfl | trivial | intro _
   refine rd_norm [(0, .fv (.row 2 (l.map armF))), (3, .own 2 (bld armO (.fv (.agg [.int .i64 0, .int .i64 0])) (j + 1) l)), (4, iv (j + 1 : Nat))] (sub_of ?_) (m - 1) (by omega) ⟨j + 1, by omega, rfl⟩
   rw [← hs]
   exact dn
   skip
  ·have hd : decide ((j : Int) < (l.length : Int)) = false := by rw [decide_eq_false_iff_not]; omega
   have hjn : j = l.length := by omega
   subst hjn
   have h0 : bld armO (.fv (.agg [.int .i64 0, .int .i64 0])) l.length l = rowD armO l := bld_n
   repeat' first | refine g2 @hd @h0 ?_ | refine d2 @hd @h0 ?_ | refine j2 @hd @h0 (fun hg hgo => ?_) fun hg hgo => ?_ | refine ek_ret ?_ | refine ek_norm ?_ | refine ⟨by omega, ?_⟩ | rfl | trivial | intro _
theorem v_toPhi (x : PhiD) (h : x.ok) : C2 CC F_laws_toPhi [.fv (phiF x)] (phiO x) [] := by
 obtain ⟨d, arms⟩ := x
 have he := v_toArmS arms h (fun _ _ => trivial)
 refine cw (keepF Tryz.f74) Tryz.f74 false ?_
 repeat' first | refine ck_intro (by first | exact he) ?_ ?_ | refine g0 ?_ | refine d0 ?_ | refine j0 (fun hg hgo => ?_) fun hg hgo => ?_ | refine ek_ret ?_ | refine ek_norm ?_ | refine ⟨by omega, ?_⟩ | rfl | trivial | intro _
theorem v_toPhiS (l : List PhiD) (hn : l.length < 1073741824) (hb : ∀ x ∈ l, x.ok) : C2 CC F_laws_toPhiS [.fv (.row 2 (l.map phiF))] (.own 2 (rowD phiO l)) [] := by
 have hmk : 0 ≤ (l.length : Int) ∧ (l.length : Int) < 4294967296 := ⟨by omega, by omega⟩
 refine cw (keepF Tryz.f49) Tryz.f49 false ?_
 repeat' first | refine g1 @hmk ?_ | refine d1 @hmk ?_ | refine j1 @hmk (fun hg hgo => ?_) fun hg hgo => ?_ | refine ek_ret ?_ | refine ek_norm ?_ | refine ⟨by omega, ?_⟩ | rfl | trivial | intro _
 refine pw_loop (fun m st => ∃ j : Nat, j + m = l.length ∧ st = [(0, .fv (.row 2 (l.map phiF))), (3, .own 2 (bld phiO (.fv (.agg [.int .i64 0, .nil])) j l)), (4, iv j)]) l.length [(0, .fv (.row 2 (l.map phiF))), (3, .own 2 (bld phiO (.fv (.agg [.int .i64 0, .nil])) 0 l)), (4, iv (0 : Nat))] (sub_of ?_) ⟨0, by omega, rfl⟩ ?_
 ·rw [bld_0]
  exact dn
 ·rintro m st ⟨j, hj, rfl⟩
  by_cases hlt : j < l.length
  ·have hd : decide ((j : Int) < (l.length : Int)) = true := by rw [decide_eq_true_eq]; omega
   have hm1 : j < (l.map phiF).length := by rw [List.length_map]; exact hlt
   have hel := v_toPhi l[j] (hb _ (List.getElem_mem hlt))
   have hs : (bld phiO (.fv (.agg [.int .i64 0, .nil])) j l).set j (phiO l[j]) = bld phiO (.fv (.agg [.int .i64 0, .nil])) (j + 1) l := bld_set hlt
   have hx : (bld phiO (.fv (.agg [.int .i64 0, .nil])) j l)[j]? = some (.fv (.agg [.int .i64 0, .nil])) := bld_get hlt
   have hL : (bld phiO (.fv (.agg [.int .i64 0, .nil])) j l).length = l.length := bld_len (by omega)
   have hnr : noRefs (bld phiO (.fv (.agg [.int .i64 0, .nil])) j l) = true := nrs_bld (fun x => nr_phiO) (by rfl)
   generalize bld phiO (.fv (.agg [.int .i64 0, .nil])) j l = L at hs hx hL hnr
   have hjL : j < L.length := by omega
   skip
   repeat' first | refine ck_intro (by first | exact hel) ?_ ?_ | refine g4 @hd @hL @hx @hnr ?_ | refine d4 @hd @hL @hx @hnr ?_ | refine j4 @hd @hL @hx @hnr (fun hg hgo => ?_) fun hg hgo => ?_ | refine ek_ret ?_ | refine ek_norm ?_ | refine ⟨by omega, ?_⟩ | rfl | trivial | intro _
   refine rd_norm [(0, .fv (.row 2 (l.map phiF))), (3, .own 2 (bld phiO (.fv (.agg [.int .i64 0, .nil])) (j + 1) l)), (4, iv (j + 1 : Nat))] (sub_of ?_) (m - 1) (by omega) ⟨j + 1, by omega, rfl⟩
   rw [← hs]
   exact dn
   skip
  ·have hd : decide ((j : Int) < (l.length : Int)) = false := by rw [decide_eq_false_iff_not]; omega
   have hjn : j = l.length := by omega
   subst hjn
   have h0 : bld phiO (.fv (.agg [.int .i64 0, .nil])) l.length l = rowD phiO l := bld_n
   repeat' first | refine g2 @hd @h0 ?_ | refine d2 @hd @h0 ?_ | refine j2 @hd @h0 (fun hg hgo => ?_) fun hg hgo => ?_ | refine ek_ret ?_ | refine ek_norm ?_ | refine ⟨by omega, ?_⟩ | rfl | trivial | intro _
theorem v_toInsS (l : List StepD) (hn : l.length < 1073741824) (hb : ∀ x ∈ l, True) : C2 CC F_laws_toInsS [.fv (.row 5 (l.map stF))] (.own 5 (rowD sF l)) [] := by
 have hmk : 0 ≤ (l.length : Int) ∧ (l.length : Int) < 4294967296 := ⟨by omega, by omega⟩
 refine cw (keepF Tryz.f50) Tryz.f50 false ?_
 repeat' first | refine g1 @hmk ?_ | refine d1 @hmk ?_ | refine j1 @hmk (fun hg hgo => ?_) fun hg hgo => ?_ | refine ek_ret ?_ | refine ek_norm ?_ | refine ⟨by omega, ?_⟩ | rfl | trivial | intro _
 refine pw_loop (fun m st => ∃ j : Nat, j + m = l.length ∧ st = [(0, .fv (.row 5 (l.map stF))), (3, .own 5 (bld sF (.fv (.agg [.int .i64 0, .int .i64 0, .int .i64 0, .int .i64 0, .int .i64 0])) j l)), (4, iv j)]) l.length [(0, .fv (.row 5 (l.map stF))), (3, .own 5 (bld sF (.fv (.agg [.int .i64 0, .int .i64 0, .int .i64 0, .int .i64 0, .int .i64 0])) 0 l)), (4, iv (0 : Nat))] (sub_of ?_) ⟨0, by omega, rfl⟩ ?_
 ·rw [bld_0]
  exact dn
 ·rintro m st ⟨j, hj, rfl⟩
  by_cases hlt : j < l.length
  ·have hd : decide ((j : Int) < (l.length : Int)) = true := by rw [decide_eq_true_eq]; omega
   have hm1 : j < (l.map stF).length := by rw [List.length_map]; exact hlt
   have hel := v_toIns l[j]
   have hs : (bld sF (.fv (.agg [.int .i64 0, .int .i64 0, .int .i64 0, .int .i64 0, .int .i64 0])) j l).set j (sF l[j]) = bld sF (.fv (.agg [.int .i64 0, .int .i64 0, .int .i64 0, .int .i64 0, .int .i64 0])) (j + 1) l := bld_set hlt
   have hx : (bld sF (.fv (.agg [.int .i64 0, .int .i64 0, .int .i64 0, .int .i64 0, .int .i64 0])) j l)[j]? = some (.fv (.agg [.int .i64 0, .int .i64 0, .int .i64 0, .int .i64 0, .int .i64 0])) := bld_get hlt
   have hL : (bld sF (.fv (.agg [.int .i64 0, .int .i64 0, .int .i64 0, .int .i64 0, .int .i64 0])) j l).length = l.length := bld_len (by omega)
   have hnr : noRefs (bld sF (.fv (.agg [.int .i64 0, .int .i64 0, .int .i64 0, .int .i64 0, .int .i64 0])) j l) = true := nrs_bld (fun x => rfl) (by rfl)
   generalize bld sF (.fv (.agg [.int .i64 0, .int .i64 0, .int .i64 0, .int .i64 0, .int .i64 0])) j l = L at hs hx hL hnr
   have hjL : j < L.length := by omega
   skip
   repeat' first | refine ck_intro (by first | exact hel) ?_ ?_ | refine g4 @hd @hL @hx @hnr ?_ | refine d4 @hd @hL @hx @hnr ?_ | refine j4 @hd @hL @hx @hnr (fun hg hgo => ?_) fun hg hgo => ?_ | refine ek_ret ?_ | refine ek_norm ?_ | refine ⟨by omega, ?_⟩ | rfl | trivial | intro _
   refine rd_norm [(0, .fv (.row 5 (l.map stF))), (3, .own 5 (bld sF (.fv (.agg [.int .i64 0, .int .i64 0, .int .i64 0, .int .i64 0, .int .i64 0])) (j + 1) l)), (4, iv (j + 1 : Nat))] (sub_of ?_) (m - 1) (by omega) ⟨j + 1, by omega, rfl⟩
   rw [← hs]
   exact dn
   skip
  ·have hd : decide ((j : Int) < (l.length : Int)) = false := by rw [decide_eq_false_iff_not]; omega
   have hjn : j = l.length := by omega
   subst hjn
   have h0 : bld sF (.fv (.agg [.int .i64 0, .int .i64 0, .int .i64 0, .int .i64 0, .int .i64 0])) l.length l = rowD sF l := bld_n
   repeat' first | refine g2 @hd @h0 ?_ | refine d2 @hd @h0 ?_ | refine j2 @hd @h0 (fun hg hgo => ?_) fun hg hgo => ?_ | refine ek_ret ?_ | refine ek_norm ?_ | refine ⟨by omega, ?_⟩ | rfl | trivial | intro _
theorem v_toBlock (x : BlockD) (h : x.ok) : C2 CC F_laws_toBlock [.fv (blockF x)] (blockO x) [] := by
 obtain ⟨phis, list, term⟩ := x
 have he := v_toPhiS phis h.1 h.2.1
 have he2 := v_toInsS list h.2.2 (fun _ _ => trivial)
 have he3 := v_toTerm term
 refine cw (keepF Tryz.f31) Tryz.f31 false ?_
 repeat' first | refine ck_intro (by first | exact he | exact he2 | exact he3) ?_ ?_ | refine g0 ?_ | refine d0 ?_ | refine j0 (fun hg hgo => ?_) fun hg hgo => ?_ | refine ek_ret ?_ | refine ek_norm ?_ | refine ⟨by omega, ?_⟩ | rfl | trivial | intro _
theorem v_toBlockS (l : List BlockD) (hn : l.length < 1073741824) (hb : ∀ x ∈ l, x.ok) : C2 CC F_laws_toBlockS [.fv (.row 6 (l.map blockF))] (.own 6 (rowD blockO l)) [] := by
 have hmk : 0 ≤ (l.length : Int) ∧ (l.length : Int) < 4294967296 := ⟨by omega, by omega⟩
 refine cw (keepF Tryz.f19) Tryz.f19 false ?_
 repeat' first | refine g1 @hmk ?_ | refine d1 @hmk ?_ | refine j1 @hmk (fun hg hgo => ?_) fun hg hgo => ?_ | refine ek_ret ?_ | refine ek_norm ?_ | refine ⟨by omega, ?_⟩ | rfl | trivial | intro _
 refine pw_loop (fun m st => ∃ j : Nat, j + m = l.length ∧ st = [(0, .fv (.row 6 (l.map blockF))), (3, .own 6 (bld blockO (.fv (.agg [.nil, .nil, .agg [.int .i64 0, .int .i64 0, .int .i64 0, .int .i64 0]])) j l)), (4, iv j)]) l.length [(0, .fv (.row 6 (l.map blockF))), (3, .own 6 (bld blockO (.fv (.agg [.nil, .nil, .agg [.int .i64 0, .int .i64 0, .int .i64 0, .int .i64 0]])) 0 l)), (4, iv (0 : Nat))] (sub_of ?_) ⟨0, by omega, rfl⟩ ?_
 ·rw [bld_0]
  exact dn
 ·rintro m st ⟨j, hj, rfl⟩
  by_cases hlt : j < l.length
  ·have hd : decide ((j : Int) < (l.length : Int)) = true := by rw [decide_eq_true_eq]; omega
   have hm1 : j < (l.map blockF).length := by rw [List.length_map]; exact hlt
   have hel := v_toBlock l[j] (hb _ (List.getElem_mem hlt))
   have hs : (bld blockO (.fv (.agg [.nil, .nil, .agg [.int .i64 0, .int .i64 0, .int .i64 0, .int .i64 0]])) j l).set j (blockO l[j]) = bld blockO (.fv (.agg [.nil, .nil, .agg [.int .i64 0, .int .i64 0, .int .i64 0, .int .i64 0]])) (j + 1) l := bld_set hlt
   have hx : (bld blockO (.fv (.agg [.nil, .nil, .agg [.int .i64 0, .int .i64 0, .int .i64 0, .int .i64 0]])) j l)[j]? = some (.fv (.agg [.nil, .nil, .agg [.int .i64 0, .int .i64 0, .int .i64 0, .int .i64 0]])) := bld_get hlt
   have hL : (bld blockO (.fv (.agg [.nil, .nil, .agg [.int .i64 0, .int .i64 0, .int .i64 0, .int .i64 0]])) j l).length = l.length := bld_len (by omega)
   have hnr : noRefs (bld blockO (.fv (.agg [.nil, .nil, .agg [.int .i64 0, .int .i64 0, .int .i64 0, .int .i64 0]])) j l) = true := nrs_bld (fun x => nr_blockO) (by rfl)
   generalize bld blockO (.fv (.agg [.nil, .nil, .agg [.int .i64 0, .int .i64 0, .int .i64 0, .int .i64 0]])) j l = L at hs hx hL hnr
   have hjL : j < L.length := by omega
   skip
   repeat' first | refine ck_intro (by first | exact hel) ?_ ?_ | refine g4 @hd @hL @hx @hnr ?_ | refine d4 @hd @hL @hx @hnr ?_ | refine j4 @hd @hL @hx @hnr (fun hg hgo => ?_) fun hg hgo => ?_ | refine ek_ret ?_ | refine ek_norm ?_ | refine ⟨by omega, ?_⟩ | rfl | trivial | intro _
   refine rd_norm [(0, .fv (.row 6 (l.map blockF))), (3, .own 6 (bld blockO (.fv (.agg [.nil, .nil, .agg [.int .i64 0, .int .i64 0, .int .i64 0, .int .i64 0]])) (j + 1) l)), (4, iv (j + 1 : Nat))] (sub_of ?_) (m - 1) (by omega) ⟨j + 1, by omega, rfl⟩
   rw [← hs]
   exact dn
   skip
  ·have hd : decide ((j : Int) < (l.length : Int)) = false := by rw [decide_eq_false_iff_not]; omega
   have hjn : j = l.length := by omega
   subst hjn
   have h0 : bld blockO (.fv (.agg [.nil, .nil, .agg [.int .i64 0, .int .i64 0, .int .i64 0, .int .i64 0]])) l.length l = rowD blockO l := bld_n
   repeat' first | refine g2 @hd @h0 ?_ | refine d2 @hd @h0 ?_ | refine j2 @hd @h0 (fun hg hgo => ?_) fun hg hgo => ?_ | refine ek_ret ?_ | refine ek_norm ?_ | refine ⟨by omega, ?_⟩ | rfl | trivial | intro _
theorem v_toFn (x : FnD) (h : x.ok) : C2 CC F_laws_toFn [.fv (fnF x)] (fnO x) [] := by
 obtain ⟨blocks, values⟩ := x
 have he := v_toBlockS blocks h.1 h.2
 refine cw (keepF Tryz.f6) Tryz.f6 false ?_
 repeat' first | refine ck_intro (by first | exact he) ?_ ?_ | refine g0 ?_ | refine d0 ?_ | refine j0 (fun hg hgo => ?_) fun hg hgo => ?_ | refine ek_ret ?_ | refine ek_norm ?_ | refine ⟨by omega, ?_⟩ | rfl | trivial | intro _
def ctL {α : Type} (c : α → Nat) (l : List α) : Nat := (l.map c).sum
def mkL {α : Type} (c : α → Nat) (e : Int → α → α) : Int → List α → List α
 | _, [] => []
 | k, x :: l => e k x :: mkL c e (k + c x) l
section
variable {α : Type} {c : α → Nat} {e : Int → α → α} {l : List α} {j : Nat} {k : Int}
theorem ct_app {a b : List α} : ctL c (a ++ b) = ctL c a + ctL c b := by unfold ctL; rw [List.map_append, List.sum_append]
theorem mk_app : ∀ (k : Int) (a b : List α), mkL c e k (a ++ b) = mkL c e k a ++ mkL c e (k + ctL c a) b
 | k, [], b => by simp [mkL, ctL]
 | k, x :: a, b => by
  rw [List.cons_append, mkL, mkL, mk_app, List.cons_append, show k + (c x : Int) + (ctL c a : Int) = k + (ctL c (x :: a) : Int) by unfold ctL; rw [List.map_cons, List.sum_cons]; omega]
theorem mk_len : ∀ (k : Int) (l : List α), (mkL c e k l).length = l.length
 | _, [] => rfl
 | k, x :: l => by rw [mkL, List.length_cons, mk_len, List.length_cons]
theorem ct_take (h : j < l.length) : (ctL c (l.take (j + 1)) : Int) = (ctL c (l.take j) : Int) + (c l[j] : Int) := by
 rw [List.take_succ_eq_append_getElem h, ct_app]
 unfold ctL; simp
theorem ct_le (n : Nat) : (ctL c (l.take n) : Int) ≤ (ctL c l : Int) := by
 have h := ct_app (c := c) (a := l.take n) (b := l.drop n)
 rw [List.take_append_drop] at h
 omega
theorem mk_take (k : Int) (h : j < l.length) : mkL c e k (l.take (j + 1)) = mkL c e k (l.take j) ++ [e (k + (ctL c (l.take j) : Int)) l[j]] := by
 rw [List.take_succ_eq_append_getElem h, mk_app]; rfl
theorem mk_take_len (h : j < l.length) : (mkL c e k (l.take j)).length = j := by rw [mk_len, List.length_take]; omega
theorem row_set {o : α → DV} {a : List α} (ha : a.length = j) (h : j < l.length) (y : α) : (rowD o (a ++ l.drop j)).set j (o y) = rowD o (a ++ y :: l.drop (j + 1)) := by
 unfold rowD
 rw [List.drop_eq_getElem_cons h, List.map_append, List.map_append, List.set_append_right _ _ (by rw [List.length_map]; omega), List.length_map, ha, Nat.sub_self, List.map_cons, List.set_cons_zero, List.map_cons]
theorem row_get {o : α → DV} {a : List α} (ha : a.length = j) (h : j < l.length) : (rowD o (a ++ l.drop j))[j]? = some (o l[j]) := by
 unfold rowD
 rw [List.drop_eq_getElem_cons h, List.map_append, List.getElem?_append_right (by rw [List.length_map]; omega), List.length_map, ha, Nat.sub_self, List.map_cons, List.getElem?_cons_zero]
end
def ctA (_ : ArmD) : Nat := 2
def mkA1 (k : Int) (_ : ArmD) : ArmD := ⟨k, k + 1⟩
theorem v_markArmS (k : Int) (l : List ArmD) (hk : 0 ≤ k ∧ k + ctL ctA l < 1099511627776) (hn : l.length < 1073741824) (hb : ∀ x ∈ l, True) : C2 CC F_laws_markArmS [.own 2 (rowD armO l), iv k] (iv (k + ctL ctA l)) [.own 2 (rowD armO (mkL ctA mkA1 k l))] := by
 refine cw (keepF Tryz.f66) Tryz.f66 false ?_
 repeat' first | refine g0 ?_ | refine d0 ?_ | refine j0 (fun hg hgo => ?_) fun hg hgo => ?_ | refine ek_ret ?_ | refine ek_norm ?_ | refine ⟨by omega, ?_⟩ | rfl | trivial | intro _
 refine pw_loop (fun m st => ∃ j : Nat, j + m = l.length ∧ st = [(0, .hdr (1000000, []) 2 l.length), (1, iv (k + ctL ctA (l.take j))), (5, iv j), (1000000, .own 2 (rowD armO (mkL ctA mkA1 k (l.take j) ++ l.drop j)))]) l.length [(0, .hdr (1000000, []) 2 l.length), (1, iv (k + ctL ctA (l.take 0))), (5, iv (0 : Nat)), (1000000, .own 2 (rowD armO (mkL ctA mkA1 k (l.take 0) ++ l.drop 0)))] (sub_of ?_) ⟨0, by omega, rfl⟩ ?_
 ·have h0 : k + (ctL ctA (l.take 0) : Int) = k := by rw [List.take_zero]; exact Int.add_zero k
  rw [h0, List.take_zero, mkL, List.drop_zero, List.nil_append]
  exact dn
 ·rintro m st ⟨j, hj, rfl⟩
  by_cases hlt : j < l.length
  ·have hd : decide ((j : Int) < (l.length : Int)) = true := by rw [decide_eq_true_eq]; omega
   have hx := hb l[j] (List.getElem_mem hlt)
   have hct := ct_take (c := ctA) hlt
   have hcl := ct_le (c := ctA) (l := l) (j + 1)
   have hm := mk_take (c := ctA) (e := mkA1) k hlt
   have hs : ∀ y : ArmD, (rowD armO (mkL ctA mkA1 k (l.take j) ++ l.drop j)).set j (armO y) = rowD armO (mkL ctA mkA1 k (l.take j) ++ y :: l.drop (j + 1)) := fun y => row_set (mk_take_len hlt) hlt y
   have hg := row_get (o := armO) (mk_take_len (c := ctA) (e := mkA1) (k := k) hlt) hlt
   have hL : (rowD armO (mkL ctA mkA1 k (l.take j) ++ l.drop j)).length = l.length := by rw [rowD_len, List.length_append, mk_take_len hlt, List.length_drop]; omega
   have hnr : noRefs (rowD armO (mkL ctA mkA1 k (l.take j) ++ l.drop j)) = true := nrs_rowD fun x => rfl
   have hm1 : rowD armO (mkL ctA mkA1 k (l.take (j + 1)) ++ l.drop (j + 1)) = (rowD armO (mkL ctA mkA1 k (l.take j) ++ l.drop j)).set j (armO (mkA1 (k + (ctL ctA (l.take j) : Int)) l[j])) := by rw [hm, List.append_assoc, List.singleton_append, ← hs]
   clear hm
   generalize rowD armO (mkL ctA mkA1 k (l.take j) ++ l.drop j) = L at hs hg hL hnr hm1
   rw [hct] at hcl
   have hk2 : k + (ctL ctA (l.take (j + 1)) : Int) = k + (ctL ctA (l.take j) : Int) + (ctA l[j] : Int) := by omega
   clear hct
   generalize hT : (ctL ctA (l.take j) : Int) = t at hcl hk2 hm1 ⊢
   skip
   have hjL : j < L.length := by omega
   have hss : ∀ d, (L.set j d)[j]? = some d := fun d => List.getElem?_set_self hjL
   repeat' first | refine g7 @hd @hL @hg @hnr @hss @List.set_set.{0} @List.length_set.{0} ?_ | refine d7 @hd @hL @hg @hnr @hss @List.set_set.{0} @List.length_set.{0} ?_ | refine j7 @hd @hL @hg @hnr @hss @List.set_set.{0} @List.length_set.{0} (fun hg hgo => ?_) fun hg hgo => ?_ | refine ek_ret ?_ | refine ek_norm ?_ | refine ⟨by omega, ?_⟩ | rfl | trivial | intro _
   refine rd_norm [(0, .hdr (1000000, []) 2 l.length), (1, iv (k + ctL ctA (l.take (j + 1)))), (5, iv (j + 1 : Nat)), (1000000, .own 2 (rowD armO (mkL ctA mkA1 k (l.take (j + 1)) ++ l.drop (j + 1))))] (sub_of ?_) (m - 1) (by omega) ⟨j + 1, by omega, rfl⟩
   rw [hk2, hm1]
   rw [show k + t + (ctA l[j] : Int) = k + t + 1 + 1 by unfold ctA; omega]
   exact dn
  ·have hd : decide ((j : Int) < (l.length : Int)) = false := by rw [decide_eq_false_iff_not]; omega
   have hjn : j = l.length := by omega
   subst hjn
   rw [List.take_length]
   have h0 : rowD armO (mkL ctA mkA1 k l ++ l.drop l.length) = rowD armO (mkL ctA mkA1 k l) := by simp
   repeat' first | refine g2 @hd @h0 ?_ | refine d2 @hd @h0 ?_ | refine j2 @hd @h0 (fun hg hgo => ?_) fun hg hgo => ?_ | refine ek_ret ?_ | refine ek_norm ?_ | refine ⟨by omega, ?_⟩ | rfl | trivial | intro _
def ctP (x : PhiD) : Nat := 1 + ctL ctA x.arms
def mkP (k : Int) (x : PhiD) : PhiD := ⟨k, mkL ctA mkA1 (k + 1) x.arms⟩
theorem v_markPhiS (k : Int) (l : List PhiD) (hk : 0 ≤ k ∧ k + ctL ctP l < 1099511627776) (hn : l.length < 1073741824) (hb : ∀ x ∈ l, x.arms.length < 1073741824) : C2 CC F_laws_markPhiS [.own 2 (rowD phiO l), iv k] (iv (k + ctL ctP l)) [.own 2 (rowD phiO (mkL ctP mkP k l))] := by
 refine cw (keepF Tryz.f40) Tryz.f40 false ?_
 repeat' first | refine g0 ?_ | refine d0 ?_ | refine j0 (fun hg hgo => ?_) fun hg hgo => ?_ | refine ek_ret ?_ | refine ek_norm ?_ | refine ⟨by omega, ?_⟩ | rfl | trivial | intro _
 refine pw_loop (fun m st => ∃ j : Nat, j + m = l.length ∧ st = [(0, .hdr (1000000, []) 2 l.length), (1, iv (k + ctL ctP (l.take j))), (5, iv j), (1000000, .own 2 (rowD phiO (mkL ctP mkP k (l.take j) ++ l.drop j)))]) l.length [(0, .hdr (1000000, []) 2 l.length), (1, iv (k + ctL ctP (l.take 0))), (5, iv (0 : Nat)), (1000000, .own 2 (rowD phiO (mkL ctP mkP k (l.take 0) ++ l.drop 0)))] (sub_of ?_) ⟨0, by omega, rfl⟩ ?_
 ·have h0 : k + (ctL ctP (l.take 0) : Int) = k := by rw [List.take_zero]; exact Int.add_zero k
  rw [h0, List.take_zero, mkL, List.drop_zero, List.nil_append]
  exact dn
 ·rintro m st ⟨j, hj, rfl⟩
  by_cases hlt : j < l.length
  ·have hd : decide ((j : Int) < (l.length : Int)) = true := by rw [decide_eq_true_eq]; omega
   have hx := hb l[j] (List.getElem_mem hlt)
   have hct := ct_take (c := ctP) hlt
   have hcl := ct_le (c := ctP) (l := l) (j + 1)
   have hm := mk_take (c := ctP) (e := mkP) k hlt
   have hs : ∀ y : PhiD, (rowD phiO (mkL ctP mkP k (l.take j) ++ l.drop j)).set j (phiO y) = rowD phiO (mkL ctP mkP k (l.take j) ++ y :: l.drop (j + 1)) := fun y => row_set (mk_take_len hlt) hlt y
   have hg := row_get (o := phiO) (mk_take_len (c := ctP) (e := mkP) (k := k) hlt) hlt
   have hL : (rowD phiO (mkL ctP mkP k (l.take j) ++ l.drop j)).length = l.length := by rw [rowD_len, List.length_append, mk_take_len hlt, List.length_drop]; omega
   have hnr : noRefs (rowD phiO (mkL ctP mkP k (l.take j) ++ l.drop j)) = true := nrs_rowD fun x => nr_phiO
   have hm1 : rowD phiO (mkL ctP mkP k (l.take (j + 1)) ++ l.drop (j + 1)) = (rowD phiO (mkL ctP mkP k (l.take j) ++ l.drop j)).set j (phiO (mkP (k + (ctL ctP (l.take j) : Int)) l[j])) := by rw [hm, List.append_assoc, List.singleton_append, ← hs]
   clear hm
   generalize rowD phiO (mkL ctP mkP k (l.take j) ++ l.drop j) = L at hs hg hL hnr hm1
   rw [hct] at hcl
   have hk2 : k + (ctL ctP (l.take (j + 1)) : Int) = k + (ctL ctP (l.take j) : Int) + (ctP l[j] : Int) := by omega
   clear hct
   generalize hT : (ctL ctP (l.take j) : Int) = t at hcl hk2 hm1 ⊢
   have hcc : (ctP l[j] : Int) = 1 + (ctL ctA l[j].arms : Int) := by unfold ctP; omega
   have hjL : j < L.length := by omega
   have hss : ∀ d, (L.set j d)[j]? = some d := fun d => List.getElem?_set_self hjL
   repeat' first | refine ck_intro (by first | exact v_markArmS _ _ (by omega) hx (fun _ _ => trivial)) ?_ ?_ | refine g7 @hd @hL @hg @hnr @hss @List.set_set.{0} @List.length_set.{0} ?_ | refine d7 @hd @hL @hg @hnr @hss @List.set_set.{0} @List.length_set.{0} ?_ | refine j7 @hd @hL @hg @hnr @hss @List.set_set.{0} @List.length_set.{0} (fun hg hgo => ?_) fun hg hgo => ?_ | refine ek_ret ?_ | refine ek_norm ?_ | refine ⟨by omega, ?_⟩ | rfl | trivial | intro _
   refine rd_norm [(0, .hdr (1000000, []) 2 l.length), (1, iv (k + ctL ctP (l.take (j + 1)))), (5, iv (j + 1 : Nat)), (1000000, .own 2 (rowD phiO (mkL ctP mkP k (l.take (j + 1)) ++ l.drop (j + 1))))] (sub_of ?_) (m - 1) (by omega) ⟨j + 1, by omega, rfl⟩
   rw [hk2, hm1]
   rw [show k + t + (ctP l[j] : Int) = k + t + 1 + (ctL ctA l[j].arms : Int) by omega]
   exact dn
  ·have hd : decide ((j : Int) < (l.length : Int)) = false := by rw [decide_eq_false_iff_not]; omega
   have hjn : j = l.length := by omega
   subst hjn
   rw [List.take_length]
   have h0 : rowD phiO (mkL ctP mkP k l ++ l.drop l.length) = rowD phiO (mkL ctP mkP k l) := by simp
   repeat' first | refine g2 @hd @h0 ?_ | refine d2 @hd @h0 ?_ | refine j2 @hd @h0 (fun hg hgo => ?_) fun hg hgo => ?_ | refine ek_ret ?_ | refine ek_norm ?_ | refine ⟨by omega, ?_⟩ | rfl | trivial | intro _
def ctS (_ : StepD) : Nat := 5
def mkS5 (k : Int) (_ : StepD) : StepD := ⟨k, k + 1, k + 1 + 1, k + 1 + 1 + 1, k + 1 + 1 + 1 + 1⟩
theorem v_markInsS (k : Int) (l : List StepD) (hk : 0 ≤ k ∧ k + ctL ctS l < 1099511627776) (hn : l.length < 1073741824) (hb : ∀ x ∈ l, True) : C2 CC F_laws_markInsS [.own 5 (rowD sF l), iv k] (iv (k + ctL ctS l)) [.own 5 (rowD sF (mkL ctS mkS5 k l))] := by
 refine cw (keepF Tryz.f41) Tryz.f41 false ?_
 repeat' first | refine g0 ?_ | refine d0 ?_ | refine j0 (fun hg hgo => ?_) fun hg hgo => ?_ | refine ek_ret ?_ | refine ek_norm ?_ | refine ⟨by omega, ?_⟩ | rfl | trivial | intro _
 refine pw_loop (fun m st => ∃ j : Nat, j + m = l.length ∧ st = [(0, .hdr (1000000, []) 5 l.length), (1, iv (k + ctL ctS (l.take j))), (5, iv j), (1000000, .own 5 (rowD sF (mkL ctS mkS5 k (l.take j) ++ l.drop j)))]) l.length [(0, .hdr (1000000, []) 5 l.length), (1, iv (k + ctL ctS (l.take 0))), (5, iv (0 : Nat)), (1000000, .own 5 (rowD sF (mkL ctS mkS5 k (l.take 0) ++ l.drop 0)))] (sub_of ?_) ⟨0, by omega, rfl⟩ ?_
 ·have h0 : k + (ctL ctS (l.take 0) : Int) = k := by rw [List.take_zero]; exact Int.add_zero k
  rw [h0, List.take_zero, mkL, List.drop_zero, List.nil_append]
  exact dn
 ·rintro m st ⟨j, hj, rfl⟩
  by_cases hlt : j < l.length
  ·have hd : decide ((j : Int) < (l.length : Int)) = true := by rw [decide_eq_true_eq]; omega
   have hx := hb l[j] (List.getElem_mem hlt)
   have hct := ct_take (c := ctS) hlt
   have hcl := ct_le (c := ctS) (l := l) (j + 1)
   have hm := mk_take (c := ctS) (e := mkS5) k hlt
   have hs : ∀ y : StepD, (rowD sF (mkL ctS mkS5 k (l.take j) ++ l.drop j)).set j (sF y) = rowD sF (mkL ctS mkS5 k (l.take j) ++ y :: l.drop (j + 1)) := fun y => row_set (mk_take_len hlt) hlt y
   have hg := row_get (o := sF) (mk_take_len (c := ctS) (e := mkS5) (k := k) hlt) hlt
   have hL : (rowD sF (mkL ctS mkS5 k (l.take j) ++ l.drop j)).length = l.length := by rw [rowD_len, List.length_append, mk_take_len hlt, List.length_drop]; omega
   have hnr : noRefs (rowD sF (mkL ctS mkS5 k (l.take j) ++ l.drop j)) = true := nrs_rowD fun x => rfl
   have hm1 : rowD sF (mkL ctS mkS5 k (l.take (j + 1)) ++ l.drop (j + 1)) = (rowD sF (mkL ctS mkS5 k (l.take j) ++ l.drop j)).set j (sF (mkS5 (k + (ctL ctS (l.take j) : Int)) l[j])) := by rw [hm, List.append_assoc, List.singleton_append, ← hs]
   clear hm
   generalize rowD sF (mkL ctS mkS5 k (l.take j) ++ l.drop j) = L at hs hg hL hnr hm1
   rw [hct] at hcl
   have hk2 : k + (ctL ctS (l.take (j + 1)) : Int) = k + (ctL ctS (l.take j) : Int) + (ctS l[j] : Int) := by omega
   clear hct
   generalize hT : (ctL ctS (l.take j) : Int) = t at hcl hk2 hm1 ⊢
   skip
   have hjL : j < L.length := by omega
   have hss : ∀ d, (L.set j d)[j]? = some d := fun d => List.getElem?_set_self hjL
   repeat' first | refine g7 @hd @hL @hg @hnr @hss @List.set_set.{0} @List.length_set.{0} ?_ | refine d7 @hd @hL @hg @hnr @hss @List.set_set.{0} @List.length_set.{0} ?_ | refine j7 @hd @hL @hg @hnr @hss @List.set_set.{0} @List.length_set.{0} (fun hg hgo => ?_) fun hg hgo => ?_ | refine ek_ret ?_ | refine ek_norm ?_ | refine ⟨by omega, ?_⟩ | rfl | trivial | intro _
   refine rd_norm [(0, .hdr (1000000, []) 5 l.length), (1, iv (k + ctL ctS (l.take (j + 1)))), (5, iv (j + 1 : Nat)), (1000000, .own 5 (rowD sF (mkL ctS mkS5 k (l.take (j + 1)) ++ l.drop (j + 1))))] (sub_of ?_) (m - 1) (by omega) ⟨j + 1, by omega, rfl⟩
   rw [hk2, hm1]
   rw [show k + t + (ctS l[j] : Int) = k + t + 1 + 1 + 1 + 1 + 1 by unfold ctS; omega]
   exact dn
  ·have hd : decide ((j : Int) < (l.length : Int)) = false := by rw [decide_eq_false_iff_not]; omega
   have hjn : j = l.length := by omega
   subst hjn
   rw [List.take_length]
   have h0 : rowD sF (mkL ctS mkS5 k l ++ l.drop l.length) = rowD sF (mkL ctS mkS5 k l) := by simp
   repeat' first | refine g2 @hd @h0 ?_ | refine d2 @hd @h0 ?_ | refine j2 @hd @h0 (fun hg hgo => ?_) fun hg hgo => ?_ | refine ek_ret ?_ | refine ek_norm ?_ | refine ⟨by omega, ?_⟩ | rfl | trivial | intro _
def ctB (x : BlockD) : Nat := ctL ctP x.phis + ctL ctS x.list + 4
def mkT (k : Int) : TermD := ⟨k, k + 1, k + 1 + 1, k + 1 + 1 + 1⟩
def mkBk (k : Int) (x : BlockD) : BlockD := ⟨mkL ctP mkP k x.phis, mkL ctS mkS5 (k + ctL ctP x.phis) x.list, mkT (k + ctL ctP x.phis + ctL ctS x.list)⟩
theorem v_markBlockS (k : Int) (l : List BlockD) (hk : 0 ≤ k ∧ k + ctL ctB l < 1099511627776) (hn : l.length < 1073741824) (hb : ∀ x ∈ l, x.ok) : C2 CC F_laws_markBlockS [.own 6 (rowD blockO l), iv k] (iv (k + ctL ctB l)) [.own 6 (rowD blockO (mkL ctB mkBk k l))] := by
 refine cw (keepF Tryz.f24) Tryz.f24 false ?_
 repeat' first | refine g0 ?_ | refine d0 ?_ | refine j0 (fun hg hgo => ?_) fun hg hgo => ?_ | refine ek_ret ?_ | refine ek_norm ?_ | refine ⟨by omega, ?_⟩ | rfl | trivial | intro _
 refine pw_loop (fun m st => ∃ j : Nat, j + m = l.length ∧ st = [(0, .hdr (1000000, []) 6 l.length), (1, iv (k + ctL ctB (l.take j))), (5, iv j), (1000000, .own 6 (rowD blockO (mkL ctB mkBk k (l.take j) ++ l.drop j)))]) l.length [(0, .hdr (1000000, []) 6 l.length), (1, iv (k + ctL ctB (l.take 0))), (5, iv (0 : Nat)), (1000000, .own 6 (rowD blockO (mkL ctB mkBk k (l.take 0) ++ l.drop 0)))] (sub_of ?_) ⟨0, by omega, rfl⟩ ?_
 ·have h0 : k + (ctL ctB (l.take 0) : Int) = k := by rw [List.take_zero]; exact Int.add_zero k
  rw [h0, List.take_zero, mkL, List.drop_zero, List.nil_append]
  exact dn
 ·rintro m st ⟨j, hj, rfl⟩
  by_cases hlt : j < l.length
  ·have hd : decide ((j : Int) < (l.length : Int)) = true := by rw [decide_eq_true_eq]; omega
   have hx := hb l[j] (List.getElem_mem hlt)
   have hct := ct_take (c := ctB) hlt
   have hcl := ct_le (c := ctB) (l := l) (j + 1)
   have hm := mk_take (c := ctB) (e := mkBk) k hlt
   have hs : ∀ y : BlockD, (rowD blockO (mkL ctB mkBk k (l.take j) ++ l.drop j)).set j (blockO y) = rowD blockO (mkL ctB mkBk k (l.take j) ++ y :: l.drop (j + 1)) := fun y => row_set (mk_take_len hlt) hlt y
   have hg := row_get (o := blockO) (mk_take_len (c := ctB) (e := mkBk) (k := k) hlt) hlt
   have hL : (rowD blockO (mkL ctB mkBk k (l.take j) ++ l.drop j)).length = l.length := by rw [rowD_len, List.length_append, mk_take_len hlt, List.length_drop]; omega
   have hnr : noRefs (rowD blockO (mkL ctB mkBk k (l.take j) ++ l.drop j)) = true := nrs_rowD fun x => nr_blockO
   have hm1 : rowD blockO (mkL ctB mkBk k (l.take (j + 1)) ++ l.drop (j + 1)) = (rowD blockO (mkL ctB mkBk k (l.take j) ++ l.drop j)).set j (blockO (mkBk (k + (ctL ctB (l.take j) : Int)) l[j])) := by rw [hm, List.append_assoc, List.singleton_append, ← hs]
   clear hm
   generalize rowD blockO (mkL ctB mkBk k (l.take j) ++ l.drop j) = L at hs hg hL hnr hm1
   rw [hct] at hcl
   have hk2 : k + (ctL ctB (l.take (j + 1)) : Int) = k + (ctL ctB (l.take j) : Int) + (ctB l[j] : Int) := by omega
   clear hct
   generalize hT : (ctL ctB (l.take j) : Int) = t at hcl hk2 hm1 ⊢
   have hcc : (ctB l[j] : Int) = (ctL ctP l[j].phis : Int) + (ctL ctS l[j].list : Int) + 4 := by unfold ctB; omega
   have hjL : j < L.length := by omega
   have hss : ∀ d, (L.set j d)[j]? = some d := fun d => List.getElem?_set_self hjL
   repeat' first | refine ck_intro (by first | exact v_markPhiS _ _ (by omega) hx.1 hx.2.1 | exact v_markInsS _ _ (by omega) hx.2.2 (fun _ _ => trivial)) ?_ ?_ | refine g7 @hd @hL @hg @hnr @hss @List.set_set.{0} @List.length_set.{0} ?_ | refine d7 @hd @hL @hg @hnr @hss @List.set_set.{0} @List.length_set.{0} ?_ | refine j7 @hd @hL @hg @hnr @hss @List.set_set.{0} @List.length_set.{0} (fun hg hgo => ?_) fun hg hgo => ?_ | refine ek_ret ?_ | refine ek_norm ?_ | refine ⟨by omega, ?_⟩ | rfl | trivial | intro _
   refine rd_norm [(0, .hdr (1000000, []) 6 l.length), (1, iv (k + ctL ctB (l.take (j + 1)))), (5, iv (j + 1 : Nat)), (1000000, .own 6 (rowD blockO (mkL ctB mkBk k (l.take (j + 1)) ++ l.drop (j + 1))))] (sub_of ?_) (m - 1) (by omega) ⟨j + 1, by omega, rfl⟩
   rw [hk2, hm1]
   rw [show k + t + (ctB l[j] : Int) = k + t + (ctL ctP l[j].phis : Int) + (ctL ctS l[j].list : Int) + 1 + 1 + 1 + 1 by omega]
   exact dn
  ·have hd : decide ((j : Int) < (l.length : Int)) = false := by rw [decide_eq_false_iff_not]; omega
   have hjn : j = l.length := by omega
   subst hjn
   rw [List.take_length]
   have h0 : rowD blockO (mkL ctB mkBk k l ++ l.drop l.length) = rowD blockO (mkL ctB mkBk k l) := by simp
   repeat' first | refine g2 @hd @h0 ?_ | refine d2 @hd @h0 ?_ | refine j2 @hd @h0 (fun hg hgo => ?_) fun hg hgo => ?_ | refine ek_ret ?_ | refine ek_norm ?_ | refine ⟨by omega, ?_⟩ | rfl | trivial | intro _
def ctF (x : FnD) : Nat := ctL ctB x.blocks
def mkF (k : Int) (x : FnD) : FnD := ⟨mkL ctB mkBk k x.blocks, x.values⟩
theorem v_markFn (k : Int) (x : FnD) (hk : 0 ≤ k ∧ k + ctF x < 1099511627776) (hx : x.ok) : C2 CC F_laws_markFn [fnO x, iv k] (iv (k + ctF x)) [.junk 1] := by
 have h1 := v_markBlockS k x.blocks hk hx.1 hx.2
 obtain ⟨blocks, values⟩ := x
 unfold ctF at *
 refine cw (keepF Tryz.f11) Tryz.f11 false ?_
 repeat' first | refine ck_intro (by first | exact h1) ?_ ?_ | refine g0 ?_ | refine d0 ?_ | refine j0 (fun hg hgo => ?_) fun hg hgo => ?_ | refine ek_ret ?_ | refine ek_norm ?_ | refine ⟨by omega, ?_⟩ | rfl | trivial | intro _
section
variable {α : Type} {c : α → Nat} {e : Int → α → α} {l : List α} {j : Nat} {k : Int}
theorem mk_get (h : j < l.length) (h2 : j < (mkL c e k l).length) : (mkL c e k l)[j]'h2 = e (k + (ctL c (l.take j) : Int)) l[j] := by
 have h1 : mkL c e k l = mkL c e k (l.take j) ++ e (k + (ctL c (l.take j) : Int)) l[j] :: mkL c e (k + (ctL c (l.take j) : Int) + (c l[j] : Int)) (l.drop (j + 1)) := by
  conv => lhs; rw [← List.take_append_drop j l]
  rw [mk_app, List.drop_eq_getElem_cons h, mkL]
 simp only [h1]
 rw [List.getElem_append_right (by rw [mk_take_len h]; omega)]
 simp [mk_take_len h]
end
theorem v_in (n lo hi : Int) : C2 CC F_impl_in [iv n, iv lo, iv hi] (bv (decide (n ≥ lo) && decide (n ≤ hi))) [] := by
 refine cw (keepF Tryz.f56) Tryz.f56 false ?_
 repeat' first | refine g0 ?_ | refine d0 ?_ | refine j0 (fun hg hgo => ?_) fun hg hgo => ?_ | refine ek_ret ?_ | refine ek_norm ?_ | refine ⟨by omega, ?_⟩ | rfl | trivial | intro _
 all_goals simp_all
theorem v_l1In (n lo hi : Int) : C2 CC F_spec_l1In [iv n, iv lo, iv hi] (bv (decide (n ≥ lo) && decide (n ≤ hi))) [] := by
 refine cw (keepF Tryz.f48) Tryz.f48 false ?_
 repeat' first | refine g0 ?_ | refine d0 ?_ | refine j0 (fun hg hgo => ?_) fun hg hgo => ?_ | refine ek_ret ?_ | refine ek_norm ?_ | refine ⟨by omega, ?_⟩ | rfl | trivial | intro _
 all_goals simp_all
def wok (op : Int) : Bool := decide (op ≥ 1) && decide (op ≤ 10)
theorem v_WordOk (op : Int) : C2 CC F_impl_WordOk [iv op] (bv (wok op)) [] := by
 refine cw (keepF Tryz.f89) Tryz.f89 false ?_
 repeat' first | refine ck_intro (by first | exact v_in _ _ _) ?_ ?_ | refine g0 ?_ | refine d0 ?_ | refine j0 (fun hg hgo => ?_) fun hg hgo => ?_ | refine ek_ret ?_ | refine ek_norm ?_ | refine ⟨by omega, ?_⟩ | rfl | trivial | intro _
theorem s_WordOk (op : Int) : C2 CC F_spec_WordOk [iv op] (bv (wok op)) [] := by
 refine cw (keepF Tryz.f29) Tryz.f29 false ?_
 repeat' first | refine ck_intro (by first | exact v_l1In _ _ _) ?_ ?_ | refine g0 ?_ | refine d0 ?_ | refine j0 (fun hg hgo => ?_) fun hg hgo => ?_ | refine ek_ret ?_ | refine ek_norm ?_ | refine ⟨by omega, ?_⟩ | rfl | trivial | intro _
def usesL (x : StepD) : List Int := if (wok x.op || x.op == 22) = true then [x.a, x.b] else if (x.op == 21 || x.op == 23 || x.op == 25) = true then [x.a] else []
theorem v_InsUses (x : StepD) : C2 CC F_spec_InsUses [sF x] (.own 1 (ints (usesL x))) [] := by
 refine cw (keepF Tryz.f17) Tryz.f17 false ?_
 repeat' first | refine ck_intro (by first | exact s_WordOk _) ?_ ?_ | refine g0 ?_ | refine d0 ?_ | refine j0 (fun hg hgo => ?_) fun hg hgo => ?_ | refine ek_ret ?_ | refine ek_norm ?_ | refine ⟨by omega, ?_⟩ | rfl | trivial | intro _
 all_goals first | rfl | (simp_all [beqD, usesL, ints]; done) | ((try simp only [usesL, ints]); (repeat' split) <;> first | omega | (simp_all [beqD]; done) | (simp_all [beqD]; omega)) | (simp_all [beqD, usesL, ints]; (repeat' split) <;> first | rfl | omega | (simp_all; done))
def rb (l : List Int) : FV := .row 1 (l.map (.int .u8))
def idxI (c : Int) : List Int → Int → Int
 | [], _ => -1
 | x :: l, j => if c = x then j else idxI c l (j + 1)
theorem idx_at (c : Int) : ∀ (l : List Int) (j : Nat) (k : Int), (∀ i (h : i < l.length), i < j → c ≠ l[i]) → idxI c l k = idxI c (l.drop j) (k + j)
 | l, 0, k, _ => by simp
 | [], j + 1, k, _ => by simp [idxI]
 | x :: l, j + 1, k, h => by
  have h0 := h 0 (by simp) (by omega)
  simp only [List.getElem_cons_zero] at h0
  rw [List.drop_succ_cons, idxI, if_neg h0, idx_at c l j (k + 1) (fun i hi hij => by have := h (i + 1) (by simpa using hi) (by omega); simpa using this)]
  congr 1; omega
theorem v_Index_byte (l : List Int) (c : Int) (hl : l.length < 4611686018427387904) : C2 CC F_slices_Index_byte [.fv (rb l), .fv (.int .u8 c)] (iv (idxI c l 0)) [] := by
 unfold rb
 refine cw (keepF Tryz.f90) Tryz.f90 false ?_
 repeat' first | refine g0 ?_ | refine d0 ?_ | refine j0 (fun hg hgo => ?_) fun hg hgo => ?_ | refine ek_ret ?_ | refine ek_norm ?_ | refine ⟨by omega, ?_⟩ | rfl | trivial | intro _
 refine pw_loop (fun m st => ∃ j : Nat, j + m = l.length ∧ (∀ i (h : i < l.length), i < j → c ≠ l[i]) ∧ st = [(0, .fv (rb l)), (1, .fv (.int .u8 c)), (7, iv l.length), (8, iv j)]) l.length [(0, .fv (rb l)), (1, .fv (.int .u8 c)), (7, iv l.length), (8, iv (0 : Nat))] (sub_of ?_) ⟨0, by omega, fun i _ hi => by omega, rfl⟩ ?_
 ·unfold rb
  exact dn
 ·rintro m st ⟨j, hj, hb, rfl⟩
  unfold rb
  have hidx := idx_at c l j 0 hb
  by_cases hlt : j < l.length
  ·have hd : decide ((j : Int) < (l.length : Int)) = true := by rw [decide_eq_true_eq]; omega
   have hml : j < (l.map (FV.int .u8)).length := by rw [List.length_map]; exact hlt
   have hidx2 : idxI c l 0 = if c = l[j] then (j : Int) else idxI c (l.drop (j + 1)) (j + 1) := by
    rw [hidx, List.drop_eq_getElem_cons hlt, idxI]; simp
   repeat' first | refine g1 @hd ?_ | refine d1 @hd ?_ | refine j1 @hd (fun hg hgo => ?_) fun hg hgo => ?_ | refine ek_ret ?_ | refine ek_norm ?_ | refine ⟨by omega, ?_⟩ | rfl | trivial | intro _
   ·rw [hidx2, if_pos (by simpa using hg)]
   ·have hne : c ≠ l[j] := by simpa using hg
    refine rd_norm [(0, .fv (rb l)), (1, .fv (.int .u8 c)), (7, iv l.length), (8, iv (j + 1 : Nat))] (sub_of ?_) (m - 1) (by omega) ⟨j + 1, by omega, fun i hi h1 => ?_, rfl⟩
    ·unfold rb
     exact dn
    ·by_cases h2 : i = j
     ·subst h2; exact hne
     ·exact hb i hi (by omega)
  ·have hd : decide ((j : Int) < (l.length : Int)) = false := by rw [decide_eq_false_iff_not]; omega
   have hidx2 : idxI c l 0 = -1 := by
    rw [hidx, List.drop_eq_nil_of_le (by omega)]; rfl
   repeat' first | refine g2 @hd @hidx2 ?_ | refine d2 @hd @hidx2 ?_ | refine j2 @hd @hidx2 (fun hg hgo => ?_) fun hg hgo => ?_ | refine ek_ret ?_ | refine ek_norm ?_ | refine ⟨by omega, ?_⟩ | rfl | trivial | intro _
def byI (b : ByteArray) : List Int := b.data.toList.map fun x => (x.toNat : Int)
theorem byI_len (b : ByteArray) : (byI b).length = b.size := by unfold byI; rw [List.length_map]; rfl
@[go_sem] theorem bytesF_eq (b : ByteArray) : bytesF b = (byI b).map fun n => .fv (.int .u8 n) := by
 unfold bytesF byI; rw [List.map_map]; rfl
def formB (op : Int) : ByteArray := if op = 20 then ⟨#[68, 78]⟩ else if op = 21 then ⟨#[68, 65]⟩ else if op = 25 then ⟨#[68, 65]⟩ else if op = 22 then ⟨#[65, 66]⟩ else if op = 23 then ⟨#[65]⟩ else if op = 24 then ⟨#[68]⟩ else ⟨#[68, 65, 66]⟩
def formK (op : Int) : Bool := if op = 20 then true else if op = 21 then true else if op = 25 then true else if op = 22 then true else if op = 23 then true else if op = 24 then true else wok op
theorem formB_len (op : Int) : (byI (formB op)).length < 4611686018427387904 := by
 rw [byI_len]; unfold formB; repeat' split
 all_goals decide
theorem v_formOf (op : Int) : C2 CC F_impl_formOf [iv op] (.tup [.fv (.str (formB op)), bv (formK op)]) [] := by
 refine cw (keepF Tryz.f61) Tryz.f61 false ?_
 repeat' first | refine ck_intro (by first | exact v_WordOk _) ?_ ?_ | refine g0 ?_ | refine d0 ?_ | refine j0 (fun hg hgo => ?_) fun hg hgo => ?_ | refine ek_ret ?_ | refine ek_norm ?_ | refine ⟨by omega, ?_⟩ | rfl | trivial | intro _
 all_goals simp_all [formB, formK]
def hasI (l : List Int) (c : Int) : Bool := decide (idxI c l 0 ≥ 0)
theorem v_Contains_byte (l : List Int) (c : Int) (hl : l.length < 4611686018427387904) : C2 CC F_slices_Contains_byte [.fv (rb l), .fv (.int .u8 c)] (bv (hasI l c)) [] := by
 refine cw (keepF Tryz.f62) Tryz.f62 false ?_
 repeat' first | refine ck_intro (by first | exact v_Index_byte _ _ hl) ?_ ?_ | refine g0 ?_ | refine d0 ?_ | refine j0 (fun hg hgo => ?_) fun hg hgo => ?_ | refine ek_ret ?_ | refine ek_norm ?_ | refine ⟨by omega, ?_⟩ | rfl | trivial | intro _
def hasP (op c : Int) : Bool := formK op && hasI (byI (formB op)) c
theorem v_has (op c : Int) : C2 CC F_impl_has [iv op, .fv (.int .u8 c)] (bv (hasP op c)) [] := by
 refine cw (keepF Tryz.f38) Tryz.f38 false ?_
 repeat' first | refine ck_intro (by first | exact v_formOf _ | exact v_Contains_byte _ _ (formB_len op)) ?_ ?_ | refine g0 ?_ | refine d0 ?_ | refine j0 (fun hg hgo => ?_) fun hg hgo => ?_ | refine ek_ret ?_ | refine ek_norm ?_ | refine ⟨by omega, ?_⟩ | rfl | trivial | intro _
 all_goals simp_all [hasP]
def makesB (op : Int) : Bool := wok op || op == 20 || op == 21 || op == 24 || op == 25
def hasA (op : Int) : Bool := wok op || op == 22 || op == 21 || op == 23 || op == 25
def hasBb (op : Int) : Bool := wok op || op == 22
theorem hasP_all (op : Int) : hasP op 65 = hasA op ∧ hasP op 66 = hasBb op ∧ hasP op 68 = makesB op := by
 by_cases h20 : op = 20
 ·subst h20; decide
 by_cases h21 : op = 21
 ·subst h21; decide
 by_cases h22 : op = 22
 ·subst h22; decide
 by_cases h23 : op = 23
 ·subst h23; decide
 by_cases h24 : op = 24
 ·subst h24; decide
 by_cases h25 : op = 25
 ·subst h25; decide
 have hb : formB op = ⟨#[68, 65, 66]⟩ := by simp [formB, h20, h21, h22, h23, h24, h25]
 have hk : formK op = wok op := by simp [formK, h20, h21, h22, h23, h24, h25]
 have i1 : hasI (byI ⟨#[68, 65, 66]⟩) 65 = true := by decide
 have i2 : hasI (byI ⟨#[68, 65, 66]⟩) 66 = true := by decide
 have i3 : hasI (byI ⟨#[68, 65, 66]⟩) 68 = true := by decide
 simp [hasP, hb, hk, i1, i2, i3, hasA, hasBb, makesB, beqD, h20, h21, h22, h23, h24, h25]
theorem v_hasA (op : Int) : C2 CC F_impl_has [iv op, .fv (.int .u8 65)] (bv (hasA op)) [] := by rw [← (hasP_all op).1]; exact v_has op 65
theorem v_hasB (op : Int) : C2 CC F_impl_has [iv op, .fv (.int .u8 66)] (bv (hasBb op)) [] := by rw [← (hasP_all op).2.1]; exact v_has op 66
theorem v_hasD (op : Int) : C2 CC F_impl_has [iv op, .fv (.int .u8 68)] (bv (makesB op)) [] := by rw [← (hasP_all op).2.2]; exact v_has op 68
def hasNb (op : Int) : Bool := op == 20
theorem hasP_N (op : Int) : hasP op 78 = hasNb op := by
 by_cases h20 : op = 20
 ·subst h20; decide
 by_cases h21 : op = 21
 ·subst h21; decide
 by_cases h22 : op = 22
 ·subst h22; decide
 by_cases h23 : op = 23
 ·subst h23; decide
 by_cases h24 : op = 24
 ·subst h24; decide
 by_cases h25 : op = 25
 ·subst h25; decide
 have hb : formB op = ⟨#[68, 65, 66]⟩ := by simp [formB, h20, h21, h22, h23, h24, h25]
 have i1 : hasI (byI ⟨#[68, 65, 66]⟩) 78 = false := by decide
 simp [hasP, hb, i1, hasNb, h20]
theorem v_hasN (op : Int) : C2 CC F_impl_has [iv op, .fv (.int .u8 78)] (bv (hasNb op)) [] := by rw [← hasP_N op]; exact v_has op 78
theorem v_l2Makes (op : Int) : C2 CC F_spec_l2Makes [iv op] (bv (makesB op)) [] := by
 refine cw (keepF Tryz.f30) Tryz.f30 false ?_
 repeat' first | refine ck_intro (by first | exact s_WordOk _) ?_ ?_ | refine g0 ?_ | refine d0 ?_ | refine j0 (fun hg hgo => ?_) fun hg hgo => ?_ | refine ek_ret ?_ | refine ek_norm ?_ | refine ⟨by omega, ?_⟩ | rfl | trivial | intro _
 all_goals first | rfl | (simp_all [beqD, makesB]; done) | ((try simp only [makesB]); (repeat' split) <;> first | omega | (simp_all [beqD]; done) | (simp_all [beqD]; omega)) | (simp_all [beqD, makesB]; (repeat' split) <;> first | rfl | omega | (simp_all; done))
def bools (l : List Bool) : List DV := l.map fun b => .fv (.bool b)
@[go_sem] theorem nrs_bools {l : List Bool} : noRefs (bools l) = true := nrs_map
@[go_sem] theorem fzL_bools {l : List Bool} : fzL (bools l) = some (l.map .bool) := fzL_map
@[go_sem] theorem clDs_bools {l : List Bool} : clDs (bools l) = true := clDs_map fun x => rfl
@[go_sem] theorem bools_len {l : List Bool} : (bools l).length = l.length := by unfold bools; simp
@[go_sem] theorem map_bools {l : List Bool} : (l.map FV.bool).map DV.fv = bools l := by unfold bools; rw [List.map_map]; rfl
theorem ints_get {l : List Int} {i : Nat} (h : i < l.length) : (ints l)[i]? = some (iv l[i]) := by unfold ints; simp [h]
theorem bools_set {l : List Bool} {i : Nat} {b : Bool} : (bools l).set i (.fv (.bool b)) = bools (l.set i b) := by unfold bools; rw [List.map_set]
theorem bools_get {l : List Bool} {i : Nat} (h : i < l.length) : (bools l)[i]? = some (.fv (.bool l[i])) := by unfold bools; simp [h]
theorem bools_rep {n : Nat} {b : Bool} : List.replicate n (DV.fv (.bool b)) = bools (List.replicate n b) := by unfold bools; simp
abbrev setF (l : List Bool) : FV := .row 1 (l.map .bool)
def insDefI (x : StepD) : Int := if makesB x.op = true then x.r else -1
def trmUses (t : TermD) : List Int := if t.kind = 2 ∨ t.kind = 3 then [t.a] else []
def succL (t : TermD) : List Int := if t.kind = 1 then [t.to] else if t.kind = 2 then (if t.to = t.els then [t.to] else [t.to, t.els]) else []
def backB (x : StepD) (live : List Bool) : List Bool := (usesL x).foldl (fun o u => o.set u.toNat true) (if insDefI x ≥ 0 then live.set (insDefI x).toNat false else live)
theorem v_InsDef_spec (x : StepD) : C2 CC F_spec_InsDef [sF x] (iv (insDefI x)) [] := by
 obtain ⟨op, r, a, b, n⟩ := x
 refine cw (keepF Tryz.f18) Tryz.f18 false ?_
 repeat' first | refine ck_intro (by first | exact v_l2Makes _) ?_ ?_ | refine g0 ?_ | refine d0 ?_ | refine j0 (fun hg hgo => ?_) fun hg hgo => ?_ | refine ek_ret ?_ | refine ek_norm ?_ | refine ⟨by omega, ?_⟩ | rfl | trivial | intro _
 all_goals first | rfl | (simp_all [beqD, insDefI]; done) | ((try simp only [insDefI]); (repeat' split) <;> first | omega | (simp_all [beqD]; done) | (simp_all [beqD]; omega)) | (simp_all [beqD, insDefI]; (repeat' split) <;> first | rfl | omega | (simp_all; done))
theorem v_TermUses_spec (x : TermD) : C2 CC F_spec_TermUses [.fv (termF x)] (.own 1 (ints (trmUses x))) [] := by
 obtain ⟨k, a, to, els⟩ := x
 refine cw (keepF Tryz.f16) Tryz.f16 false ?_
 repeat' first | refine g0 ?_ | refine d0 ?_ | refine j0 (fun hg hgo => ?_) fun hg hgo => ?_ | refine ek_ret ?_ | refine ek_norm ?_ | refine ⟨by omega, ?_⟩ | rfl | trivial | intro _
 all_goals first | rfl | (simp_all [beqD, trmUses, ints]; done) | ((try simp only [trmUses, ints]); (repeat' split) <;> first | omega | (simp_all [beqD]; done) | (simp_all [beqD]; omega)) | (simp_all [beqD, trmUses, ints]; (repeat' split) <;> first | rfl | omega | (simp_all; done))
theorem v_l3Succs (f : FnD) (b : Nat) (hb : b < f.blocks.length) (hf : f.blocks.length < 1073741824) : C2 CC F_spec_l3Succs [.fv (fnF f), iv b] (.own 1 (ints (succL f.blocks[b].term))) [] := by
 have hml : b < (f.blocks.map blockF).length := by rw [List.length_map]; exact hb
 refine cw (keepF Tryz.f109) Tryz.f109 false ?_
 repeat' first | refine g0 ?_ | refine d0 ?_ | refine j0 (fun hg hgo => ?_) fun hg hgo => ?_ | refine ek_ret ?_ | refine ek_norm ?_ | refine ⟨by omega, ?_⟩ | rfl | trivial | intro _
 all_goals first | rfl | (simp_all [beqD, succL, ints]; done) | ((try simp only [succL, ints]); (repeat' split) <;> first | omega | (simp_all [beqD]; done) | (simp_all [beqD]; omega)) | (simp_all [beqD, succL, ints]; (repeat' split) <;> first | rfl | omega | (simp_all; done))
def idxP {α : Type} (P : α → Bool) : List α → Int → Int
 | [], _ => -1
 | x :: l, j => if P x = true then j else idxP P l (j + 1)
theorem idxP_at {α : Type} (P : α → Bool) : ∀ (l : List α) (j : Nat) (k : Int), (∀ i (h : i < l.length), i < j → P l[i] = false) → idxP P l k = idxP P (l.drop j) (k + j)
 | l, 0, k, _ => by simp
 | [], j + 1, k, _ => by simp [idxP]
 | x :: l, j + 1, k, h => by
  have h0 := h 0 (by simp) (by omega)
  simp only [List.getElem_cons_zero] at h0
  rw [List.drop_succ_cons, idxP, if_neg (by simp [h0]), idxP_at P l j (k + 1) (fun i hi hij => by have := h (i + 1) (by simpa using hi) (by omega); simpa using this)]
  congr 1; omega
theorem idxP_ge {α : Type} (P : α → Bool) : ∀ (l : List α) (k : Int), 0 ≤ k → decide (idxP P l k ≥ 0) = l.any P
 | [], k, _ => by simp [idxP]
 | x :: l, k, hk => by
  unfold idxP
  cases hx : P x with
  | true => simp [hx, hk]
  | false => simp only [Bool.false_eq_true, if_false, List.any_cons, hx, Bool.false_or]; exact idxP_ge P l (k + 1) (by omega)
theorem idxP_any {α : Type} (P : α → Bool) (l : List α) : decide (idxP P l 0 ≥ 0) = l.any P := idxP_ge P l 0 (by omega)
theorem all_step {α : Type} {p : α → Bool} {l : List α} {j : Nat} (h : (l.take j).all p = true) (hj : j < l.length) (hp : p l[j] = true) : (l.take (j + 1)).all p = true := by
 rw [List.take_succ_eq_append_getElem hj, List.all_append, h]; simp [hp]
theorem all_bad {α : Type} {p : α → Bool} {l : List α} {j : Nat} (hj : j < l.length) (hp : p l[j] = false) : l.all p = false := by
 rw [List.all_eq_false]
 exact ⟨l[j], List.getElem_mem hj, by simp [hp]⟩
theorem all_end {α : Type} {p : α → Bool} {l : List α} {j : Nat} (h : (l.take j).all p = true) (hj : l.length ≤ j) : l.all p = true := by
 rw [List.take_of_length_le hj] at h; exact h
def rgB (n lo hi : Int) : Bool := decide (n ≥ lo) && decide (n ≤ hi)
def valB (n values : Int) : Bool := decide (n ≥ 0) && decide (n < values)
def insB (x : StepD) (values : Int) : Bool :=
 if wok x.op = true then valB x.r values && valB x.a values && valB x.b values && decide (x.n = 0)
 else if x.op = 20 then valB x.r values && decide (x.a = 0) && decide (x.b = 0)
 else if x.op = 21 ∨ x.op = 25 then valB x.r values && valB x.a values && decide (x.b = 0) && decide (x.n = 0)
 else if x.op = 22 then valB x.a values && valB x.b values && decide (x.r = 0) && decide (x.n = 0)
 else if x.op = 23 then valB x.a values && decide (x.r = 0) && decide (x.b = 0) && decide (x.n = 0)
 else if x.op = 24 then valB x.r values && decide (x.a = 0) && decide (x.b = 0) && decide (x.n = 0)
 else false
def termB (t : TermD) (blocks values : Int) : Bool :=
 if t.kind = 1 then rgB t.to 0 (blocks - 1) && decide (t.a = 0) && decide (t.els = 0)
 else if t.kind = 2 then rgB t.to 0 (blocks - 1) && rgB t.els 0 (blocks - 1) && valB t.a values
 else if t.kind = 3 then valB t.a values && decide (t.to = 0) && decide (t.els = 0)
 else false
def armB (pre : List ArmD) (a : ArmD) (blocks values : Int) : Bool := rgB a.fr 0 (blocks - 1) && valB a.v values && pre.all fun x => !decide (x.fr = a.fr)
def armsB (blocks values : Int) : List ArmD → List ArmD → Bool
 | _, [] => true
 | pre, a :: l => armB pre a blocks values && armsB blocks values (pre ++ [a]) l
def phiB (p : PhiD) (blocks values : Int) : Bool := valB p.d values && decide (p.arms.length ≤ 16) && armsB blocks values [] p.arms
def blockB (b : BlockD) (blocks values : Int) : Bool := decide (b.phis.length ≤ 24) && decide (b.list.length ≤ 24) && termB b.term blocks values && b.phis.all (fun p => phiB p blocks values) && b.list.all (fun x => insB x values)
def shapeB (f : FnD) : Bool := rgB f.blocks.length 1 16 && rgB f.values 0 80 && f.blocks.all (fun b => blockB b f.blocks.length f.values)
theorem v_l2Value (n values : Int) : C2 CC F_spec_l2Value [iv n, iv values] (bv (valB n values)) [] := by
 refine cw (keepF Tryz.f94) Tryz.f94 false ?_
 repeat' first | refine g0 ?_ | refine d0 ?_ | refine j0 (fun hg hgo => ?_) fun hg hgo => ?_ | refine ek_ret ?_ | refine ek_norm ?_ | refine ⟨by omega, ?_⟩ | rfl | trivial | intro _
 all_goals first | rfl | (simp_all [beqD, valB]; done) | ((try simp only [valB]); (repeat' split) <;> first | omega | (simp_all [beqD]; done) | (simp_all [beqD]; omega)) | (simp_all [beqD, valB]; (repeat' split) <;> first | rfl | omega | (simp_all; done))
theorem v_l2Ins (x : StepD) (values : Int) : C2 CC F_spec_l2Ins [sF x, iv values] (bv (insB x values)) [] := by
 obtain ⟨op, r, a, b, n⟩ := x
 refine cw (keepF Tryz.f71) Tryz.f71 false ?_
 repeat' first | refine ck_intro (by first | exact v_l2Value _ _ | exact s_WordOk _) ?_ ?_ | refine g0 ?_ | refine d0 ?_ | refine j0 (fun hg hgo => ?_) fun hg hgo => ?_ | refine ek_ret ?_ | refine ek_norm ?_ | refine ⟨by omega, ?_⟩ | rfl | trivial | intro _
 all_goals first | rfl | (simp_all [beqD, insB, beqT, beqF]; done) | ((try simp only [insB, beqT, beqF]); (repeat' split) <;> first | omega | (simp_all [beqD]; done) | (simp_all [beqD]; omega)) | (simp_all [beqD, insB, beqT, beqF]; (repeat' split) <;> first | rfl | omega | (simp_all; done))
theorem v_l2Term (x : TermD) (blocks values : Int) (hb : 0 ≤ blocks ∧ blocks ≤ 1000000000) : C2 CC F_spec_l2Term [.fv (termF x), iv blocks, iv values] (bv (termB x blocks values)) [] := by
 obtain ⟨k, a, to, els⟩ := x
 refine cw (keepF Tryz.f69) Tryz.f69 false ?_
 repeat' first | refine ck_intro (by first | exact v_l2Value _ _ | exact v_l1In _ _ _) ?_ ?_ | refine g0 ?_ | refine d0 ?_ | refine j0 (fun hg hgo => ?_) fun hg hgo => ?_ | refine ek_ret ?_ | refine ek_norm ?_ | refine ⟨by omega, ?_⟩ | rfl | trivial | intro _
 all_goals first | rfl | (simp_all [beqD, termB, rgB, beqT, beqF]; done) | ((try simp only [termB, rgB, beqT, beqF]); (repeat' split) <;> first | omega | (simp_all [beqD]; done) | (simp_all [beqD]; omega)) | (simp_all [beqD, termB, rgB, beqT, beqF]; (repeat' split) <;> first | rfl | omega | (simp_all; done))
theorem ints0 : ints [] = [] := rfl
def inU (x : StepD) (n : Nat) : Prop := (makesB x.op = true → 0 ≤ x.r ∧ x.r < n) ∧ ∀ u ∈ usesL x, 0 ≤ u ∧ u < n
theorem foldset_len : ∀ (us : List Int) (o : List Bool), (us.foldl (fun o u => o.set u.toNat true) o).length = o.length
 | [], o => rfl
 | u :: us, o => by rw [List.foldl_cons, foldset_len us]; simp
theorem backB_len (x : StepD) (live : List Bool) : (backB x live).length = live.length := by
 unfold backB; rw [foldset_len]; split <;> simp
theorem fold_take {us : List Int} {o : List Bool} {j : Nat} (h : j < us.length) : (us.take (j + 1)).foldl (fun o u => o.set u.toNat true) o = ((us.take j).foldl (fun o u => o.set u.toNat true) o).set us[j].toNat true := by
 rw [List.take_succ_eq_append_getElem h, List.foldl_append]; rfl
theorem v_l11Back (x : StepD) (live : List Bool) (hx : inU x live.length) (hl : live.length ≤ 1000) : C2 CC F_spec_l11Back [sF x, .fv (setF live)] (.own 1 (bools (backB x live))) [] := by
 have h1 := v_InsDef_spec x
 have h2 := v_InsUses x
 unfold backB
 have hu := hx.2
 have hul : (usesL x).length ≤ 2 := by unfold usesL; split; simp; split <;> simp
 generalize usesL x = us at h2 hu hul
 cases hm : makesB x.op with
 | true =>
  obtain ⟨a1, a2⟩ := hx.1 hm
  have hd : insDefI x = x.r := by unfold insDefI; rw [if_pos hm]
  have hge : decide (x.r ≥ 0) = true := by rw [decide_eq_true_eq]; omega
  rw [hd, if_pos (by omega)]
  rw [hd] at h1
  have hlt : x.r.toNat < live.length := by omega
  have hg := bools_get hlt
  have hxr : 0 ≤ x.r ∧ x.r < (live.length : Int) := ⟨a1, a2⟩
  refine cw (keepF Tryz.f96) Tryz.f96 false ?_
  repeat' first | refine ck_intro (by first | exact h1 | exact h2) ?_ ?_ | refine g4 @hge @hg @hxr @bools_set ?_ | refine d4 @hge @hg @hxr @bools_set ?_ | refine j4 @hge @hg @hxr @bools_set (fun hg hgo => ?_) fun hg hgo => ?_ | refine ek_ret ?_ | refine ek_norm ?_ | refine ⟨by omega, ?_⟩ | rfl | trivial | intro _
  generalize ho : live.set x.r.toNat false = o
  have hol : o.length = live.length := by rw [← ho]; simp
  refine pw_loop (fun m st => ∃ j : Nat, j + m = us.length ∧ st = [(5, .own 1 (bools ((us.take j).foldl (fun o u => o.set u.toNat true) o))), (7, .own 1 (ints us)), (8, iv j)]) us.length [(5, .own 1 (bools ((us.take 0).foldl (fun o u => o.set u.toNat true) o))), (7, .own 1 (ints us)), (8, iv (0 : Nat))] (sub_of ?_) ⟨0, by omega, rfl⟩ ?_
  ·rw [List.take_zero, List.foldl_nil]
   repeat' first | refine g1 @ho ?_ | refine d1 @ho ?_ | refine j1 @ho (fun hg hgo => ?_) fun hg hgo => ?_ | refine ek_ret ?_ | refine ek_norm ?_ | refine ⟨by omega, ?_⟩ | rfl | trivial | intro _
  ·rintro m st ⟨j, hj, rfl⟩
   by_cases hlt : j < us.length
   ·have hd : decide ((j : Int) < (us.length : Int)) = true := by rw [decide_eq_true_eq]; omega
    have hgi := ints_get hlt
    have hul2 := hu us[j] (List.getElem_mem hlt)
    have hrow : ((us.take j).foldl (fun o u => o.set u.toNat true) o).length = live.length := by rw [foldset_len, hol]
    have hft := fold_take (o := o) hlt
    generalize (us.take j).foldl (fun o u => o.set u.toNat true) o = q at hrow hft
    have hltq : us[j].toNat < q.length := by omega
    have hgq := bools_get hltq
    have hb : 0 ≤ us[j] ∧ us[j] < (q.length : Int) := ⟨by omega, by omega⟩
    repeat' first | refine g5 @hd @hgi @hgq @hb @bools_set ?_ | refine d5 @hd @hgi @hgq @hb @bools_set ?_ | refine j5 @hd @hgi @hgq @hb @bools_set (fun hg hgo => ?_) fun hg hgo => ?_ | refine ek_ret ?_ | refine ek_norm ?_ | refine ⟨by omega, ?_⟩ | rfl | trivial | intro _
    refine rd_norm [(5, .own 1 (bools ((us.take (j + 1)).foldl (fun o u => o.set u.toNat true) o))), (7, .own 1 (ints us)), (8, iv (j + 1 : Nat))] (sub_of ?_) (m - 1) (by omega) ⟨j + 1, by omega, rfl⟩
    rw [hft]
    exact dn
   ·have hd : decide ((j : Int) < (us.length : Int)) = false := by rw [decide_eq_false_iff_not]; omega
    rw [List.take_of_length_le (by omega)]
    repeat' first | refine g1 @hd ?_ | refine d1 @hd ?_ | refine j1 @hd (fun hg hgo => ?_) fun hg hgo => ?_ | refine ek_ret ?_ | refine ek_norm ?_ | refine ⟨by omega, ?_⟩ | rfl | trivial | intro _
 | false =>
  have hd : insDefI x = -1 := by unfold insDefI; rw [if_neg (by rw [hm]; simp)]
  rw [hd, if_neg (by omega)]
  rw [hd] at h1
  refine cw (keepF Tryz.f96) Tryz.f96 false ?_
  repeat' first | refine ck_intro (by first | exact h1 | exact h2) ?_ ?_ | refine g0 ?_ | refine d0 ?_ | refine j0 (fun hg hgo => ?_) fun hg hgo => ?_ | refine ek_ret ?_ | refine ek_norm ?_ | refine ⟨by omega, ?_⟩ | rfl | trivial | intro _
  generalize ho : live = o
  have hol : o.length = live.length := by rw [← ho]
  refine pw_loop (fun m st => ∃ j : Nat, j + m = us.length ∧ st = [(5, .own 1 (bools ((us.take j).foldl (fun o u => o.set u.toNat true) o))), (7, .own 1 (ints us)), (8, iv j)]) us.length [(5, .own 1 (bools ((us.take 0).foldl (fun o u => o.set u.toNat true) o))), (7, .own 1 (ints us)), (8, iv (0 : Nat))] (sub_of ?_) ⟨0, by omega, rfl⟩ ?_
  ·rw [List.take_zero, List.foldl_nil]
   repeat' first | refine g1 @ho ?_ | refine d1 @ho ?_ | refine j1 @ho (fun hg hgo => ?_) fun hg hgo => ?_ | refine ek_ret ?_ | refine ek_norm ?_ | refine ⟨by omega, ?_⟩ | rfl | trivial | intro _
  ·rintro m st ⟨j, hj, rfl⟩
   by_cases hlt : j < us.length
   ·have hd : decide ((j : Int) < (us.length : Int)) = true := by rw [decide_eq_true_eq]; omega
    have hgi := ints_get hlt
    have hul2 := hu us[j] (List.getElem_mem hlt)
    have hrow : ((us.take j).foldl (fun o u => o.set u.toNat true) o).length = live.length := by rw [foldset_len, hol]
    have hft := fold_take (o := o) hlt
    generalize (us.take j).foldl (fun o u => o.set u.toNat true) o = q at hrow hft
    have hltq : us[j].toNat < q.length := by omega
    have hgq := bools_get hltq
    have hb : 0 ≤ us[j] ∧ us[j] < (q.length : Int) := ⟨by omega, by omega⟩
    repeat' first | refine g5 @hd @hgi @hgq @hb @bools_set ?_ | refine d5 @hd @hgi @hgq @hb @bools_set ?_ | refine j5 @hd @hgi @hgq @hb @bools_set (fun hg hgo => ?_) fun hg hgo => ?_ | refine ek_ret ?_ | refine ek_norm ?_ | refine ⟨by omega, ?_⟩ | rfl | trivial | intro _
    refine rd_norm [(5, .own 1 (bools ((us.take (j + 1)).foldl (fun o u => o.set u.toNat true) o))), (7, .own 1 (ints us)), (8, iv (j + 1 : Nat))] (sub_of ?_) (m - 1) (by omega) ⟨j + 1, by omega, rfl⟩
    rw [hft]
    exact dn
   ·have hd : decide ((j : Int) < (us.length : Int)) = false := by rw [decide_eq_false_iff_not]; omega
    rw [List.take_of_length_le (by omega)]
    repeat' first | refine g1 @hd ?_ | refine d1 @hd ?_ | refine j1 @hd (fun hg hgo => ?_) fun hg hgo => ?_ | refine ek_ret ?_ | refine ek_norm ?_ | refine ⟨by omega, ?_⟩ | rfl | trivial | intro _
def orB (o s : List Bool) : List Bool := List.zipWith (fun a b => a || b) o s
def outB (t : TermD) (V : Nat) (ins : List (List Bool)) : List Bool := (succL t).foldl (fun o k => orB o ((ins[k.toNat]?).getD [])) (List.replicate V false)
abbrev insF (ins : List (List Bool)) : FV := .row 1 (ins.map setF)
structure InsOk (V n : Nat) (ins : List (List Bool)) : Prop where
 len : ins.length = n
 row : ∀ s ∈ ins, s.length = V
 small : V ≤ 1000 ∧ n ≤ 1000
theorem orB_len {o s : List Bool} (h : o.length = s.length) : (orB o s).length = o.length := by unfold orB; rw [List.length_zipWith, h]; simp
theorem fold_or_len {ins : List (List Bool)} {V : Nat} (hr : ∀ s ∈ ins, s.length = V) : ∀ (ks : List Int) (o : List Bool), o.length = V → (∀ k ∈ ks, 0 ≤ k ∧ k < ins.length) → (ks.foldl (fun o k => orB o ((ins[k.toNat]?).getD [])) o).length = V
 | [], o, ho, _ => ho
 | k :: ks, o, ho, hk => by
  rw [List.foldl_cons]
  have h1 := hk k (by simp)
  have h2 : k.toNat < ins.length := by omega
  refine fold_or_len hr ks _ ?_ (fun k hk2 => hk k (by simp [hk2]))
  rw [List.getElem?_eq_getElem h2, Option.getD_some, orB_len (by rw [ho, hr _ (List.getElem_mem h2)]), ho]
def orC (o s : List Bool) (v : Nat) : List Bool := (orB o s).take v ++ o.drop v
theorem orC_len {o s : List Bool} {v : Nat} (h : o.length = s.length) (hv : v ≤ o.length) : (orC o s v).length = o.length := by
 unfold orC; rw [List.length_append, List.length_take, List.length_drop, orB_len h]; omega
theorem orC_get {o s : List Bool} {v : Nat} (h : o.length = s.length) (hv : v < o.length) (hc : v < (orC o s v).length) : (orC o s v)[v] = o[v] := by
 have e : (orC o s v)[v]? = some o[v] := by
  unfold orC
  rw [List.getElem?_append_right (by rw [List.length_take, orB_len h]; omega)]
  simp only [List.length_take, orB_len h, Nat.min_eq_left (Nat.le_of_lt hv), Nat.sub_self]
  rw [List.getElem?_drop]; simp
 rw [List.getElem?_eq_getElem hc] at e
 injection e
theorem orC_set {o s : List Bool} {v : Nat} (h : o.length = s.length) (hv : v < o.length) (hs : v < s.length) : (orC o s v).set v (o[v] || s[v]) = orC o s (v + 1) := by
 unfold orC
 have hl : (orB o s).length = o.length := orB_len h
 rw [List.set_append_right _ _ (by rw [List.length_take, hl]; omega), List.length_take, hl, Nat.min_eq_left (Nat.le_of_lt hv), Nat.sub_self, List.drop_eq_getElem_cons hv, List.set_cons_zero, List.take_succ_eq_append_getElem (by rw [hl]; exact hv), List.append_assoc]
 congr 1
 unfold orB
 simp
theorem orC_0 {o s : List Bool} : orC o s 0 = o := by unfold orC; simp
theorem orC_n {o s : List Bool} {v : Nat} (h : o.length = s.length) (hv : o.length ≤ v) : orC o s v = orB o s := by
 unfold orC; rw [List.take_of_length_le (by rw [orB_len h]; exact hv), List.drop_eq_nil_of_le hv, List.append_nil]
theorem v_l11Out (f : FnD) (V b : Nat) (ins : List (List Bool)) (hV : f.values = (V : Int)) (hb : b < f.blocks.length) (hf : f.blocks.length ≤ 1000) (hi : InsOk V f.blocks.length ins) (hs : ∀ k ∈ succL f.blocks[b].term, 0 ≤ k ∧ k < f.blocks.length) : C2 CC F_spec_l11Out [.fv (fnF f), iv b, .fv (insF ins)] (.own 1 (bools (outB f.blocks[b].term V ins))) [] := by
 have h1 := v_l3Succs f b hb (by omega)
 obtain ⟨blocks, values⟩ := f
 simp only at hV hb hf hi hs h1
 subst hV
 obtain ⟨il, ir, iv1, in1⟩ := hi
 have hkl : (succL blocks[b].term).length ≤ 2 := by unfold succL; split; simp; split; split <;> simp; simp
 unfold outB
 generalize succL blocks[b].term = ks at h1 hs hkl
 have hmk : 0 ≤ (V : Int) ∧ (V : Int) < 4294967296 := ⟨by omega, by omega⟩
 refine cw (keepF Tryz.f105) Tryz.f105 false ?_
 repeat' first | refine ck_intro (by first | exact h1) ?_ ?_ | refine g1 @hmk ?_ | refine d1 @hmk ?_ | refine j1 @hmk (fun hg hgo => ?_) fun hg hgo => ?_ | refine ek_ret ?_ | refine ek_norm ?_ | refine ⟨by omega, ?_⟩ | rfl | trivial | intro _
 generalize hg0 : List.replicate V false = o0
 have hl0 : o0.length = V := by rw [← hg0]; simp
 refine pw_loop (fun m st => ∃ j : Nat, j + m = ks.length ∧ st = [(2, .fv (insF ins)), (3, .box (.fv (fnF ⟨blocks, V⟩))), (7, .own 1 (bools ((ks.take j).foldl (fun o k => orB o ((ins[k.toNat]?).getD [])) o0))), (8, .own 1 (ints ks)), (9, iv j)]) ks.length [(2, .fv (insF ins)), (3, .box (.fv (fnF ⟨blocks, V⟩))), (7, .own 1 (bools ((ks.take 0).foldl (fun o k => orB o ((ins[k.toNat]?).getD [])) o0))), (8, .own 1 (ints ks)), (9, iv (0 : Nat))] (sub_of ?_) ⟨0, by omega, rfl⟩ ?_
 ·rw [List.take_zero, List.foldl_nil]
  repeat' first | refine g2 @bools_rep @hg0 ?_ | refine d2 @bools_rep @hg0 ?_ | refine j2 @bools_rep @hg0 (fun hg hgo => ?_) fun hg hgo => ?_ | refine ek_ret ?_ | refine ek_norm ?_ | refine ⟨by omega, ?_⟩ | rfl | trivial | intro _
 ·rintro m st ⟨j, hj, rfl⟩
  by_cases hlt : j < ks.length
  ·have hd : decide ((j : Int) < (ks.length : Int)) = true := by rw [decide_eq_true_eq]; omega
   have hgi := ints_get hlt
   have hk := hs ks[j] (List.getElem_mem hlt)
   have hki : ks[j].toNat < ins.length := by omega
   have hft : (ks.take (j + 1)).foldl (fun o k => orB o ((ins[k.toNat]?).getD [])) o0 = orB ((ks.take j).foldl (fun o k => orB o ((ins[k.toNat]?).getD [])) o0) ins[ks[j].toNat] := by
    rw [List.take_succ_eq_append_getElem hlt, List.foldl_append, List.foldl_cons, List.foldl_nil, List.getElem?_eq_getElem hki, Option.getD_some]
   have hol := fold_or_len ir (ks.take j) o0 hl0 (fun k hk2 => by have := hs k (List.mem_of_mem_take hk2); omega)
   generalize (ks.take j).foldl (fun o k => orB o ((ins[k.toNat]?).getD [])) o0 = o at hft hol
   have hsl := ir _ (List.getElem_mem hki)
   generalize hsd : ins[ks[j].toNat] = s at hft hsl
   have hos : o.length = s.length := by omega
   repeat' first | refine g1 @hd ?_ | refine d1 @hd ?_ | refine j1 @hd (fun hg hgo => ?_) fun hg hgo => ?_ | refine ek_ret ?_ | refine ek_norm ?_ | refine ⟨by omega, ?_⟩ | rfl | trivial | intro _
   refine pw_loop (fun m st => ∃ v : Nat, v + m = V ∧ st = [(2, .fv (insF ins)), (3, .box (.fv (fnF ⟨blocks, V⟩))), (7, .own 1 (bools (orC o s v))), (8, .own 1 (ints ks)), (9, iv j), (10, iv v)]) V [(2, .fv (insF ins)), (3, .box (.fv (fnF ⟨blocks, V⟩))), (7, .own 1 (bools (orC o s 0))), (8, .own 1 (ints ks)), (9, iv j), (10, iv (0 : Nat))] (sub_of ?_) ⟨0, by omega, rfl⟩ ?_
   ·rw [orC_0]
    exact dn
   ·rintro m2 st ⟨v, hv, rfl⟩
    by_cases hlv : v < V
    ·have hdv : decide ((v : Int) < (V : Int)) = true := by rw [decide_eq_true_eq]; omega
     have hvo : v < o.length := by omega
     have hvs : v < s.length := by omega
     have hcl := orC_len hos (v := v) (by omega)
     have hcv : v < (orC o s v).length := by omega
     have hgq := bools_get hcv
     rw [orC_get hos hvo hcv] at hgq
     have hst := orC_set hos hvo hvs
     generalize orC o s v = q at hcl hcv hgq hst
     have hmi : ks[j].toNat < (ins.map setF).length := by rw [List.length_map]; exact hki
     have hms : v < (s.map FV.bool).length := by rw [List.length_map]; exact hvs
     have hkk : 0 ≤ ks[j] ∧ ks[j] < (ins.length : Int) := ⟨by omega, by omega⟩
     repeat' first | refine g6 @hdv @hgi @hgq @hkk @hsd @bools_set ?_ | refine d6 @hdv @hgi @hgq @hkk @hsd @bools_set ?_ | refine j6 @hdv @hgi @hgq @hkk @hsd @bools_set (fun hg hgo => ?_) fun hg hgo => ?_ | refine ek_ret ?_ | refine ek_norm ?_ | refine ⟨by omega, ?_⟩ | rfl | trivial | intro _
     ·have e : (o[v] || s[v]) = true := by rw [hgo]; rfl
      rw [e] at hst
      refine rd_norm [(2, .fv (insF ins)), (3, .box (.fv (fnF ⟨blocks, V⟩))), (7, .own 1 (bools (orC o s (v + 1)))), (8, .own 1 (ints ks)), (9, iv j), (10, iv (v + 1 : Nat))] (sub_of ?_) (m2 - 1) (by omega) ⟨v + 1, by omega, rfl⟩
      rw [← hst]
      exact dn
     ·have e : (o[v] || s[v]) = s[v] := by rw [hgo]; rfl
      rw [e] at hst
      refine rd_norm [(2, .fv (insF ins)), (3, .box (.fv (fnF ⟨blocks, V⟩))), (7, .own 1 (bools (orC o s (v + 1)))), (8, .own 1 (ints ks)), (9, iv j), (10, iv (v + 1 : Nat))] (sub_of ?_) (m2 - 1) (by omega) ⟨v + 1, by omega, rfl⟩
      rw [← hst]
      exact dn
    ·have hdv : decide ((v : Int) < (V : Int)) = false := by rw [decide_eq_false_iff_not]; omega
     rw [orC_n hos (by omega)]
     repeat' first | refine g1 @hdv ?_ | refine d1 @hdv ?_ | refine j1 @hdv (fun hg hgo => ?_) fun hg hgo => ?_ | refine ek_ret ?_ | refine ek_norm ?_ | refine ⟨by omega, ?_⟩ | rfl | trivial | intro _
     refine rd_norm [(2, .fv (insF ins)), (3, .box (.fv (fnF ⟨blocks, V⟩))), (7, .own 1 (bools ((ks.take (j + 1)).foldl (fun o k => orB o ((ins[k.toNat]?).getD [])) o0))), (8, .own 1 (ints ks)), (9, iv (j + 1 : Nat))] (sub_of ?_) (m - 1) (by omega) ⟨j + 1, by omega, rfl⟩
     rw [hft]
     exact dn
  ·have hd : decide ((j : Int) < (ks.length : Int)) = false := by rw [decide_eq_false_iff_not]; omega
   rw [List.take_of_length_le (by omega)]
   repeat' first | refine g1 @hd ?_ | refine d1 @hd ?_ | refine j1 @hd (fun hg hgo => ?_) fun hg hgo => ?_ | refine ek_ret ?_ | refine ek_norm ?_ | refine ⟨by omega, ?_⟩ | rfl | trivial | intro _
def endB (t : TermD) (V : Nat) (ins : List (List Bool)) : List Bool := (trmUses t).foldl (fun o u => o.set u.toNat true) (outB t V ins)
def beforeB (b : BlockD) (at_ V : Nat) (ins : List (List Bool)) : List Bool := (b.list.drop at_).foldr backB (endB b.term V ins)
structure BlkIn (b : BlockD) (V n : Nat) : Prop where
 succ : ∀ k ∈ succL b.term, 0 ≤ k ∧ k < n
 uses : ∀ u ∈ trmUses b.term, 0 ≤ u ∧ u < V
 list : ∀ x ∈ b.list, inU x V
 len : b.list.length ≤ 1000
theorem outB_len {t : TermD} {V n : Nat} {ins : List (List Bool)} (hi : InsOk V n ins) (hs : ∀ k ∈ succL t, 0 ≤ k ∧ k < n) : (outB t V ins).length = V := fold_or_len hi.row _ _ (by simp) (fun k hk => by have := hs k hk; have := hi.len; omega)
theorem endB_len {t : TermD} {V n : Nat} {ins : List (List Bool)} (hi : InsOk V n ins) (hs : ∀ k ∈ succL t, 0 ≤ k ∧ k < n) : (endB t V ins).length = V := by unfold endB; rw [foldset_len, outB_len hi hs]
theorem foldr_back_len : ∀ (l : List StepD) (o : List Bool), (l.foldr backB o).length = o.length
 | [], o => rfl
 | x :: l, o => by rw [List.foldr_cons, backB_len, foldr_back_len l o]
theorem v_l11End (f : FnD) (V b : Nat) (ins : List (List Bool)) (hV : f.values = (V : Int)) (hb : b < f.blocks.length) (hf : f.blocks.length ≤ 1000) (hi : InsOk V f.blocks.length ins) (hk : BlkIn f.blocks[b] V f.blocks.length) : C2 CC F_spec_l11End [.fv (fnF f), iv b, .fv (insF ins)] (.own 1 (bools (endB f.blocks[b].term V ins))) [] := by
 have h1 := v_l11Out f V b ins hV hb hf hi hk.succ
 have h2 := v_TermUses_spec f.blocks[b].term
 have hol := outB_len hi hk.succ
 obtain ⟨blocks, values⟩ := f
 simp only at hV hb hf hi hk h1 h2 hol
 subst hV
 have hml : b < (blocks.map blockF).length := by rw [List.length_map]; exact hb
 have hu := hk.uses
 have hul : (trmUses blocks[b].term).length ≤ 2 := by unfold trmUses; split <;> simp
 have hsm := hi.small
 unfold endB
 generalize trmUses blocks[b].term = us at h2 hu hul
 generalize outB blocks[b].term V ins = o at h1 hol
 refine cw (keepF Tryz.f95) Tryz.f95 false ?_
 repeat' first | refine ck_intro (by first | exact h1 | exact h2) ?_ ?_ | refine g0 ?_ | refine d0 ?_ | refine j0 (fun hg hgo => ?_) fun hg hgo => ?_ | refine ek_ret ?_ | refine ek_norm ?_ | refine ⟨by omega, ?_⟩ | rfl | trivial | intro _
 refine pw_loop (fun m st => ∃ j : Nat, j + m = us.length ∧ st = [(7, .own 1 (bools ((us.take j).foldl (fun o u => o.set u.toNat true) o))), (8, .own 1 (ints us)), (9, iv j)]) us.length [(7, .own 1 (bools ((us.take 0).foldl (fun o u => o.set u.toNat true) o))), (8, .own 1 (ints us)), (9, iv (0 : Nat))] (sub_of ?_) ⟨0, by omega, rfl⟩ ?_
 ·rw [List.take_zero, List.foldl_nil]
  exact dn
 ·rintro m st ⟨j, hj, rfl⟩
  by_cases hlt : j < us.length
  ·have hd : decide ((j : Int) < (us.length : Int)) = true := by rw [decide_eq_true_eq]; omega
   have hgi := ints_get hlt
   have hul2 := hu us[j] (List.getElem_mem hlt)
   have hrow : ((us.take j).foldl (fun o u => o.set u.toNat true) o).length = V := by rw [foldset_len, hol]
   have hft := fold_take (o := o) hlt
   generalize (us.take j).foldl (fun o u => o.set u.toNat true) o = q at hrow hft
   have hltq : us[j].toNat < q.length := by omega
   have hgq := bools_get hltq
   have hb2 : 0 ≤ us[j] ∧ us[j] < (q.length : Int) := ⟨by omega, by omega⟩
   repeat' first | refine g5 @hd @hgi @hgq @hb2 @bools_set ?_ | refine d5 @hd @hgi @hgq @hb2 @bools_set ?_ | refine j5 @hd @hgi @hgq @hb2 @bools_set (fun hg hgo => ?_) fun hg hgo => ?_ | refine ek_ret ?_ | refine ek_norm ?_ | refine ⟨by omega, ?_⟩ | rfl | trivial | intro _
   refine rd_norm [(7, .own 1 (bools ((us.take (j + 1)).foldl (fun o u => o.set u.toNat true) o))), (8, .own 1 (ints us)), (9, iv (j + 1 : Nat))] (sub_of ?_) (m - 1) (by omega) ⟨j + 1, by omega, rfl⟩
   rw [hft]
   exact dn
  ·have hd : decide ((j : Int) < (us.length : Int)) = false := by rw [decide_eq_false_iff_not]; omega
   rw [List.take_of_length_le (by omega)]
   repeat' first | refine g1 @hd ?_ | refine d1 @hd ?_ | refine j1 @hd (fun hg hgo => ?_) fun hg hgo => ?_ | refine ek_ret ?_ | refine ek_norm ?_ | refine ⟨by omega, ?_⟩ | rfl | trivial | intro _
theorem v_l11Before (f : FnD) (V b at_ : Nat) (ins : List (List Bool)) (hV : f.values = (V : Int)) (hb : b < f.blocks.length) (hf : f.blocks.length ≤ 1000) (hi : InsOk V f.blocks.length ins) (hk : BlkIn f.blocks[b] V f.blocks.length) (ha : at_ ≤ f.blocks[b].list.length) : C2 CC F_spec_l11Before [.fv (fnF f), iv b, iv at_, .fv (insF ins)] (.own 1 (bools (beforeB f.blocks[b] at_ V ins))) [] := by
 have h1 := v_l11End f V b ins hV hb hf hi hk
 have hel := endB_len hi hk.succ
 obtain ⟨blocks, values⟩ := f
 simp only at hV hb hf hi hk h1 hel ha
 subst hV
 have hml : b < (blocks.map blockF).length := by rw [List.length_map]; exact hb
 have hsm := hi.small
 have hln := hk.len
 unfold beforeB
 generalize endB blocks[b].term V ins = e at h1 hel
 refine cw (keepF Tryz.f73) Tryz.f73 false ?_
 repeat' first | refine ck_intro (by first | exact h1) ?_ ?_ | refine g0 ?_ | refine d0 ?_ | refine j0 (fun hg hgo => ?_) fun hg hgo => ?_ | refine ek_ret ?_ | refine ek_norm ?_ | refine ⟨by omega, ?_⟩ | rfl | trivial | intro _
 refine pw_loop (fun m st => at_ + m ≤ blocks[b].list.length ∧ st = [(1, iv b), (2, iv at_), (4, .box (.fv (fnF ⟨blocks, V⟩))), (9, .own 1 (bools ((blocks[b].list.drop (at_ + m)).foldr backB e))), (10, iv ((at_ : Int) + (m : Int) - 1))]) (blocks[b].list.length - at_) [(1, iv b), (2, iv at_), (4, .box (.fv (fnF ⟨blocks, V⟩))), (9, .own 1 (bools ((blocks[b].list.drop (at_ + (blocks[b].list.length - at_))).foldr backB e))), (10, iv ((at_ : Int) + ((blocks[b].list.length - at_ : Nat) : Int) - 1))] (sub_of ?_) ⟨by omega, rfl⟩ ?_
 ·rw [show at_ + (blocks[b].list.length - at_) = blocks[b].list.length by omega, List.drop_length, List.foldr_nil, show (at_ : Int) + ((blocks[b].list.length - at_ : Nat) : Int) - 1 = (blocks[b].list.length : Int) - 1 by omega]
  exact dn
 ·rintro m st ⟨hm, rfl⟩
  cases m with
  | succ m =>
   have hd : decide ((at_ : Int) + ((m + 1 : Nat) : Int) - 1 ≥ (at_ : Int)) = true := by rw [decide_eq_true_eq]; omega
   have hlt : at_ + m < blocks[b].list.length := by omega
   have hidx : (at_ : Int) + ((m + 1 : Nat) : Int) - 1 = ((at_ + m : Nat) : Int) := by omega
   have hms : at_ + m < (blocks[b].list.map stF).length := by rw [List.length_map]; exact hlt
   have hq : ((blocks[b].list.drop (at_ + (m + 1))).foldr backB e).length = V := by rw [foldr_back_len, hel]
   have hbk := v_l11Back blocks[b].list[at_ + m] ((blocks[b].list.drop (at_ + (m + 1))).foldr backB e) (by rw [hq]; exact hk.list _ (List.getElem_mem hlt)) (by omega)
   have hdr : (blocks[b].list.drop (at_ + m)).foldr backB e = backB blocks[b].list[at_ + m] ((blocks[b].list.drop (at_ + (m + 1))).foldr backB e) := by
    rw [List.drop_eq_getElem_cons hlt, List.foldr_cons]; rfl
   generalize (blocks[b].list.drop (at_ + (m + 1))).foldr backB e = q at hq hbk hdr
   rw [hidx] at hd ⊢
   have hge : decide (((at_ + m : Nat) : Int) ≥ (at_ : Int)) = true := by rw [decide_eq_true_eq]; omega
   repeat' first | refine ck_intro (by first | exact hbk) ?_ ?_ | refine g1 @hge ?_ | refine d1 @hge ?_ | refine j1 @hge (fun hg hgo => ?_) fun hg hgo => ?_ | refine ek_ret ?_ | refine ek_norm ?_ | refine ⟨by omega, ?_⟩ | rfl | trivial | intro _
   refine rd_norm [(1, iv b), (2, iv at_), (4, .box (.fv (fnF ⟨blocks, V⟩))), (9, .own 1 (bools ((blocks[b].list.drop (at_ + m)).foldr backB e))), (10, iv ((at_ : Int) + (m : Int) - 1))] (sub_of ?_) m (by omega) ⟨by omega, rfl⟩
   rw [hdr, show (at_ : Int) + (m : Int) - 1 = ((at_ + m : Nat) : Int) - 1 by omega]
   exact dn
  | zero =>
   have hd : decide ((at_ : Int) + 0 - 1 ≥ (at_ : Int)) = false := by rw [decide_eq_false_iff_not]; omega
   repeat' first | refine g1 @hd ?_ | refine d1 @hd ?_ | refine j1 @hd (fun hg hgo => ?_) fun hg hgo => ?_ | refine ek_ret ?_ | refine ek_norm ?_ | refine ⟨by omega, ?_⟩ | rfl | trivial | intro _
end Go.Proofs.YtonpnjfclelpiaaGreatM
