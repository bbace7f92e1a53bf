import Derived.Test.YtbgaljpilmmefaaV1V
import Derived.Test.YtbgaljpilmmefaaV1Mvm
/- How functions take what they are given: 0: frozen; 1: lent; 2: to be turned. -/
namespace Go.Proofs.YtbgaljpilmmefaaM
open Go
set_option linter.unusedVariables false
set_option linter.unusedSimpArgs false
set_option maxRecDepth 100000
set_option maxHeartbeats 4000000
attribute [local irreducible] PW CK EK C2 rdK thK blK FK SK LK AK GK CD unK TT keK
def MU : FuncId → Nat → Nat := fun f i =>
  if f = 28 then 1 else if f = 36 then 1 else if f = 35 then (if i = 0 then 2 else 0) else if f = 82 then (if i = 0 then 2 else 0) else 0
@[go_sem] theorem MU_def {f : FuncId} {i : Nat} : MU f i = if f = 28 then 1 else if f = 36 then 1 else if f = 35 then (if i = 0 then 2 else 0) else if f = 82 then (if i = 0 then 2 else 0) else 0 := nr rfl
theorem beqD {a b : Int} : (a == b) = decide (a = b) := by rw [Bool.eq_iff_iff]; simp
abbrev iv (n : Int) : DV := .fv (.int .i64 n)
abbrev bv (b : Bool) : DV := .fv (.bool b)
def I64 (n : Int) : Prop := -9223372036854775808 ≤ n ∧ n ≤ 9223372036854775807
end Go.Proofs.YtbgaljpilmmefaaM

/- Small words, by value. -/
namespace Go.Proofs.YtbgaljpilmmefaaM
open Go
set_option linter.unusedVariables false
set_option linter.unusedSimpArgs false
set_option maxRecDepth 100000
set_option maxHeartbeats 4000000
attribute [local irreducible] PW CK EK C2 rdK thK blK FK SK LK AK GK CD unK TT keK
theorem v_in (n lo hi : Int) : C2 CC F_impl_in [iv n, iv lo, iv hi] (bv (decide (n ≥ lo) && decide (n ≤ hi))) [] := by
  refine c2_fn (MU := MU) (fn := Try.f67) (p := (prep (Try.f67.body.getD .skip)).getD .skip) (keepF Try.f67) false rfl rfl rfl (Nat.le_of_ble_eq_true rfl) (Nat.le_of_ble_eq_true rfl) rfl ?_
  conv => arg 5; cbv
  conv => arg 6; cbv
  conv => arg 8; arg 3; cbv
  repeat' first
     | (simp (maxSteps := 1000000) only [go_sem, Int.cast_ofNat_Int, Int.reduceLT, Int.reduceLE, Int.reduceGT, Int.reduceGE, Int.reduceEq, Int.reduceBEq, Int.reduceAdd, Int.reduceSub, Int.reduceToNat, Nat.reduceShiftRight, Nat.reduceMod, Nat.reduceLT, Nat.reduceEqDiff, Nat.reduceAdd, Nat.reduceMul, Nat.reduceLeDiff, Nat.reduceBEq, reduceIte])
     | (simp (disch := first | omega | assumption) only [wrapI, ia3_hdrN, ia3_rowN, ia3_hdrI, ia3_rowI, List.getElem?_eq_getElem, List.length_map, List.length_cons, List.length_nil])
     | (refine tt_i (fun hg => ?_) (fun hg => ?_) <;> (replace hg := tb_eq hg; (try simp only [hg]); (first | simp only [eq_true (beq_iff_eq.1 hg)] | simp only [eq_false (beq_eq_false_iff_ne.1 hg)] | simp only [eq_true (of_decide_eq_true hg)] | simp only [eq_false (of_decide_eq_false hg)] | skip); have hgo := hg; try simp only [Bool.and_eq_true, Bool.or_eq_false_iff, Bool.or_eq_true, Bool.and_eq_false_iff, Bool.not_eq_true', Bool.not_eq_false', decide_eq_true_eq, decide_eq_false_iff_not, beqT, beqF, bneT, bneF] at hgo))
     | refine ek_ret ?_
     | refine ek_norm ?_
     | (refine ⟨by omega, ?_⟩)
     | rfl
  all_goals simp_all
theorem v_l1In (n lo hi : Int) : C2 CC F_spec_l1In [iv n, iv lo, iv hi] (bv (decide (n ≥ lo) && decide (n ≤ hi))) [] := by
  refine c2_fn (MU := MU) (fn := Try.f62) (p := (prep (Try.f62.body.getD .skip)).getD .skip) (keepF Try.f62) false rfl rfl rfl (Nat.le_of_ble_eq_true rfl) (Nat.le_of_ble_eq_true rfl) rfl ?_
  conv => arg 5; cbv
  conv => arg 6; cbv
  conv => arg 8; arg 3; cbv
  repeat' first
     | (simp (maxSteps := 1000000) only [go_sem, Int.cast_ofNat_Int, Int.reduceLT, Int.reduceLE, Int.reduceGT, Int.reduceGE, Int.reduceEq, Int.reduceBEq, Int.reduceAdd, Int.reduceSub, Int.reduceToNat, Nat.reduceShiftRight, Nat.reduceMod, Nat.reduceLT, Nat.reduceEqDiff, Nat.reduceAdd, Nat.reduceMul, Nat.reduceLeDiff, Nat.reduceBEq, reduceIte])
     | (simp (disch := first | omega | assumption) only [wrapI, ia3_hdrN, ia3_rowN, ia3_hdrI, ia3_rowI, List.getElem?_eq_getElem, List.length_map, List.length_cons, List.length_nil])
     | (refine tt_i (fun hg => ?_) (fun hg => ?_) <;> (replace hg := tb_eq hg; (try simp only [hg]); (first | simp only [eq_true (beq_iff_eq.1 hg)] | simp only [eq_false (beq_eq_false_iff_ne.1 hg)] | simp only [eq_true (of_decide_eq_true hg)] | simp only [eq_false (of_decide_eq_false hg)] | skip); have hgo := hg; try simp only [Bool.and_eq_true, Bool.or_eq_false_iff, Bool.or_eq_true, Bool.and_eq_false_iff, Bool.not_eq_true', Bool.not_eq_false', decide_eq_true_eq, decide_eq_false_iff_not, beqT, beqF, bneT, bneF] at hgo))
     | refine ek_ret ?_
     | refine ek_norm ?_
     | (refine ⟨by omega, ?_⟩)
     | rfl
  all_goals simp_all
def wok (op : Int) : Bool := decide (op ≥ 1) && decide (op ≤ 10)
theorem v_WordOk (op : Int) : C2 CC F_impl_WordOk [iv op] (bv (wok op)) [] := by
  refine c2_fn (MU := MU) (fn := Try.f113) (p := (prep (Try.f113.body.getD .skip)).getD .skip) (keepF Try.f113) false rfl rfl rfl (Nat.le_of_ble_eq_true rfl) (Nat.le_of_ble_eq_true rfl) rfl ?_
  conv => arg 5; cbv
  conv => arg 6; cbv
  conv => arg 8; arg 3; cbv
  repeat' first
     | (refine ck_intro (by first | exact v_in _ _ _) ?_ ?_)
     | (simp (maxSteps := 1000000) only [go_sem, Int.cast_ofNat_Int, Int.reduceLT, Int.reduceLE, Int.reduceGT, Int.reduceGE, Int.reduceEq, Int.reduceBEq, Int.reduceAdd, Int.reduceSub, Int.reduceToNat, Nat.reduceShiftRight, Nat.reduceMod, Nat.reduceLT, Nat.reduceEqDiff, Nat.reduceAdd, Nat.reduceMul, Nat.reduceLeDiff, Nat.reduceBEq, reduceIte])
     | (simp (disch := first | omega | assumption) only [wrapI, ia3_hdrN, ia3_rowN, ia3_hdrI, ia3_rowI, List.getElem?_eq_getElem, List.length_map, List.length_cons, List.length_nil])
     | (refine tt_i (fun hg => ?_) (fun hg => ?_) <;> (replace hg := tb_eq hg; (try simp only [hg]); (first | simp only [eq_true (beq_iff_eq.1 hg)] | simp only [eq_false (beq_eq_false_iff_ne.1 hg)] | simp only [eq_true (of_decide_eq_true hg)] | simp only [eq_false (of_decide_eq_false hg)] | skip); have hgo := hg; try simp only [Bool.and_eq_true, Bool.or_eq_false_iff, Bool.or_eq_true, Bool.and_eq_false_iff, Bool.not_eq_true', Bool.not_eq_false', decide_eq_true_eq, decide_eq_false_iff_not, beqT, beqF, bneT, bneF] at hgo))
     | refine ek_ret ?_
     | refine ek_norm ?_
     | (refine ⟨by omega, ?_⟩)
     | rfl
theorem s_WordOk (op : Int) : C2 CC F_spec_WordOk [iv op] (bv (wok op)) [] := by
  refine c2_fn (MU := MU) (fn := Try.f63) (p := (prep (Try.f63.body.getD .skip)).getD .skip) (keepF Try.f63) false rfl rfl rfl (Nat.le_of_ble_eq_true rfl) (Nat.le_of_ble_eq_true rfl) rfl ?_
  conv => arg 5; cbv
  conv => arg 6; cbv
  conv => arg 8; arg 3; cbv
  repeat' first
     | (refine ck_intro (by first | exact v_l1In _ _ _) ?_ ?_)
     | (simp (maxSteps := 1000000) only [go_sem, Int.cast_ofNat_Int, Int.reduceLT, Int.reduceLE, Int.reduceGT, Int.reduceGE, Int.reduceEq, Int.reduceBEq, Int.reduceAdd, Int.reduceSub, Int.reduceToNat, Nat.reduceShiftRight, Nat.reduceMod, Nat.reduceLT, Nat.reduceEqDiff, Nat.reduceAdd, Nat.reduceMul, Nat.reduceLeDiff, Nat.reduceBEq, reduceIte])
     | (simp (disch := first | omega | assumption) only [wrapI, ia3_hdrN, ia3_rowN, ia3_hdrI, ia3_rowI, List.getElem?_eq_getElem, List.length_map, List.length_cons, List.length_nil])
     | (refine tt_i (fun hg => ?_) (fun hg => ?_) <;> (replace hg := tb_eq hg; (try simp only [hg]); (first | simp only [eq_true (beq_iff_eq.1 hg)] | simp only [eq_false (beq_eq_false_iff_ne.1 hg)] | simp only [eq_true (of_decide_eq_true hg)] | simp only [eq_false (of_decide_eq_false hg)] | skip); have hgo := hg; try simp only [Bool.and_eq_true, Bool.or_eq_false_iff, Bool.or_eq_true, Bool.and_eq_false_iff, Bool.not_eq_true', Bool.not_eq_false', decide_eq_true_eq, decide_eq_false_iff_not, beqT, beqF, bneT, bneF] at hgo))
     | refine ek_ret ?_
     | refine ek_norm ?_
     | (refine ⟨by omega, ?_⟩)
     | rfl
end Go.Proofs.YtbgaljpilmmefaaM

/- What a byte's place is in a row of bytes. -/
namespace Go.Proofs.YtbgaljpilmmefaaM
open Go
set_option linter.unusedVariables false
set_option linter.unusedSimpArgs false
set_option maxRecDepth 100000
set_option maxHeartbeats 4000000
attribute [local irreducible] PW CK EK C2 rdK thK blK FK SK LK AK GK CD unK TT keK
def rb (l : List Int) : FV := .row 1 (l.map (.int .u8))
def idxI (c : Int) : List Int → Int → Int
  | [], _ => -1
  | x :: l, j => if c = x then j else idxI c l (j + 1)
theorem idx_at (c : Int) : ∀ (l : List Int) (j : Nat) (k : Int), (∀ i (h : i < l.length), i < j → c ≠ l[i]) → idxI c l k = idxI c (l.drop j) (k + j)
  | l, 0, k, _ => by simp
  | [], j + 1, k, _ => by simp [idxI]
  | x :: l, j + 1, k, h => by
    have h0 := h 0 (by simp) (by omega)
    simp only [List.getElem_cons_zero] at h0
    rw [List.drop_succ_cons, idxI, if_neg h0, idx_at c l j (k + 1) (fun i hi hij => by have := h (i + 1) (by simpa using hi) (by omega); simpa using this)]
    congr 1; omega
theorem v_Index_byte (l : List Int) (c : Int) (hl : l.length < 4611686018427387904) : C2 CC F_slices_Index_byte [.fv (rb l), .fv (.int .u8 c)] (iv (idxI c l 0)) [] := by
  unfold rb
  refine c2_fn (MU := MU) (fn := Try.f114) (p := (prep (Try.f114.body.getD .skip)).getD .skip) (keepF Try.f114) false rfl rfl rfl (Nat.le_of_ble_eq_true rfl) (Nat.le_of_ble_eq_true rfl) rfl ?_
  conv => arg 5; cbv
  conv => arg 6; cbv
  conv => arg 8; arg 3; cbv
  repeat' first
     | (simp (maxSteps := 1000000) only [go_sem, Int.cast_ofNat_Int, Int.reduceLT, Int.reduceLE, Int.reduceGT, Int.reduceGE, Int.reduceEq, Int.reduceBEq, Int.reduceAdd, Int.reduceSub, Int.reduceToNat, Nat.reduceShiftRight, Nat.reduceMod, Nat.reduceLT, Nat.reduceEqDiff, Nat.reduceAdd, Nat.reduceMul, Nat.reduceLeDiff, Nat.reduceBEq, reduceIte])
     | (simp (disch := first | omega | assumption) only [wrapI, ia3_hdrN, ia3_rowN, ia3_hdrI, ia3_rowI, List.getElem?_eq_getElem, List.length_map, List.length_cons, List.length_nil])
     | (refine tt_i (fun hg => ?_) (fun hg => ?_) <;> (replace hg := tb_eq hg; (try simp only [hg]); (first | simp only [eq_true (beq_iff_eq.1 hg)] | simp only [eq_false (beq_eq_false_iff_ne.1 hg)] | simp only [eq_true (of_decide_eq_true hg)] | simp only [eq_false (of_decide_eq_false hg)] | skip); have hgo := hg; try simp only [Bool.and_eq_true, Bool.or_eq_false_iff, Bool.or_eq_true, Bool.and_eq_false_iff, Bool.not_eq_true', Bool.not_eq_false', decide_eq_true_eq, decide_eq_false_iff_not, beqT, beqF, bneT, bneF] at hgo))
     | refine ek_ret ?_
     | refine ek_norm ?_
     | (refine ⟨by omega, ?_⟩)
     | rfl
  refine pw_loop (fun m st => ∃ j : Nat, j + m = l.length ∧ (∀ i (h : i < l.length), i < j → c ≠ l[i]) ∧ st = [(0, .fv (rb l)), (1, .fv (.int .u8 c)), (7, iv l.length), (8, iv j)]) l.length [(0, .fv (rb l)), (1, .fv (.int .u8 c)), (7, iv l.length), (8, iv (0 : Nat))] (sub_of ?_) ⟨0, by omega, fun i _ hi => by omega, rfl⟩ ?_
  · unfold rb
    repeat' first
       | (simp (maxSteps := 1000000) only [go_sem, Int.cast_ofNat_Int, Int.reduceLT, Int.reduceLE, Int.reduceGT, Int.reduceGE, Int.reduceEq, Int.reduceBEq, Int.reduceAdd, Int.reduceSub, Int.reduceToNat, Nat.reduceShiftRight, Nat.reduceMod, Nat.reduceLT, Nat.reduceEqDiff, Nat.reduceAdd, Nat.reduceMul, Nat.reduceLeDiff, Nat.reduceBEq, reduceIte])
       | (simp (disch := first | omega | assumption) only [wrapI, ia3_hdrN, ia3_rowN, ia3_hdrI, ia3_rowI, List.getElem?_eq_getElem, List.length_map, List.length_cons, List.length_nil])
       | (refine tt_i (fun hg => ?_) (fun hg => ?_) <;> (replace hg := tb_eq hg; (try simp only [hg]); (first | simp only [eq_true (beq_iff_eq.1 hg)] | simp only [eq_false (beq_eq_false_iff_ne.1 hg)] | simp only [eq_true (of_decide_eq_true hg)] | simp only [eq_false (of_decide_eq_false hg)] | skip); have hgo := hg; try simp only [Bool.and_eq_true, Bool.or_eq_false_iff, Bool.or_eq_true, Bool.and_eq_false_iff, Bool.not_eq_true', Bool.not_eq_false', decide_eq_true_eq, decide_eq_false_iff_not, beqT, beqF, bneT, bneF] at hgo))
       | refine ek_ret ?_
       | refine ek_norm ?_
       | (refine ⟨by omega, ?_⟩)
       | rfl
  · rintro m st ⟨j, hj, hb, rfl⟩
    unfold rb
    have hidx := idx_at c l j 0 hb
    by_cases hlt : j < l.length
    · have hd : decide ((j : Int) < (l.length : Int)) = true := by rw [decide_eq_true_eq]; omega
      have hml : j < (l.map (FV.int .u8)).length := by rw [List.length_map]; exact hlt
      have hidx2 : idxI c l 0 = if c = l[j] then (j : Int) else idxI c (l.drop (j + 1)) (j + 1) := by
        rw [hidx, List.drop_eq_getElem_cons hlt, idxI]; simp
      repeat' first
         | (simp (maxSteps := 1000000) only [go_sem, Int.cast_ofNat_Int, Int.reduceLT, Int.reduceLE, Int.reduceGT, Int.reduceGE, Int.reduceEq, Int.reduceBEq, Int.reduceAdd, Int.reduceSub, Int.reduceToNat, Nat.reduceShiftRight, Nat.reduceMod, Nat.reduceLT, Nat.reduceEqDiff, Nat.reduceAdd, Nat.reduceMul, Nat.reduceLeDiff, Nat.reduceBEq, reduceIte, hd, List.getElem_map])
         | (simp (disch := first | omega | assumption) only [wrapI, ia3_hdrN, ia3_rowN, ia3_hdrI, ia3_rowI, List.getElem?_eq_getElem, List.length_map, List.length_cons, List.length_nil, hd, List.getElem_map])
         | (refine tt_i (fun hg => ?_) (fun hg => ?_) <;> (replace hg := tb_eq hg; (try simp only [hg]); (first | simp only [eq_true (beq_iff_eq.1 hg)] | simp only [eq_false (beq_eq_false_iff_ne.1 hg)] | simp only [eq_true (of_decide_eq_true hg)] | simp only [eq_false (of_decide_eq_false hg)] | skip); have hgo := hg; try simp only [Bool.and_eq_true, Bool.or_eq_false_iff, Bool.or_eq_true, Bool.and_eq_false_iff, Bool.not_eq_true', Bool.not_eq_false', decide_eq_true_eq, decide_eq_false_iff_not, beqT, beqF, bneT, bneF] at hgo))
         | refine ek_ret ?_
         | refine ek_norm ?_
         | (refine ⟨by omega, ?_⟩)
         | rfl
      · rw [hidx2, if_pos (by simpa using hg)]
      · have hne : c ≠ l[j] := by simpa using hg
        refine rd_norm [(0, .fv (rb l)), (1, .fv (.int .u8 c)), (7, iv l.length), (8, iv (j + 1 : Nat))] (sub_of ?_) (m - 1) (by omega) ⟨j + 1, by omega, fun i hi h1 => ?_, rfl⟩
        · unfold rb
          repeat' first
             | (simp (maxSteps := 1000000) only [go_sem, Int.cast_ofNat_Int, Int.reduceLT, Int.reduceLE, Int.reduceGT, Int.reduceGE, Int.reduceEq, Int.reduceBEq, Int.reduceAdd, Int.reduceSub, Int.reduceToNat, Nat.reduceShiftRight, Nat.reduceMod, Nat.reduceLT, Nat.reduceEqDiff, Nat.reduceAdd, Nat.reduceMul, Nat.reduceLeDiff, Nat.reduceBEq, reduceIte])
             | (simp (disch := first | omega | assumption) only [wrapI, ia3_hdrN, ia3_rowN, ia3_hdrI, ia3_rowI, List.getElem?_eq_getElem, List.length_map, List.length_cons, List.length_nil])
             | (refine tt_i (fun hg => ?_) (fun hg => ?_) <;> (replace hg := tb_eq hg; (try simp only [hg]); (first | simp only [eq_true (beq_iff_eq.1 hg)] | simp only [eq_false (beq_eq_false_iff_ne.1 hg)] | simp only [eq_true (of_decide_eq_true hg)] | simp only [eq_false (of_decide_eq_false hg)] | skip); have hgo := hg; try simp only [Bool.and_eq_true, Bool.or_eq_false_iff, Bool.or_eq_true, Bool.and_eq_false_iff, Bool.not_eq_true', Bool.not_eq_false', decide_eq_true_eq, decide_eq_false_iff_not, beqT, beqF, bneT, bneF] at hgo))
             | refine ek_ret ?_
             | refine ek_norm ?_
             | (refine ⟨by omega, ?_⟩)
             | rfl
        · by_cases h2 : i = j
          · subst h2; exact hne
          · exact hb i hi (by omega)
    · have hd : decide ((j : Int) < (l.length : Int)) = false := by rw [decide_eq_false_iff_not]; omega
      have hidx2 : idxI c l 0 = -1 := by
        rw [hidx, List.drop_eq_nil_of_le (by omega)]; rfl
      repeat' first
         | (simp (maxSteps := 1000000) only [go_sem, Int.cast_ofNat_Int, Int.reduceLT, Int.reduceLE, Int.reduceGT, Int.reduceGE, Int.reduceEq, Int.reduceBEq, Int.reduceAdd, Int.reduceSub, Int.reduceToNat, Nat.reduceShiftRight, Nat.reduceMod, Nat.reduceLT, Nat.reduceEqDiff, Nat.reduceAdd, Nat.reduceMul, Nat.reduceLeDiff, Nat.reduceBEq, reduceIte, hd, hidx2])
         | (simp (disch := first | omega | assumption) only [wrapI, ia3_hdrN, ia3_rowN, ia3_hdrI, ia3_rowI, List.getElem?_eq_getElem, List.length_map, List.length_cons, List.length_nil, hd, hidx2])
         | (refine tt_i (fun hg => ?_) (fun hg => ?_) <;> (replace hg := tb_eq hg; (try simp only [hg]); (first | simp only [eq_true (beq_iff_eq.1 hg)] | simp only [eq_false (beq_eq_false_iff_ne.1 hg)] | simp only [eq_true (of_decide_eq_true hg)] | simp only [eq_false (of_decide_eq_false hg)] | skip); have hgo := hg; try simp only [Bool.and_eq_true, Bool.or_eq_false_iff, Bool.or_eq_true, Bool.and_eq_false_iff, Bool.not_eq_true', Bool.not_eq_false', decide_eq_true_eq, decide_eq_false_iff_not, beqT, beqF, bneT, bneF] at hgo))
         | refine ek_ret ?_
         | refine ek_norm ?_
         | (refine ⟨by omega, ?_⟩)
         | rfl
end Go.Proofs.YtbgaljpilmmefaaM

/- What a place of a list has. -/
namespace Go.Proofs.YtbgaljpilmmefaaM
open Go
set_option linter.unusedVariables false
set_option linter.unusedSimpArgs false
set_option maxRecDepth 100000
set_option maxHeartbeats 4000000
attribute [local irreducible] PW CK EK C2 rdK thK blK FK SK LK AK GK CD unK TT keK
def byI (b : ByteArray) : List Int := b.data.toList.map fun x => (x.toNat : Int)
theorem byI_len (b : ByteArray) : (byI b).length = b.size := by unfold byI; rw [List.length_map]; rfl
theorem bytesF_eq (b : ByteArray) : bytesF b = (byI b).map fun n => .fv (.int .u8 n) := by
  unfold bytesF byI; rw [List.map_map]; rfl
theorem cb2_str {st : St} {r t u e a1 a2 a3 a4 : Nat} {z1 z2 z3 : List Value} {b : ByteArray} (h1 : Γ t = some ⟨.str, a1, a2, z1⟩) (h2 : Γ u = some ⟨.slice e, a3, a4, z2⟩) (h3 : Γ e = some ⟨.int .u8, 1, 1, z3⟩) :
    cvA Γ st r t u (.fv (.str b)) (cv2 Γ t u (.fv (.str b))) = some ((r, .own 1 ((byI b).map fun n => .fv (.int .u8 n))) :: klS atL (clr r st)) := by
  unfold cv2 cvA cb2; rw [h1, h2]; simp only [h3]; rw [bytesF_eq]
@[go_sem] theorem cv_9_28v {st : St} {r : Nat} {b : ByteArray} : cvA Γ st r 9 28 (.fv (.str b)) (cv2 Γ 9 28 (.fv (.str b))) = some ((r, .own 1 ((byI b).map fun n => .fv (.int .u8 n))) :: klS atL (clr r st)) := cb2_str vg_9 vg_28 vg_5

def formB (op : Int) : ByteArray := if op = 20 then ⟨#[68, 78]⟩ else if op = 21 then ⟨#[68, 65]⟩ else if op = 25 then ⟨#[68, 65]⟩ else if op = 22 then ⟨#[65, 66]⟩ else if op = 23 then ⟨#[65]⟩ else if op = 24 then ⟨#[68]⟩ else ⟨#[68, 65, 66]⟩
def formK (op : Int) : Bool := if op = 20 then true else if op = 21 then true else if op = 25 then true else if op = 22 then true else if op = 23 then true else if op = 24 then true else wok op
theorem formB_len (op : Int) : (byI (formB op)).length < 4611686018427387904 := by
  rw [byI_len]; unfold formB; repeat' split
  all_goals decide
theorem v_formOf (op : Int) : C2 CC F_impl_formOf [iv op] (.tup [.fv (.str (formB op)), bv (formK op)]) [] := by
  refine c2_fn (MU := MU) (fn := Try.f116) (p := (prep (Try.f116.body.getD .skip)).getD .skip) (keepF Try.f116) false rfl rfl rfl (Nat.le_of_ble_eq_true rfl) (Nat.le_of_ble_eq_true rfl) rfl ?_
  conv => arg 5; cbv
  conv => arg 6; cbv
  conv => arg 8; arg 3; cbv
  repeat' first
     | (refine ck_intro (by first | exact v_WordOk _) ?_ ?_)
     | (simp (maxSteps := 1000000) only [go_sem, Int.cast_ofNat_Int, Int.reduceLT, Int.reduceLE, Int.reduceGT, Int.reduceGE, Int.reduceEq, Int.reduceBEq, Int.reduceAdd, Int.reduceSub, Int.reduceToNat, Nat.reduceShiftRight, Nat.reduceMod, Nat.reduceLT, Nat.reduceEqDiff, Nat.reduceAdd, Nat.reduceMul, Nat.reduceLeDiff, Nat.reduceBEq, reduceIte])
     | (simp (disch := first | omega | assumption) only [wrapI, ia3_hdrN, ia3_rowN, ia3_hdrI, ia3_rowI, List.getElem?_eq_getElem, List.length_map, List.length_cons, List.length_nil])
     | (refine tt_i (fun hg => ?_) (fun hg => ?_) <;> (replace hg := tb_eq hg; (try simp only [hg]); (first | simp only [eq_true (beq_iff_eq.1 hg)] | simp only [eq_false (beq_eq_false_iff_ne.1 hg)] | simp only [eq_true (of_decide_eq_true hg)] | simp only [eq_false (of_decide_eq_false hg)] | skip); have hgo := hg; try simp only [Bool.and_eq_true, Bool.or_eq_false_iff, Bool.or_eq_true, Bool.and_eq_false_iff, Bool.not_eq_true', Bool.not_eq_false', decide_eq_true_eq, decide_eq_false_iff_not, beqT, beqF, bneT, bneF] at hgo))
     | refine ek_ret ?_
     | refine ek_norm ?_
     | (refine ⟨by omega, ?_⟩)
     | rfl
  all_goals simp_all [formB, formK]
def hasI (l : List Int) (c : Int) : Bool := decide (idxI c l 0 ≥ 0)
theorem v_Contains_byte (l : List Int) (c : Int) (hl : l.length < 4611686018427387904) : C2 CC F_slices_Contains_byte [.fv (rb l), .fv (.int .u8 c)] (bv (hasI l c)) [] := by
  refine c2_fn (MU := MU) (fn := Try.f66) (p := (prep (Try.f66.body.getD .skip)).getD .skip) (keepF Try.f66) false rfl rfl rfl (Nat.le_of_ble_eq_true rfl) (Nat.le_of_ble_eq_true rfl) rfl ?_
  conv => arg 5; cbv
  conv => arg 6; cbv
  conv => arg 8; arg 3; cbv
  repeat' first
     | (refine ck_intro (by first | exact v_Index_byte _ _ hl) ?_ ?_)
     | (simp (maxSteps := 1000000) only [go_sem, Int.cast_ofNat_Int, Int.reduceLT, Int.reduceLE, Int.reduceGT, Int.reduceGE, Int.reduceEq, Int.reduceBEq, Int.reduceAdd, Int.reduceSub, Int.reduceToNat, Nat.reduceShiftRight, Nat.reduceMod, Nat.reduceLT, Nat.reduceEqDiff, Nat.reduceAdd, Nat.reduceMul, Nat.reduceLeDiff, Nat.reduceBEq, reduceIte])
     | (simp (disch := first | omega | assumption) only [wrapI, ia3_hdrN, ia3_rowN, ia3_hdrI, ia3_rowI, List.getElem?_eq_getElem, List.length_map, List.length_cons, List.length_nil])
     | (refine tt_i (fun hg => ?_) (fun hg => ?_) <;> (replace hg := tb_eq hg; (try simp only [hg]); (first | simp only [eq_true (beq_iff_eq.1 hg)] | simp only [eq_false (beq_eq_false_iff_ne.1 hg)] | simp only [eq_true (of_decide_eq_true hg)] | simp only [eq_false (of_decide_eq_false hg)] | skip); have hgo := hg; try simp only [Bool.and_eq_true, Bool.or_eq_false_iff, Bool.or_eq_true, Bool.and_eq_false_iff, Bool.not_eq_true', Bool.not_eq_false', decide_eq_true_eq, decide_eq_false_iff_not, beqT, beqF, bneT, bneF] at hgo))
     | refine ek_ret ?_
     | refine ek_norm ?_
     | (refine ⟨by omega, ?_⟩)
     | rfl
def hasP (op c : Int) : Bool := formK op && hasI (byI (formB op)) c
theorem v_has (op c : Int) : C2 CC F_impl_has [iv op, .fv (.int .u8 c)] (bv (hasP op c)) [] := by
  refine c2_fn (MU := MU) (fn := Try.f86) (p := (prep (Try.f86.body.getD .skip)).getD .skip) (keepF Try.f86) false rfl rfl rfl (Nat.le_of_ble_eq_true rfl) (Nat.le_of_ble_eq_true rfl) rfl ?_
  conv => arg 5; cbv
  conv => arg 6; cbv
  conv => arg 8; arg 3; cbv
  repeat' first
     | (refine ck_intro (by first | exact v_formOf _ | exact v_Contains_byte _ _ (formB_len op)) ?_ ?_)
     | (simp (maxSteps := 1000000) only [go_sem, Int.cast_ofNat_Int, Int.reduceLT, Int.reduceLE, Int.reduceGT, Int.reduceGE, Int.reduceEq, Int.reduceBEq, Int.reduceAdd, Int.reduceSub, Int.reduceToNat, Nat.reduceShiftRight, Nat.reduceMod, Nat.reduceLT, Nat.reduceEqDiff, Nat.reduceAdd, Nat.reduceMul, Nat.reduceLeDiff, Nat.reduceBEq, reduceIte])
     | (simp (disch := first | omega | assumption) only [wrapI, ia3_hdrN, ia3_rowN, ia3_hdrI, ia3_rowI, List.getElem?_eq_getElem, List.length_map, List.length_cons, List.length_nil])
     | (refine tt_i (fun hg => ?_) (fun hg => ?_) <;> (replace hg := tb_eq hg; (try simp only [hg]); (first | simp only [eq_true (beq_iff_eq.1 hg)] | simp only [eq_false (beq_eq_false_iff_ne.1 hg)] | simp only [eq_true (of_decide_eq_true hg)] | simp only [eq_false (of_decide_eq_false hg)] | skip); have hgo := hg; try simp only [Bool.and_eq_true, Bool.or_eq_false_iff, Bool.or_eq_true, Bool.and_eq_false_iff, Bool.not_eq_true', Bool.not_eq_false', decide_eq_true_eq, decide_eq_false_iff_not, beqT, beqF, bneT, bneF] at hgo))
     | refine ek_ret ?_
     | refine ek_norm ?_
     | (refine ⟨by omega, ?_⟩)
     | rfl
  all_goals simp_all [hasP]
end Go.Proofs.YtbgaljpilmmefaaM

/- Steps and places of a list, in plain words. -/
namespace Go.Proofs.YtbgaljpilmmefaaM
open Go
set_option linter.unusedVariables false
set_option linter.unusedSimpArgs false
set_option maxRecDepth 100000
set_option maxHeartbeats 4000000
attribute [local irreducible] PW CK EK C2 rdK thK blK FK SK LK AK GK CD unK TT keK
structure StepD where
  op : Int
  r : Int
  a : Int
  b : Int
  n : Int
  deriving DecidableEq
/-- Five whole numbers that fit. -/
def StepD.wf (x : StepD) : Prop := I64 x.op ∧ I64 x.r ∧ I64 x.a ∧ I64 x.b ∧ I64 x.n
abbrev stF (s : StepD) : FV := .agg [.int .i64 s.op, .int .i64 s.r, .int .i64 s.a, .int .i64 s.b, .int .i64 s.n]
abbrev sF (s : StepD) : DV := .fv (stF s)
def steps (l : List StepD) : List DV := l.map fun s => .fv (stF s)
def ints (l : List Int) : List DV := l.map fun n => .fv (.int .i64 n)
@[go_sem] theorem nrs_steps {l : List StepD} : noRefs (steps l) = true := nrs_map
@[go_sem] theorem fvs_steps {l : List StepD} : fvs (steps l) = true := fvs_map
@[go_sem] theorem fzL_steps {l : List StepD} : fzL (steps l) = some (l.map stF) := fzL_map
@[go_sem] theorem clDs_steps {l : List StepD} : clDs (steps l) = true := clDs_map fun x => rfl
@[go_sem] theorem steps_len {l : List StepD} : (steps l).length = l.length := by unfold steps; simp
@[go_sem] theorem nrs_ints {l : List Int} : noRefs (ints l) = true := nrs_map
@[go_sem] theorem fvs_ints {l : List Int} : fvs (ints l) = true := fvs_map
@[go_sem] theorem fzL_ints {l : List Int} : fzL (ints l) = some (l.map (.int .i64)) := fzL_map
@[go_sem] theorem clDs_ints {l : List Int} : clDs (ints l) = true := clDs_map fun x => rfl
@[go_sem] theorem ints_len {l : List Int} : (ints l).length = l.length := by unfold ints; simp
theorem steps_nil : steps [] = [] := nr rfl
theorem steps_cons {s : StepD} {l : List StepD} : steps (s :: l) = .fv (stF s) :: steps l := nr rfl
theorem ints_nil : ints [] = [] := nr rfl
theorem ints_cons {s : Int} {l : List Int} : ints (s :: l) = .fv (.int .i64 s) :: ints l := nr rfl
def homeB (n : Int) : Bool := decide (n ≥ 0) && decide (n ≤ 39)
def makesB (op : Int) : Bool := wok op || op == 20 || op == 21 || op == 24 || op == 25
def tkL (home by_ : Int) : List StepD := if home < 4 then [] else [⟨3, by_, 0, 0, home - 4⟩]
def tkR (home by_ : Int) : Int := if home < 4 then home else by_
theorem v_l15Take (home by_ : Int) (h1 : home ≤ 39) : C2 CC F_spec_l15Take [iv home, iv by_] (.tup [.own 5 (steps (tkL home by_)), iv (tkR home by_)]) [] := by
  refine c2_fn (MU := MU) (fn := Try.f81) (p := (prep (Try.f81.body.getD .skip)).getD .skip) (keepF Try.f81) false rfl rfl rfl (Nat.le_of_ble_eq_true rfl) (Nat.le_of_ble_eq_true rfl) rfl ?_
  conv => arg 5; cbv
  conv => arg 6; cbv
  conv => arg 8; arg 3; cbv
  repeat' first
     | (simp (maxSteps := 1000000) only [go_sem, Int.cast_ofNat_Int, Int.reduceLT, Int.reduceLE, Int.reduceGT, Int.reduceGE, Int.reduceEq, Int.reduceBEq, Int.reduceAdd, Int.reduceSub, Int.reduceToNat, Nat.reduceShiftRight, Nat.reduceMod, Nat.reduceLT, Nat.reduceEqDiff, Nat.reduceAdd, Nat.reduceMul, Nat.reduceLeDiff, Nat.reduceBEq, reduceIte])
     | (simp (disch := first | omega | assumption) only [wrapI, ia3_hdrN, ia3_rowN, ia3_hdrI, ia3_rowI, List.getElem?_eq_getElem, List.length_map, List.length_cons, List.length_nil])
     | (refine tt_i (fun hg => ?_) (fun hg => ?_) <;> (replace hg := tb_eq hg; (try simp only [hg]); (first | simp only [eq_true (beq_iff_eq.1 hg)] | simp only [eq_false (beq_eq_false_iff_ne.1 hg)] | simp only [eq_true (of_decide_eq_true hg)] | simp only [eq_false (of_decide_eq_false hg)] | skip); have hgo := hg; try simp only [Bool.and_eq_true, Bool.or_eq_false_iff, Bool.or_eq_true, Bool.and_eq_false_iff, Bool.not_eq_true', Bool.not_eq_false', decide_eq_true_eq, decide_eq_false_iff_not, beqT, beqF, bneT, bneF] at hgo))
     | refine ek_ret ?_
     | refine ek_norm ?_
     | (refine ⟨by omega, ?_⟩)
     | rfl
  all_goals first | rfl | (simp_all [beqD, tkL, tkR, steps]; done) | ((try simp only [tkL, tkR, steps]); (repeat' split) <;> first | omega | (simp_all [beqD]; done) | (simp_all [beqD]; omega)) | (simp_all [beqD, tkL, tkR, steps]; (repeat' split) <;> first | rfl | omega | (simp_all; done))
theorem v_l15Home (n : Int) : C2 CC F_spec_l15Home [iv n] (bv (homeB n)) [] := by
  refine c2_fn (MU := MU) (fn := Try.f79) (p := (prep (Try.f79.body.getD .skip)).getD .skip) (keepF Try.f79) false rfl rfl rfl (Nat.le_of_ble_eq_true rfl) (Nat.le_of_ble_eq_true rfl) rfl ?_
  conv => arg 5; cbv
  conv => arg 6; cbv
  conv => arg 8; arg 3; cbv
  repeat' first
     | (refine ck_intro (by first | exact v_l1In _ _ _) ?_ ?_)
     | (simp (maxSteps := 1000000) only [go_sem, Int.cast_ofNat_Int, Int.reduceLT, Int.reduceLE, Int.reduceGT, Int.reduceGE, Int.reduceEq, Int.reduceBEq, Int.reduceAdd, Int.reduceSub, Int.reduceToNat, Nat.reduceShiftRight, Nat.reduceMod, Nat.reduceLT, Nat.reduceEqDiff, Nat.reduceAdd, Nat.reduceMul, Nat.reduceLeDiff, Nat.reduceBEq, reduceIte])
     | (simp (disch := first | omega | assumption) only [wrapI, ia3_hdrN, ia3_rowN, ia3_hdrI, ia3_rowI, List.getElem?_eq_getElem, List.length_map, List.length_cons, List.length_nil])
     | (refine tt_i (fun hg => ?_) (fun hg => ?_) <;> (replace hg := tb_eq hg; (try simp only [hg]); (first | simp only [eq_true (beq_iff_eq.1 hg)] | simp only [eq_false (beq_eq_false_iff_ne.1 hg)] | simp only [eq_true (of_decide_eq_true hg)] | simp only [eq_false (of_decide_eq_false hg)] | skip); have hgo := hg; try simp only [Bool.and_eq_true, Bool.or_eq_false_iff, Bool.or_eq_true, Bool.and_eq_false_iff, Bool.not_eq_true', Bool.not_eq_false', decide_eq_true_eq, decide_eq_false_iff_not, beqT, beqF, bneT, bneF] at hgo))
     | refine ek_ret ?_
     | refine ek_norm ?_
     | (refine ⟨by omega, ?_⟩)
     | rfl
theorem v_l2Makes (op : Int) : C2 CC F_spec_l2Makes [iv op] (bv (makesB op)) [] := by
  refine c2_fn (MU := MU) (fn := Try.f80) (p := (prep (Try.f80.body.getD .skip)).getD .skip) (keepF Try.f80) false rfl rfl rfl (Nat.le_of_ble_eq_true rfl) (Nat.le_of_ble_eq_true rfl) rfl ?_
  conv => arg 5; cbv
  conv => arg 6; cbv
  conv => arg 8; arg 3; cbv
  repeat' first
     | (refine ck_intro (by first | exact s_WordOk _) ?_ ?_)
     | (simp (maxSteps := 1000000) only [go_sem, Int.cast_ofNat_Int, Int.reduceLT, Int.reduceLE, Int.reduceGT, Int.reduceGE, Int.reduceEq, Int.reduceBEq, Int.reduceAdd, Int.reduceSub, Int.reduceToNat, Nat.reduceShiftRight, Nat.reduceMod, Nat.reduceLT, Nat.reduceEqDiff, Nat.reduceAdd, Nat.reduceMul, Nat.reduceLeDiff, Nat.reduceBEq, reduceIte])
     | (simp (disch := first | omega | assumption) only [wrapI, ia3_hdrN, ia3_rowN, ia3_hdrI, ia3_rowI, List.getElem?_eq_getElem, List.length_map, List.length_cons, List.length_nil])
     | (refine tt_i (fun hg => ?_) (fun hg => ?_) <;> (replace hg := tb_eq hg; (try simp only [hg]); (first | simp only [eq_true (beq_iff_eq.1 hg)] | simp only [eq_false (beq_eq_false_iff_ne.1 hg)] | simp only [eq_true (of_decide_eq_true hg)] | simp only [eq_false (of_decide_eq_false hg)] | skip); have hgo := hg; try simp only [Bool.and_eq_true, Bool.or_eq_false_iff, Bool.or_eq_true, Bool.and_eq_false_iff, Bool.not_eq_true', Bool.not_eq_false', decide_eq_true_eq, decide_eq_false_iff_not, beqT, beqF, bneT, bneF] at hgo))
     | refine ek_ret ?_
     | refine ek_norm ?_
     | (refine ⟨by omega, ?_⟩)
     | rfl
  all_goals first | rfl | (simp_all [beqD, makesB]; done) | ((try simp only [makesB]); (repeat' split) <;> first | omega | (simp_all [beqD]; done) | (simp_all [beqD]; omega)) | (simp_all [beqD, makesB]; (repeat' split) <;> first | rfl | omega | (simp_all; done))
end Go.Proofs.YtbgaljpilmmefaaM

/- What a place takes; how steps are given. -/
namespace Go.Proofs.YtbgaljpilmmefaaM
open Go
set_option linter.unusedVariables false
set_option linter.unusedSimpArgs false
set_option maxRecDepth 100000
set_option maxHeartbeats 4000000
attribute [local irreducible] PW CK EK C2 rdK thK blK FK SK LK AK GK CD unK TT keK
theorem stepsA {l m : List StepD} : steps l ++ steps m = steps (l ++ m) := by unfold steps; simp
theorem stepsS {l : List StepD} {a b c d e : Int} : steps l ++ [.fv (.agg [.int .i64 a, .int .i64 b, .int .i64 c, .int .i64 d, .int .i64 e])] = steps (l ++ [⟨a, b, c, d, e⟩]) := by unfold steps; simp
theorem stepsS2 {l : List StepD} {a b c d e a' b' c' d' e' : Int} : steps l ++ [.fv (.agg [.int .i64 a, .int .i64 b, .int .i64 c, .int .i64 d, .int .i64 e]), .fv (.agg [.int .i64 a', .int .i64 b', .int .i64 c', .int .i64 d', .int .i64 e'])] = steps (l ++ [⟨a, b, c, d, e⟩, ⟨a', b', c', d', e'⟩]) := by unfold steps; simp
theorem homeB_le {n : Int} (h : homeB n = true) : n ≤ 39 := by unfold homeB at h; simp at h; exact h.2
theorem homeB_ge {n : Int} (h : homeB n = true) : 0 ≤ n := by unfold homeB at h; simp at h; exact h.1
def usesL (x : StepD) : List Int := if (wok x.op || x.op == 22) = true then [x.a, x.b] else if (x.op == 21 || x.op == 23 || x.op == 25) = true then [x.a] else []
theorem v_InsUses (x : StepD) : C2 CC F_spec_InsUses [sF x] (.own 1 (ints (usesL x))) [] := by
  refine c2_fn (MU := MU) (fn := Try.f78) (p := (prep (Try.f78.body.getD .skip)).getD .skip) (keepF Try.f78) false rfl rfl rfl (Nat.le_of_ble_eq_true rfl) (Nat.le_of_ble_eq_true rfl) rfl ?_
  conv => arg 5; cbv
  conv => arg 6; cbv
  conv => arg 8; arg 3; cbv
  repeat' first
     | (refine ck_intro (by first | exact s_WordOk _) ?_ ?_)
     | (simp (maxSteps := 1000000) only [go_sem, Int.cast_ofNat_Int, Int.reduceLT, Int.reduceLE, Int.reduceGT, Int.reduceGE, Int.reduceEq, Int.reduceBEq, Int.reduceAdd, Int.reduceSub, Int.reduceToNat, Nat.reduceShiftRight, Nat.reduceMod, Nat.reduceLT, Nat.reduceEqDiff, Nat.reduceAdd, Nat.reduceMul, Nat.reduceLeDiff, Nat.reduceBEq, reduceIte])
     | (simp (disch := first | omega | assumption) only [wrapI, ia3_hdrN, ia3_rowN, ia3_hdrI, ia3_rowI, List.getElem?_eq_getElem, List.length_map, List.length_cons, List.length_nil])
     | (refine tt_i (fun hg => ?_) (fun hg => ?_) <;> (replace hg := tb_eq hg; (try simp only [hg]); (first | simp only [eq_true (beq_iff_eq.1 hg)] | simp only [eq_false (beq_eq_false_iff_ne.1 hg)] | simp only [eq_true (of_decide_eq_true hg)] | simp only [eq_false (of_decide_eq_false hg)] | skip); have hgo := hg; try simp only [Bool.and_eq_true, Bool.or_eq_false_iff, Bool.or_eq_true, Bool.and_eq_false_iff, Bool.not_eq_true', Bool.not_eq_false', decide_eq_true_eq, decide_eq_false_iff_not, beqT, beqF, bneT, bneF] at hgo))
     | refine ek_ret ?_
     | refine ek_norm ?_
     | (refine ⟨by omega, ?_⟩)
     | rfl
  all_goals first | rfl | (simp_all [beqD, usesL, ints]; done) | ((try simp only [usesL, ints]); (repeat' split) <;> first | omega | (simp_all [beqD]; done) | (simp_all [beqD]; omega)) | (simp_all [beqD, usesL, ints]; (repeat' split) <;> first | rfl | omega | (simp_all; done))
def giveL (l : List StepD) (s : StepD) (home : Int) : List StepD := if home < 4 then l ++ [{ s with r := home }] else l ++ [{ s with r := 6 }, ⟨4, 0, 6, 0, home - 4⟩]
theorem v_l15Give (l : List StepD) (s : StepD) (home : Int) (h1 : home ≤ 39) (hl : l.length < 100000) : C2 CC F_spec_l15Give [.own 5 (steps l), sF s, iv home] (.own 5 (steps (giveL l s home))) [.junk 1] := by
  refine c2_fn (MU := MU) (fn := Try.f82) (p := (prep (Try.f82.body.getD .skip)).getD .skip) (keepF Try.f82) false rfl rfl rfl (Nat.le_of_ble_eq_true rfl) (Nat.le_of_ble_eq_true rfl) rfl ?_
  conv => arg 5; cbv
  conv => arg 6; cbv
  conv => arg 8; arg 3; cbv
  repeat' first
     | (simp (maxSteps := 1000000) only [go_sem, Int.cast_ofNat_Int, Int.reduceLT, Int.reduceLE, Int.reduceGT, Int.reduceGE, Int.reduceEq, Int.reduceBEq, Int.reduceAdd, Int.reduceSub, Int.reduceToNat, Nat.reduceShiftRight, Nat.reduceMod, Nat.reduceLT, Nat.reduceEqDiff, Nat.reduceAdd, Nat.reduceMul, Nat.reduceLeDiff, Nat.reduceBEq, reduceIte, stepsS, stepsS2])
     | (simp (disch := first | omega | assumption) only [wrapI, ia3_hdrN, ia3_rowN, ia3_hdrI, ia3_rowI, List.getElem?_eq_getElem, List.length_map, List.length_cons, List.length_nil, stepsS, stepsS2])
     | (refine tt_i (fun hg => ?_) (fun hg => ?_) <;> (replace hg := tb_eq hg; (try simp only [hg]); (first | simp only [eq_true (beq_iff_eq.1 hg)] | simp only [eq_false (beq_eq_false_iff_ne.1 hg)] | simp only [eq_true (of_decide_eq_true hg)] | simp only [eq_false (of_decide_eq_false hg)] | skip); have hgo := hg; try simp only [Bool.and_eq_true, Bool.or_eq_false_iff, Bool.or_eq_true, Bool.and_eq_false_iff, Bool.not_eq_true', Bool.not_eq_false', decide_eq_true_eq, decide_eq_false_iff_not, beqT, beqF, bneT, bneF] at hgo))
     | refine ek_ret ?_
     | refine ek_norm ?_
     | (refine ⟨by omega, ?_⟩)
     | rfl
  all_goals first | rfl | (simp_all [beqD, giveL]; done) | ((try simp only [giveL]); (repeat' split) <;> first | omega | (simp_all [beqD]; done) | (simp_all [beqD]; omega)) | (simp_all [beqD, giveL]; (repeat' split) <;> first | rfl | omega | (simp_all; done))
def copyL (x : StepD) : List StepD := if x.r < 4 ∧ x.a < 4 then [⟨2, x.r, x.a, 0, 0⟩] else if x.r < 4 then [⟨3, x.r, 0, 0, x.a - 4⟩] else tkL x.a 4 ++ [⟨4, 0, tkR x.a 4, 0, x.r - 4⟩]
theorem tkL_len (home by_ : Int) : (tkL home by_).length ≤ 1 := by unfold tkL; split <;> simp
theorem v_l15Copy (x : StepD) (h1 : x.r ≤ 39) (h2 : x.a ≤ 39) : C2 CC F_spec_l15Copy [sF x] (.own 5 (steps (copyL x))) [] := by
  obtain ⟨op, r, a, b, n⟩ := x
  simp only at h1 h2
  have l1 := tkL_len a 4
  refine c2_fn (MU := MU) (fn := Try.f83) (p := (prep (Try.f83.body.getD .skip)).getD .skip) (keepF Try.f83) false rfl rfl rfl (Nat.le_of_ble_eq_true rfl) (Nat.le_of_ble_eq_true rfl) rfl ?_
  conv => arg 5; cbv
  conv => arg 6; cbv
  conv => arg 8; arg 3; cbv
  repeat' first
     | (refine ck_intro (by first | exact v_l15Take _ _ (by omega)) ?_ ?_)
     | (simp (maxSteps := 1000000) only [go_sem, Int.cast_ofNat_Int, Int.reduceLT, Int.reduceLE, Int.reduceGT, Int.reduceGE, Int.reduceEq, Int.reduceBEq, Int.reduceAdd, Int.reduceSub, Int.reduceToNat, Nat.reduceShiftRight, Nat.reduceMod, Nat.reduceLT, Nat.reduceEqDiff, Nat.reduceAdd, Nat.reduceMul, Nat.reduceLeDiff, Nat.reduceBEq, reduceIte, stepsS])
     | (simp (disch := first | omega | assumption) only [wrapI, ia3_hdrN, ia3_rowN, ia3_hdrI, ia3_rowI, List.getElem?_eq_getElem, List.length_map, List.length_cons, List.length_nil, stepsS])
     | (refine tt_i (fun hg => ?_) (fun hg => ?_) <;> (replace hg := tb_eq hg; (try simp only [hg]); (first | simp only [eq_true (beq_iff_eq.1 hg)] | simp only [eq_false (beq_eq_false_iff_ne.1 hg)] | simp only [eq_true (of_decide_eq_true hg)] | simp only [eq_false (of_decide_eq_false hg)] | skip); have hgo := hg; try simp only [Bool.and_eq_true, Bool.or_eq_false_iff, Bool.or_eq_true, Bool.and_eq_false_iff, Bool.not_eq_true', Bool.not_eq_false', decide_eq_true_eq, decide_eq_false_iff_not, beqT, beqF, bneT, bneF] at hgo))
     | refine ek_ret ?_
     | refine ek_norm ?_
     | (refine ⟨by omega, ?_⟩)
     | rfl
  all_goals first | rfl | (simp_all [beqD, copyL, steps]; done) | ((try simp only [copyL, steps]); (repeat' split) <;> first | omega | (simp_all [beqD]; done) | (simp_all [beqD]; omega)) | (simp_all [beqD, copyL, steps]; (repeat' split) <;> first | rfl | omega | (simp_all; done))
end Go.Proofs.YtbgaljpilmmefaaM

/- The reference's EmitIns. -/
namespace Go.Proofs.YtbgaljpilmmefaaM
open Go
set_option linter.unusedVariables false
set_option linter.unusedSimpArgs false
set_option maxRecDepth 100000
set_option maxHeartbeats 4000000
attribute [local irreducible] PW CK EK C2 rdK thK blK FK SK LK AK GK CD unK TT keK
def homedB (x : StepD) : Bool := (usesL x).all homeB && (!makesB x.op || homeB x.r)
def takenL (x : StepD) : List StepD := (if 0 < (usesL x).length then tkL x.a 4 else []) ++ (if 1 < (usesL x).length then tkL x.b 5 else [])
def regA (x : StepD) : Int := if 0 < (usesL x).length then tkR x.a 4 else 0
def regB (x : StepD) : Int := if 1 < (usesL x).length then tkR x.b 5 else 0
def emitL (x : StepD) : List StepD :=
  if homedB x = false then []
  else if x.op = 20 then giveL (takenL x) ⟨1, 0, 0, 0, x.n⟩ x.r
  else if x.op = 21 then giveL (takenL x) ⟨5, 0, regA x, 0, 0⟩ x.r
  else if x.op = 24 then giveL (takenL x) ⟨8, 0, 0, 0, 0⟩ x.r
  else if x.op = 22 then takenL x ++ [⟨6, 0, regA x, regB x, 0⟩]
  else if x.op = 23 then takenL x ++ [⟨7, 0, regA x, 0, 0⟩]
  else if x.op = 25 then copyL x
  else if wok x.op = true then giveL (takenL x) ⟨11 + x.op, 0, regA x, regB x, 0⟩ x.r
  else []
theorem wok_range {n : Int} (h : wok n = true) : 1 ≤ n ∧ n ≤ 10 := by unfold wok at h; simp at h; exact h
set_option maxHeartbeats 2000000 in
theorem emit_0 (op r a b n : Int) (hu : usesL ⟨op, r, a, b, n⟩ = []) : C2 CC F_spec_EmitIns [sF ⟨op, r, a, b, n⟩] (.own 5 (steps (emitL ⟨op, r, a, b, n⟩))) [] := by
  have k := v_InsUses ⟨op, r, a, b, n⟩
  rw [hu] at k
  have e0 : wok op = false := by cases hw : wok op with | false => rfl | true => simp [usesL, hw] at hu
  have e21 : (op == 21) = false := by cases hw : op == 21 with | false => rfl | true => simp_all [usesL]
  have e22 : (op == 22) = false := by cases hw : op == 22 with | false => rfl | true => simp_all [usesL]
  have e23 : (op == 23) = false := by cases hw : op == 23 with | false => rfl | true => simp_all [usesL]
  have e25 : (op == 25) = false := by cases hw : op == 25 with | false => rfl | true => simp_all [usesL]
  have hs : steps [] = [] := rfl
  refine c2_fn (MU := MU) (fn := Try.f32) (p := (prep (Try.f32.body.getD .skip)).getD .skip) (keepF Try.f32) false rfl rfl rfl (Nat.le_of_ble_eq_true rfl) (Nat.le_of_ble_eq_true rfl) rfl ?_
  conv => arg 5; cbv
  conv => arg 6; cbv
  conv => arg 8; arg 3; cbv
  repeat' first
     | (refine ck_intro (by first | exact k | exact v_l15Home _ | exact v_l2Makes _ | exact s_WordOk _ | exact v_l15Give [] ⟨1, 0, 0, 0, n⟩ _ (homeB_le (by first | assumption | (simp_all [makesB]; done))) (by first | omega | (simp only [List.length_append, List.length_nil]; omega)) | exact v_l15Give [] ⟨8, 0, 0, 0, 0⟩ _ (homeB_le (by first | assumption | (simp_all [makesB]; done))) (by first | omega | (simp only [List.length_append, List.length_nil]; omega))) ?_ ?_)
     | (refine pw_unroll ?_)
     | (simp (maxSteps := 1000000) only [go_sem, Int.cast_ofNat_Int, Int.reduceLT, Int.reduceLE, Int.reduceGT, Int.reduceGE, Int.reduceEq, Int.reduceBEq, Int.reduceAdd, Int.reduceSub, Int.reduceToNat, Nat.reduceShiftRight, Nat.reduceMod, Nat.reduceLT, Nat.reduceEqDiff, Nat.reduceAdd, Nat.reduceMul, Nat.reduceLeDiff, Nat.reduceBEq, reduceIte, e0, e21, e22, e23, e25])
     | (simp (disch := first | omega | assumption) only [wrapI, ia3_hdrN, ia3_rowN, ia3_hdrI, ia3_rowI, List.getElem?_eq_getElem, List.length_map, List.length_cons, List.length_nil, e0, e21, e22, e23, e25])
     | (refine tt_i (fun hg => ?_) (fun hg => ?_) <;> (replace hg := tb_eq hg; (try simp only [hg]); (first | simp only [eq_true (beq_iff_eq.1 hg)] | simp only [eq_false (beq_eq_false_iff_ne.1 hg)] | simp only [eq_true (of_decide_eq_true hg)] | simp only [eq_false (of_decide_eq_false hg)] | skip); have hgo := hg; try simp only [Bool.and_eq_true, Bool.or_eq_false_iff, Bool.or_eq_true, Bool.and_eq_false_iff, Bool.not_eq_true', Bool.not_eq_false', decide_eq_true_eq, decide_eq_false_iff_not, beqT, beqF, bneT, bneF] at hgo))
     | refine ek_ret ?_
     | refine ek_norm ?_
     | (refine ⟨by omega, ?_⟩)
     | rfl
  all_goals first | rfl | (simp_all [beqD, emitL, homedB, takenL, regA, regB, steps]; done) | (simp_all [beqD, emitL, homedB, takenL, regA, regB, makesB, steps]; done) | ((try simp only [emitL, homedB, takenL, regA, regB, steps]); (repeat' split) <;> first | omega | (simp_all [beqD]; done) | (simp_all [beqD]; omega)) | (simp_all [beqD, emitL, homedB, takenL, regA, regB, steps]; (repeat' split) <;> first | rfl | omega | (simp_all; done))
set_option maxHeartbeats 2000000 in
theorem emit_1 (op r a b n : Int) (e0 : wok op = false) (e22 : (op == 22) = false) (e1 : (op == 21 || op == 23 || op == 25) = true) : C2 CC F_spec_EmitIns [sF ⟨op, r, a, b, n⟩] (.own 5 (steps (emitL ⟨op, r, a, b, n⟩))) [] := by
  have k := v_InsUses ⟨op, r, a, b, n⟩
  have hu : usesL ⟨op, r, a, b, n⟩ = [a] := by simp_all [usesL]
  rw [hu] at k
  have e20 : (op == 20) = false := by simp_all [beqD]; omega
  have e24 : (op == 24) = false := by simp_all [beqD]; omega
  have l1 := tkL_len a 4
  clear e1
  refine c2_fn (MU := MU) (fn := Try.f32) (p := (prep (Try.f32.body.getD .skip)).getD .skip) (keepF Try.f32) false rfl rfl rfl (Nat.le_of_ble_eq_true rfl) (Nat.le_of_ble_eq_true rfl) rfl ?_
  conv => arg 5; cbv
  conv => arg 6; cbv
  conv => arg 8; arg 3; cbv
  repeat' first
     | (refine ck_intro (by first | exact k | exact v_l15Home _ | exact v_l2Makes _ | exact s_WordOk _ | exact v_l15Take _ _ (homeB_le (by first | assumption | (simp_all [makesB]; done))) | exact v_l15Copy ⟨op, r, a, b, n⟩ (homeB_le (by first | assumption | (simp_all [makesB]; done))) (homeB_le (by first | assumption | (simp_all [makesB]; done))) | exact v_l15Give _ ⟨5, 0, tkR a 4, 0, 0⟩ _ (homeB_le (by first | assumption | (simp_all [makesB]; done))) (by first | omega | (simp only [List.length_append, List.length_nil]; omega))) ?_ ?_)
     | (refine pw_unroll ?_)
     | (simp (maxSteps := 1000000) only [go_sem, Int.cast_ofNat_Int, Int.reduceLT, Int.reduceLE, Int.reduceGT, Int.reduceGE, Int.reduceEq, Int.reduceBEq, Int.reduceAdd, Int.reduceSub, Int.reduceToNat, Nat.reduceShiftRight, Nat.reduceMod, Nat.reduceLT, Nat.reduceEqDiff, Nat.reduceAdd, Nat.reduceMul, Nat.reduceLeDiff, Nat.reduceBEq, reduceIte, e0, e22, e20, e24, ints_cons, ints_nil, stepsS])
     | (simp (disch := first | omega | assumption) only [wrapI, ia3_hdrN, ia3_rowN, ia3_hdrI, ia3_rowI, List.getElem?_eq_getElem, List.length_map, List.length_cons, List.length_nil, e0, e22, e20, e24, ints_cons, ints_nil, stepsS])
     | (refine tt_i (fun hg => ?_) (fun hg => ?_) <;> (replace hg := tb_eq hg; (try simp only [hg]); (first | simp only [eq_true (beq_iff_eq.1 hg)] | simp only [eq_false (beq_eq_false_iff_ne.1 hg)] | simp only [eq_true (of_decide_eq_true hg)] | simp only [eq_false (of_decide_eq_false hg)] | skip); have hgo := hg; try simp only [Bool.and_eq_true, Bool.or_eq_false_iff, Bool.or_eq_true, Bool.and_eq_false_iff, Bool.not_eq_true', Bool.not_eq_false', decide_eq_true_eq, decide_eq_false_iff_not, beqT, beqF, bneT, bneF] at hgo))
     | refine ek_ret ?_
     | refine ek_norm ?_
     | (refine ⟨by omega, ?_⟩)
     | rfl
  all_goals first | rfl | (simp_all [beqD, emitL, homedB, takenL, regA, regB, steps]; done) | (simp_all [beqD, emitL, homedB, takenL, regA, regB, makesB, steps]; done) | ((try simp only [emitL, homedB, takenL, regA, regB, steps]); (repeat' split) <;> first | omega | (simp_all [beqD]; done) | (simp_all [beqD]; omega)) | (simp_all [beqD, emitL, homedB, takenL, regA, regB, steps]; (repeat' split) <;> first | rfl | omega | (simp_all; done))
end Go.Proofs.YtbgaljpilmmefaaM

/- The reference's EmitIns, of two. -/
namespace Go.Proofs.YtbgaljpilmmefaaM
open Go
set_option linter.unusedVariables false
set_option linter.unusedSimpArgs false
set_option maxRecDepth 100000
set_option maxHeartbeats 4000000
attribute [local irreducible] PW CK EK C2 rdK thK blK FK SK LK AK GK CD unK TT keK
theorem tkL_len2 (a b : Int) : (tkL a 4 ++ tkL b 5).length ≤ 2 := by have := tkL_len a 4; have := tkL_len b 5; rw [List.length_append]; omega
set_option maxHeartbeats 2000000 in
theorem emit_w (op r a b n : Int) (e0 : wok op = true) : C2 CC F_spec_EmitIns [sF ⟨op, r, a, b, n⟩] (.own 5 (steps (emitL ⟨op, r, a, b, n⟩))) [] := by
  have k := v_InsUses ⟨op, r, a, b, n⟩
  have hu : usesL ⟨op, r, a, b, n⟩ = [a, b] := by simp_all [usesL]
  rw [hu] at k
  have hw := wok_range e0
  have e20 : (op == 20) = false := by rw [beq_eq_false_iff_ne]; omega
  have e21 : (op == 21) = false := by rw [beq_eq_false_iff_ne]; omega
  have e22 : (op == 22) = false := by rw [beq_eq_false_iff_ne]; omega
  have e23 : (op == 23) = false := by rw [beq_eq_false_iff_ne]; omega
  have e24 : (op == 24) = false := by rw [beq_eq_false_iff_ne]; omega
  have e25 : (op == 25) = false := by rw [beq_eq_false_iff_ne]; omega
  have hm : makesB op = true := by simp [makesB, e0]
  have l1 := tkL_len a 4
  have l2 := tkL_len b 5
  have l3 := tkL_len2 a b
  refine c2_fn (MU := MU) (fn := Try.f32) (p := (prep (Try.f32.body.getD .skip)).getD .skip) (keepF Try.f32) false rfl rfl rfl (Nat.le_of_ble_eq_true rfl) (Nat.le_of_ble_eq_true rfl) rfl ?_
  conv => arg 5; cbv
  conv => arg 6; cbv
  conv => arg 8; arg 3; cbv
  repeat' first
     | (refine ck_intro (by first | exact k | exact v_l15Home _ | exact v_l2Makes _ | exact s_WordOk _ | exact v_l15Take _ _ (homeB_le (by first | assumption | (simp_all [makesB]; done))) | exact v_l15Give _ ⟨11 + op, 0, tkR a 4, tkR b 5, 0⟩ _ (homeB_le (by first | assumption | (simp_all [makesB]; done))) (by first | omega | (simp only [List.length_append, List.length_nil]; omega))) ?_ ?_)
     | (refine pw_unroll ?_)
     | (simp (maxSteps := 1000000) only [go_sem, Int.cast_ofNat_Int, Int.reduceLT, Int.reduceLE, Int.reduceGT, Int.reduceGE, Int.reduceEq, Int.reduceBEq, Int.reduceAdd, Int.reduceSub, Int.reduceToNat, Nat.reduceShiftRight, Nat.reduceMod, Nat.reduceLT, Nat.reduceEqDiff, Nat.reduceAdd, Nat.reduceMul, Nat.reduceLeDiff, Nat.reduceBEq, reduceIte, e0, e20, e21, e22, e23, e24, e25, hm, ints_cons, ints_nil, stepsA, stepsS])
     | (simp (disch := first | omega | assumption) only [wrapI, ia3_hdrN, ia3_rowN, ia3_hdrI, ia3_rowI, List.getElem?_eq_getElem, List.length_map, List.length_cons, List.length_nil, e0, e20, e21, e22, e23, e24, e25, hm, ints_cons, ints_nil, stepsA, stepsS])
     | (refine tt_i (fun hg => ?_) (fun hg => ?_) <;> (replace hg := tb_eq hg; (try simp only [hg]); (first | simp only [eq_true (beq_iff_eq.1 hg)] | simp only [eq_false (beq_eq_false_iff_ne.1 hg)] | simp only [eq_true (of_decide_eq_true hg)] | simp only [eq_false (of_decide_eq_false hg)] | skip); have hgo := hg; try simp only [Bool.and_eq_true, Bool.or_eq_false_iff, Bool.or_eq_true, Bool.and_eq_false_iff, Bool.not_eq_true', Bool.not_eq_false', decide_eq_true_eq, decide_eq_false_iff_not, beqT, beqF, bneT, bneF] at hgo))
     | refine ek_ret ?_
     | refine ek_norm ?_
     | (refine ⟨by omega, ?_⟩)
     | rfl
  all_goals first | rfl | (simp_all [beqD, emitL, homedB, takenL, regA, regB, steps]; done) | ((try simp only [emitL, homedB, takenL, regA, regB, steps]); (repeat' split) <;> first | omega | (simp_all [beqD]; done) | (simp_all [beqD]; omega)) | (simp_all [beqD, emitL, homedB, takenL, regA, regB, steps]; (repeat' split) <;> first | rfl | omega | (simp_all; done))
set_option maxHeartbeats 2000000 in
theorem emit_22 (r a b n : Int) : C2 CC F_spec_EmitIns [sF ⟨22, r, a, b, n⟩] (.own 5 (steps (emitL ⟨22, r, a, b, n⟩))) [] := by
  have k := v_InsUses ⟨22, r, a, b, n⟩
  have hu : usesL ⟨22, r, a, b, n⟩ = [a, b] := rfl
  rw [hu] at k
  have hm : makesB 22 = false := by decide
  have l1 := tkL_len a 4
  have l2 := tkL_len b 5
  have l3 := tkL_len2 a b
  refine c2_fn (MU := MU) (fn := Try.f32) (p := (prep (Try.f32.body.getD .skip)).getD .skip) (keepF Try.f32) false rfl rfl rfl (Nat.le_of_ble_eq_true rfl) (Nat.le_of_ble_eq_true rfl) rfl ?_
  conv => arg 5; cbv
  conv => arg 6; cbv
  conv => arg 8; arg 3; cbv
  repeat' first
     | (refine ck_intro (by first | exact k | exact v_l15Home _ | exact v_l2Makes _ | exact s_WordOk _ | exact v_l15Take _ _ (homeB_le (by first | assumption | (simp_all [makesB]; done)))) ?_ ?_)
     | (refine pw_unroll ?_)
     | (simp (maxSteps := 1000000) only [go_sem, Int.cast_ofNat_Int, Int.reduceLT, Int.reduceLE, Int.reduceGT, Int.reduceGE, Int.reduceEq, Int.reduceBEq, Int.reduceAdd, Int.reduceSub, Int.reduceToNat, Nat.reduceShiftRight, Nat.reduceMod, Nat.reduceLT, Nat.reduceEqDiff, Nat.reduceAdd, Nat.reduceMul, Nat.reduceLeDiff, Nat.reduceBEq, reduceIte, hm, ints_cons, ints_nil, stepsA, stepsS])
     | (simp (disch := first | omega | assumption) only [wrapI, ia3_hdrN, ia3_rowN, ia3_hdrI, ia3_rowI, List.getElem?_eq_getElem, List.length_map, List.length_cons, List.length_nil, hm, ints_cons, ints_nil, stepsA, stepsS])
     | (refine tt_i (fun hg => ?_) (fun hg => ?_) <;> (replace hg := tb_eq hg; (try simp only [hg]); (first | simp only [eq_true (beq_iff_eq.1 hg)] | simp only [eq_false (beq_eq_false_iff_ne.1 hg)] | simp only [eq_true (of_decide_eq_true hg)] | simp only [eq_false (of_decide_eq_false hg)] | skip); have hgo := hg; try simp only [Bool.and_eq_true, Bool.or_eq_false_iff, Bool.or_eq_true, Bool.and_eq_false_iff, Bool.not_eq_true', Bool.not_eq_false', decide_eq_true_eq, decide_eq_false_iff_not, beqT, beqF, bneT, bneF] at hgo))
     | refine ek_ret ?_
     | refine ek_norm ?_
     | (refine ⟨by omega, ?_⟩)
     | rfl
  all_goals first | rfl | (simp_all [beqD, emitL, homedB, takenL, regA, regB, steps]; done) | ((try simp only [emitL, homedB, takenL, regA, regB, steps]); (repeat' split) <;> first | omega | (simp_all [beqD]; done) | (simp_all [beqD]; omega)) | (simp_all [beqD, emitL, homedB, takenL, regA, regB, steps]; (repeat' split) <;> first | rfl | omega | (simp_all; done))
theorem v_EmitIns (x : StepD) : C2 CC F_spec_EmitIns [sF x] (.own 5 (steps (emitL x))) [] := by
  obtain ⟨op, r, a, b, n⟩ := x
  cases hw : wok op with
  | true => exact emit_w op r a b n hw
  | false =>
    cases h22 : op == 22 with
    | true => have : op = 22 := by simpa using h22
              subst this; exact emit_22 r a b n
    | false =>
      cases h1 : (op == 21 || op == 23 || op == 25) with
      | true => exact emit_1 op r a b n hw h22 h1
      | false => exact emit_0 op r a b n (by simp [usesL, hw, h22, h1])
end Go.Proofs.YtbgaljpilmmefaaM

/- The program's small words of EmitIns. -/
namespace Go.Proofs.YtbgaljpilmmefaaM
open Go
set_option linter.unusedVariables false
set_option linter.unusedSimpArgs false
set_option maxRecDepth 100000
set_option maxHeartbeats 4000000
attribute [local irreducible] PW CK EK C2 rdK thK blK FK SK LK AK GK CD unK TT keK
def hasA (op : Int) : Bool := wok op || op == 22 || op == 21 || op == 23 || op == 25
def hasBb (op : Int) : Bool := wok op || op == 22
theorem hasP_all (op : Int) : hasP op 65 = hasA op ∧ hasP op 66 = hasBb op ∧ hasP op 68 = makesB op := by
  by_cases h20 : op = 20
  · subst h20; decide
  by_cases h21 : op = 21
  · subst h21; decide
  by_cases h22 : op = 22
  · subst h22; decide
  by_cases h23 : op = 23
  · subst h23; decide
  by_cases h24 : op = 24
  · subst h24; decide
  by_cases h25 : op = 25
  · subst h25; decide
  have hb : formB op = ⟨#[68, 65, 66]⟩ := by simp [formB, h20, h21, h22, h23, h24, h25]
  have hk : formK op = wok op := by simp [formK, h20, h21, h22, h23, h24, h25]
  have i1 : hasI (byI ⟨#[68, 65, 66]⟩) 65 = true := by decide
  have i2 : hasI (byI ⟨#[68, 65, 66]⟩) 66 = true := by decide
  have i3 : hasI (byI ⟨#[68, 65, 66]⟩) 68 = true := by decide
  simp [hasP, hb, hk, i1, i2, i3, hasA, hasBb, makesB, beqD, h20, h21, h22, h23, h24, h25]
theorem v_hasA (op : Int) : C2 CC F_impl_has [iv op, .fv (.int .u8 65)] (bv (hasA op)) [] := by rw [← (hasP_all op).1]; exact v_has op 65
theorem v_hasB (op : Int) : C2 CC F_impl_has [iv op, .fv (.int .u8 66)] (bv (hasBb op)) [] := by rw [← (hasP_all op).2.1]; exact v_has op 66
theorem v_hasD (op : Int) : C2 CC F_impl_has [iv op, .fv (.int .u8 68)] (bv (makesB op)) [] := by rw [← (hasP_all op).2.2]; exact v_has op 68
theorem v_isHome (n : Int) : C2 CC F_impl_isHome [iv n] (bv (homeB n)) [] := by
  refine c2_fn (MU := MU) (fn := Try.f117) (p := (prep (Try.f117.body.getD .skip)).getD .skip) (keepF Try.f117) false rfl rfl rfl (Nat.le_of_ble_eq_true rfl) (Nat.le_of_ble_eq_true rfl) rfl ?_
  conv => arg 5; cbv
  conv => arg 6; cbv
  conv => arg 8; arg 3; cbv
  repeat' first
     | (refine ck_intro (by first | exact v_in _ _ _) ?_ ?_)
     | (simp (maxSteps := 1000000) only [go_sem, Int.cast_ofNat_Int, Int.reduceLT, Int.reduceLE, Int.reduceGT, Int.reduceGE, Int.reduceEq, Int.reduceBEq, Int.reduceAdd, Int.reduceSub, Int.reduceToNat, Nat.reduceShiftRight, Nat.reduceMod, Nat.reduceLT, Nat.reduceEqDiff, Nat.reduceAdd, Nat.reduceMul, Nat.reduceLeDiff, Nat.reduceBEq, reduceIte])
     | (simp (disch := first | omega | assumption) only [wrapI, ia3_hdrN, ia3_rowN, ia3_hdrI, ia3_rowI, List.getElem?_eq_getElem, List.length_map, List.length_cons, List.length_nil])
     | (refine tt_i (fun hg => ?_) (fun hg => ?_) <;> (replace hg := tb_eq hg; (try simp only [hg]); (first | simp only [eq_true (beq_iff_eq.1 hg)] | simp only [eq_false (beq_eq_false_iff_ne.1 hg)] | simp only [eq_true (of_decide_eq_true hg)] | simp only [eq_false (of_decide_eq_false hg)] | skip); have hgo := hg; try simp only [Bool.and_eq_true, Bool.or_eq_false_iff, Bool.or_eq_true, Bool.and_eq_false_iff, Bool.not_eq_true', Bool.not_eq_false', decide_eq_true_eq, decide_eq_false_iff_not, beqT, beqF, bneT, bneF] at hgo))
     | refine ek_ret ?_
     | refine ek_norm ?_
     | (refine ⟨by omega, ?_⟩)
     | rfl
def homedJ (x : StepD) : Bool := formK x.op && (!makesB x.op || homeB x.r) && (!hasA x.op || homeB x.a) && (!hasBb x.op || homeB x.b)
theorem v_homed (x : StepD) : C2 CC F_impl_homed [sF x] (bv (homedJ x)) [] := by
  obtain ⟨op, r, a, b, n⟩ := x
  refine c2_fn (MU := MU) (fn := Try.f84) (p := (prep (Try.f84.body.getD .skip)).getD .skip) (keepF Try.f84) false rfl rfl rfl (Nat.le_of_ble_eq_true rfl) (Nat.le_of_ble_eq_true rfl) rfl ?_
  conv => arg 5; cbv
  conv => arg 6; cbv
  conv => arg 8; arg 3; cbv
  repeat' first
     | (refine ck_intro (by first | exact v_formOf _ | exact v_hasA _ | exact v_hasB _ | exact v_hasD _ | exact v_isHome _) ?_ ?_)
     | (simp (maxSteps := 1000000) only [go_sem, Int.cast_ofNat_Int, Int.reduceLT, Int.reduceLE, Int.reduceGT, Int.reduceGE, Int.reduceEq, Int.reduceBEq, Int.reduceAdd, Int.reduceSub, Int.reduceToNat, Nat.reduceShiftRight, Nat.reduceMod, Nat.reduceLT, Nat.reduceEqDiff, Nat.reduceAdd, Nat.reduceMul, Nat.reduceLeDiff, Nat.reduceBEq, reduceIte])
     | (simp (disch := first | omega | assumption) only [wrapI, ia3_hdrN, ia3_rowN, ia3_hdrI, ia3_rowI, List.getElem?_eq_getElem, List.length_map, List.length_cons, List.length_nil])
     | (refine tt_i (fun hg => ?_) (fun hg => ?_) <;> (replace hg := tb_eq hg; (try simp only [hg]); (first | simp only [eq_true (beq_iff_eq.1 hg)] | simp only [eq_false (beq_eq_false_iff_ne.1 hg)] | simp only [eq_true (of_decide_eq_true hg)] | simp only [eq_false (of_decide_eq_false hg)] | skip); have hgo := hg; try simp only [Bool.and_eq_true, Bool.or_eq_false_iff, Bool.or_eq_true, Bool.and_eq_false_iff, Bool.not_eq_true', Bool.not_eq_false', decide_eq_true_eq, decide_eq_false_iff_not, beqT, beqF, bneT, bneF] at hgo))
     | refine ek_ret ?_
     | refine ek_norm ?_
     | (refine ⟨by omega, ?_⟩)
     | rfl
  all_goals first | rfl | (simp_all [beqD, homedJ]; done) | ((try simp only [homedJ]); (repeat' split) <;> first | omega | (simp_all [beqD]; done) | (simp_all [beqD]; omega)) | (simp_all [beqD, homedJ]; (repeat' split) <;> first | rfl | omega | (simp_all; done))
theorem taken_lo (home by_ : Int) (h : home < 4) : C2 CC F_impl_taken [iv home, iv by_] (.tup [iv home, .fv .nil]) [] := by
  refine c2_fn (MU := MU) (fn := Try.f87) (p := (prep (Try.f87.body.getD .skip)).getD .skip) (keepF Try.f87) false rfl rfl rfl (Nat.le_of_ble_eq_true rfl) (Nat.le_of_ble_eq_true rfl) rfl ?_
  conv => arg 5; cbv
  conv => arg 6; cbv
  conv => arg 8; arg 3; cbv
  repeat' first
     | (simp (maxSteps := 1000000) only [go_sem, Int.cast_ofNat_Int, Int.reduceLT, Int.reduceLE, Int.reduceGT, Int.reduceGE, Int.reduceEq, Int.reduceBEq, Int.reduceAdd, Int.reduceSub, Int.reduceToNat, Nat.reduceShiftRight, Nat.reduceMod, Nat.reduceLT, Nat.reduceEqDiff, Nat.reduceAdd, Nat.reduceMul, Nat.reduceLeDiff, Nat.reduceBEq, reduceIte])
     | (simp (disch := first | omega | assumption) only [wrapI, ia3_hdrN, ia3_rowN, ia3_hdrI, ia3_rowI, List.getElem?_eq_getElem, List.length_map, List.length_cons, List.length_nil])
     | (refine tt_i (fun hg => ?_) (fun hg => ?_) <;> (replace hg := tb_eq hg; (try simp only [hg]); (first | simp only [eq_true (beq_iff_eq.1 hg)] | simp only [eq_false (beq_eq_false_iff_ne.1 hg)] | simp only [eq_true (of_decide_eq_true hg)] | simp only [eq_false (of_decide_eq_false hg)] | skip); have hgo := hg; try simp only [Bool.and_eq_true, Bool.or_eq_false_iff, Bool.or_eq_true, Bool.and_eq_false_iff, Bool.not_eq_true', Bool.not_eq_false', decide_eq_true_eq, decide_eq_false_iff_not, beqT, beqF, bneT, bneF] at hgo))
     | refine ek_ret ?_
     | refine ek_norm ?_
     | (refine ⟨by omega, ?_⟩)
     | rfl
  all_goals first | rfl | (simp_all [beqD, tkL]; done) | ((try simp only [tkL]); (repeat' split) <;> first | omega | (simp_all [beqD]; done) | (simp_all [beqD]; omega)) | (simp_all [beqD, tkL]; (repeat' split) <;> first | rfl | omega | (simp_all; done))
theorem taken_hi (home by_ : Int) (h : ¬ home < 4) (h1 : home ≤ 39) : C2 CC F_impl_taken [iv home, iv by_] (.tup [iv by_, .own 5 (steps [⟨3, by_, 0, 0, home - 4⟩])]) [] := by
  refine c2_fn (MU := MU) (fn := Try.f87) (p := (prep (Try.f87.body.getD .skip)).getD .skip) (keepF Try.f87) false rfl rfl rfl (Nat.le_of_ble_eq_true rfl) (Nat.le_of_ble_eq_true rfl) rfl ?_
  conv => arg 5; cbv
  conv => arg 6; cbv
  conv => arg 8; arg 3; cbv
  repeat' first
     | (simp (maxSteps := 1000000) only [go_sem, Int.cast_ofNat_Int, Int.reduceLT, Int.reduceLE, Int.reduceGT, Int.reduceGE, Int.reduceEq, Int.reduceBEq, Int.reduceAdd, Int.reduceSub, Int.reduceToNat, Nat.reduceShiftRight, Nat.reduceMod, Nat.reduceLT, Nat.reduceEqDiff, Nat.reduceAdd, Nat.reduceMul, Nat.reduceLeDiff, Nat.reduceBEq, reduceIte])
     | (simp (disch := first | omega | assumption) only [wrapI, ia3_hdrN, ia3_rowN, ia3_hdrI, ia3_rowI, List.getElem?_eq_getElem, List.length_map, List.length_cons, List.length_nil])
     | (refine tt_i (fun hg => ?_) (fun hg => ?_) <;> (replace hg := tb_eq hg; (try simp only [hg]); (first | simp only [eq_true (beq_iff_eq.1 hg)] | simp only [eq_false (beq_eq_false_iff_ne.1 hg)] | simp only [eq_true (of_decide_eq_true hg)] | simp only [eq_false (of_decide_eq_false hg)] | skip); have hgo := hg; try simp only [Bool.and_eq_true, Bool.or_eq_false_iff, Bool.or_eq_true, Bool.and_eq_false_iff, Bool.not_eq_true', Bool.not_eq_false', decide_eq_true_eq, decide_eq_false_iff_not, beqT, beqF, bneT, bneF] at hgo))
     | refine ek_ret ?_
     | refine ek_norm ?_
     | (refine ⟨by omega, ?_⟩)
     | rfl
  all_goals first | rfl | (simp_all [beqD, steps]; done) | ((try simp only [steps]); (repeat' split) <;> first | omega | (simp_all [beqD]; done) | (simp_all [beqD]; omega)) | (simp_all [beqD, steps]; (repeat' split) <;> first | rfl | omega | (simp_all; done))
def stepL (x : StepD) (r a b : Int) : StepD :=
  if x.op = 20 then ⟨1, r, 0, 0, x.n⟩ else if x.op = 21 then ⟨5, r, a, 0, 0⟩ else if x.op = 22 then ⟨6, 0, a, b, 0⟩
  else if x.op = 23 then ⟨7, 0, a, 0, 0⟩ else if x.op = 24 then ⟨8, r, 0, 0, 0⟩ else ⟨IntKind.wrap .i64 (x.op + 11), r, a, b, 0⟩
theorem v_stepOf (x : StepD) (r a b : Int) : C2 CC F_impl_stepOf [sF x, iv r, iv a, iv b] (sF (stepL x r a b)) [] := by
  obtain ⟨op, r0, a0, b0, n⟩ := x
  refine c2_fn (MU := MU) (fn := Try.f88) (p := (prep (Try.f88.body.getD .skip)).getD .skip) (keepF Try.f88) false rfl rfl rfl (Nat.le_of_ble_eq_true rfl) (Nat.le_of_ble_eq_true rfl) rfl ?_
  conv => arg 5; cbv
  conv => arg 6; cbv
  conv => arg 8; arg 3; cbv
  repeat' first
     | (simp (maxSteps := 1000000) only [go_sem, Int.cast_ofNat_Int, Int.reduceLT, Int.reduceLE, Int.reduceGT, Int.reduceGE, Int.reduceEq, Int.reduceBEq, Int.reduceAdd, Int.reduceSub, Int.reduceToNat, Nat.reduceShiftRight, Nat.reduceMod, Nat.reduceLT, Nat.reduceEqDiff, Nat.reduceAdd, Nat.reduceMul, Nat.reduceLeDiff, Nat.reduceBEq, reduceIte])
     | (simp (disch := first | omega | assumption) only [wrapI, ia3_hdrN, ia3_rowN, ia3_hdrI, ia3_rowI, List.getElem?_eq_getElem, List.length_map, List.length_cons, List.length_nil])
     | (refine tt_i (fun hg => ?_) (fun hg => ?_) <;> (replace hg := tb_eq hg; (try simp only [hg]); (first | simp only [eq_true (beq_iff_eq.1 hg)] | simp only [eq_false (beq_eq_false_iff_ne.1 hg)] | simp only [eq_true (of_decide_eq_true hg)] | simp only [eq_false (of_decide_eq_false hg)] | skip); have hgo := hg; try simp only [Bool.and_eq_true, Bool.or_eq_false_iff, Bool.or_eq_true, Bool.and_eq_false_iff, Bool.not_eq_true', Bool.not_eq_false', decide_eq_true_eq, decide_eq_false_iff_not, beqT, beqF, bneT, bneF] at hgo))
     | refine ek_ret ?_
     | refine ek_norm ?_
     | (refine ⟨by omega, ?_⟩)
     | rfl
  all_goals first | rfl | (simp_all [beqD, stepL]; done) | ((try simp only [stepL]); (repeat' split) <;> first | omega | (simp_all [beqD]; done) | (simp_all [beqD]; omega)) | (simp_all [beqD, stepL]; (repeat' split) <;> first | rfl | omega | (simp_all; done))
theorem v_emitCopy (x : StepD) (h1 : x.r ≤ 39) (h2 : x.a ≤ 39) : C2 CC F_impl_emitCopy [sF x] (.own 5 (steps (copyL x))) [] := by
  obtain ⟨op, r, a, b, n⟩ := x
  simp only at h1 h2
  by_cases ha : a < 4
  · refine c2_fn (MU := MU) (fn := Try.f85) (p := (prep (Try.f85.body.getD .skip)).getD .skip) (keepF Try.f85) false rfl rfl rfl (Nat.le_of_ble_eq_true rfl) (Nat.le_of_ble_eq_true rfl) rfl ?_
    conv => arg 5; cbv
    conv => arg 6; cbv
    conv => arg 8; arg 3; cbv
    repeat' first
       | (refine ck_intro (by first | exact taken_lo _ _ (by omega)) ?_ ?_)
       | (simp (maxSteps := 1000000) only [go_sem, Int.cast_ofNat_Int, Int.reduceLT, Int.reduceLE, Int.reduceGT, Int.reduceGE, Int.reduceEq, Int.reduceBEq, Int.reduceAdd, Int.reduceSub, Int.reduceToNat, Nat.reduceShiftRight, Nat.reduceMod, Nat.reduceLT, Nat.reduceEqDiff, Nat.reduceAdd, Nat.reduceMul, Nat.reduceLeDiff, Nat.reduceBEq, reduceIte, steps_len, stepsS])
       | (simp (disch := first | omega | assumption) only [wrapI, ia3_hdrN, ia3_rowN, ia3_hdrI, ia3_rowI, List.getElem?_eq_getElem, List.length_map, List.length_cons, List.length_nil, steps_len, stepsS])
       | (refine tt_i (fun hg => ?_) (fun hg => ?_) <;> (replace hg := tb_eq hg; (try simp only [hg]); (first | simp only [eq_true (beq_iff_eq.1 hg)] | simp only [eq_false (beq_eq_false_iff_ne.1 hg)] | simp only [eq_true (of_decide_eq_true hg)] | simp only [eq_false (of_decide_eq_false hg)] | skip); have hgo := hg; try simp only [Bool.and_eq_true, Bool.or_eq_false_iff, Bool.or_eq_true, Bool.and_eq_false_iff, Bool.not_eq_true', Bool.not_eq_false', decide_eq_true_eq, decide_eq_false_iff_not, beqT, beqF, bneT, bneF] at hgo))
       | refine ek_ret ?_
       | refine ek_norm ?_
       | (refine ⟨by omega, ?_⟩)
       | rfl
    all_goals first | rfl | (simp_all [beqD, copyL, steps, tkL, tkR]; done) | ((try simp only [copyL, steps, tkL, tkR]); (repeat' split) <;> first | omega | (simp_all [beqD]; done) | (simp_all [beqD]; omega)) | (simp_all [beqD, copyL, steps, tkL, tkR]; (repeat' split) <;> first | rfl | omega | (simp_all; done))
  · refine c2_fn (MU := MU) (fn := Try.f85) (p := (prep (Try.f85.body.getD .skip)).getD .skip) (keepF Try.f85) false rfl rfl rfl (Nat.le_of_ble_eq_true rfl) (Nat.le_of_ble_eq_true rfl) rfl ?_
    conv => arg 5; cbv
    conv => arg 6; cbv
    conv => arg 8; arg 3; cbv
    repeat' first
       | (refine ck_intro (by first | exact taken_hi _ _ (by omega) (by omega)) ?_ ?_)
       | (simp (maxSteps := 1000000) only [go_sem, Int.cast_ofNat_Int, Int.reduceLT, Int.reduceLE, Int.reduceGT, Int.reduceGE, Int.reduceEq, Int.reduceBEq, Int.reduceAdd, Int.reduceSub, Int.reduceToNat, Nat.reduceShiftRight, Nat.reduceMod, Nat.reduceLT, Nat.reduceEqDiff, Nat.reduceAdd, Nat.reduceMul, Nat.reduceLeDiff, Nat.reduceBEq, reduceIte, steps_len, stepsS])
       | (simp (disch := first | omega | assumption) only [wrapI, ia3_hdrN, ia3_rowN, ia3_hdrI, ia3_rowI, List.getElem?_eq_getElem, List.length_map, List.length_cons, List.length_nil, steps_len, stepsS])
       | (refine tt_i (fun hg => ?_) (fun hg => ?_) <;> (replace hg := tb_eq hg; (try simp only [hg]); (first | simp only [eq_true (beq_iff_eq.1 hg)] | simp only [eq_false (beq_eq_false_iff_ne.1 hg)] | simp only [eq_true (of_decide_eq_true hg)] | simp only [eq_false (of_decide_eq_false hg)] | skip); have hgo := hg; try simp only [Bool.and_eq_true, Bool.or_eq_false_iff, Bool.or_eq_true, Bool.and_eq_false_iff, Bool.not_eq_true', Bool.not_eq_false', decide_eq_true_eq, decide_eq_false_iff_not, beqT, beqF, bneT, bneF] at hgo))
       | refine ek_ret ?_
       | refine ek_norm ?_
       | (refine ⟨by omega, ?_⟩)
       | rfl
    all_goals first | rfl | (simp_all [beqD, copyL, steps, tkL, tkR]; done) | ((try simp only [copyL, steps, tkL, tkR]); (repeat' split) <;> first | omega | (simp_all [beqD]; done) | (simp_all [beqD]; omega)) | (simp_all [beqD, copyL, steps, tkL, tkR]; (repeat' split) <;> first | rfl | omega | (simp_all; done))
end Go.Proofs.YtbgaljpilmmefaaM

/- The program's EmitIns. -/
namespace Go.Proofs.YtbgaljpilmmefaaM
open Go
set_option linter.unusedVariables false
set_option linter.unusedSimpArgs false
set_option maxRecDepth 100000
set_option maxHeartbeats 4000000
attribute [local irreducible] PW CK EK C2 rdK thK blK FK SK LK AK GK CD unK TT keK
theorem i_none (x : StepD) (h : homedJ x = false) : C2 CC F_impl_EmitIns [sF x] (.fv .nil) [] := by
  have k := v_homed x
  rw [h] at k
  refine c2_fn (MU := MU) (fn := Try.f34) (p := (prep (Try.f34.body.getD .skip)).getD .skip) (keepF Try.f34) false rfl rfl rfl (Nat.le_of_ble_eq_true rfl) (Nat.le_of_ble_eq_true rfl) rfl ?_
  conv => arg 5; cbv
  conv => arg 6; cbv
  conv => arg 8; arg 3; cbv
  repeat' first
     | (refine ck_intro (by first | exact k) ?_ ?_)
     | (simp (maxSteps := 1000000) only [go_sem, Int.cast_ofNat_Int, Int.reduceLT, Int.reduceLE, Int.reduceGT, Int.reduceGE, Int.reduceEq, Int.reduceBEq, Int.reduceAdd, Int.reduceSub, Int.reduceToNat, Nat.reduceShiftRight, Nat.reduceMod, Nat.reduceLT, Nat.reduceEqDiff, Nat.reduceAdd, Nat.reduceMul, Nat.reduceLeDiff, Nat.reduceBEq, reduceIte])
     | (simp (disch := first | omega | assumption) only [wrapI, ia3_hdrN, ia3_rowN, ia3_hdrI, ia3_rowI, List.getElem?_eq_getElem, List.length_map, List.length_cons, List.length_nil])
     | (refine tt_i (fun hg => ?_) (fun hg => ?_) <;> (replace hg := tb_eq hg; (try simp only [hg]); (first | simp only [eq_true (beq_iff_eq.1 hg)] | simp only [eq_false (beq_eq_false_iff_ne.1 hg)] | simp only [eq_true (of_decide_eq_true hg)] | simp only [eq_false (of_decide_eq_false hg)] | skip); have hgo := hg; try simp only [Bool.and_eq_true, Bool.or_eq_false_iff, Bool.or_eq_true, Bool.and_eq_false_iff, Bool.not_eq_true', Bool.not_eq_false', decide_eq_true_eq, decide_eq_false_iff_not, beqT, beqF, bneT, bneF] at hgo))
     | refine ek_ret ?_
     | refine ek_norm ?_
     | (refine ⟨by omega, ?_⟩)
     | rfl
theorem i_copy (r a b n : Int) (hr : homeB r = true) (ha : homeB a = true) : C2 CC F_impl_EmitIns [sF ⟨25, r, a, b, n⟩] (.own 5 (steps (emitL ⟨25, r, a, b, n⟩))) [] := by
  have k := v_homed ⟨25, r, a, b, n⟩
  have hk : homedJ ⟨25, r, a, b, n⟩ = true := by simp [homedJ, hr, ha, hasBb, wok, formK]
  rw [hk] at k
  have he : emitL ⟨25, r, a, b, n⟩ = copyL ⟨25, r, a, b, n⟩ := by simp [emitL, homedB, usesL, makesB, wok, hr, ha]
  rw [he]
  refine c2_fn (MU := MU) (fn := Try.f34) (p := (prep (Try.f34.body.getD .skip)).getD .skip) (keepF Try.f34) false rfl rfl rfl (Nat.le_of_ble_eq_true rfl) (Nat.le_of_ble_eq_true rfl) rfl ?_
  conv => arg 5; cbv
  conv => arg 6; cbv
  conv => arg 8; arg 3; cbv
  repeat' first
     | (refine ck_intro (by first | exact k | exact v_emitCopy ⟨25, r, a, b, n⟩ (homeB_le hr) (homeB_le ha)) ?_ ?_)
     | (simp (maxSteps := 1000000) only [go_sem, Int.cast_ofNat_Int, Int.reduceLT, Int.reduceLE, Int.reduceGT, Int.reduceGE, Int.reduceEq, Int.reduceBEq, Int.reduceAdd, Int.reduceSub, Int.reduceToNat, Nat.reduceShiftRight, Nat.reduceMod, Nat.reduceLT, Nat.reduceEqDiff, Nat.reduceAdd, Nat.reduceMul, Nat.reduceLeDiff, Nat.reduceBEq, reduceIte])
     | (simp (disch := first | omega | assumption) only [wrapI, ia3_hdrN, ia3_rowN, ia3_hdrI, ia3_rowI, List.getElem?_eq_getElem, List.length_map, List.length_cons, List.length_nil])
     | (refine tt_i (fun hg => ?_) (fun hg => ?_) <;> (replace hg := tb_eq hg; (try simp only [hg]); (first | simp only [eq_true (beq_iff_eq.1 hg)] | simp only [eq_false (beq_eq_false_iff_ne.1 hg)] | simp only [eq_true (of_decide_eq_true hg)] | simp only [eq_false (of_decide_eq_false hg)] | skip); have hgo := hg; try simp only [Bool.and_eq_true, Bool.or_eq_false_iff, Bool.or_eq_true, Bool.and_eq_false_iff, Bool.not_eq_true', Bool.not_eq_false', decide_eq_true_eq, decide_eq_false_iff_not, beqT, beqF, bneT, bneF] at hgo))
     | refine ek_ret ?_
     | refine ek_norm ?_
     | (refine ⟨by omega, ?_⟩)
     | rfl
theorem i_const (r a b n : Int) (hr : homeB r = true) : C2 CC F_impl_EmitIns [sF ⟨20, r, a, b, n⟩] (.own 5 (steps (emitL ⟨20, r, a, b, n⟩))) [] := by
  have k := v_homed ⟨20, r, a, b, n⟩
  have hk : homedJ ⟨20, r, a, b, n⟩ = true := by simp [homedJ, hr, hasA, hasBb, wok, formK]
  rw [hk] at k
  have r1 := homeB_le hr
  have hA : hasA 20 = false := by decide
  have hB : hasBb 20 = false := by decide
  have hD : makesB 20 = true := by decide
  refine c2_fn (MU := MU) (fn := Try.f34) (p := (prep (Try.f34.body.getD .skip)).getD .skip) (keepF Try.f34) false rfl rfl rfl (Nat.le_of_ble_eq_true rfl) (Nat.le_of_ble_eq_true rfl) rfl ?_
  conv => arg 5; cbv
  conv => arg 6; cbv
  conv => arg 8; arg 3; cbv
  repeat' first
     | (refine ck_intro (by first | exact k | exact v_hasA _ | exact v_hasB _ | exact v_hasD _ | exact v_stepOf ⟨20, r, a, b, n⟩ _ _ _) ?_ ?_)
     | (simp (maxSteps := 1000000) only [go_sem, Int.cast_ofNat_Int, Int.reduceLT, Int.reduceLE, Int.reduceGT, Int.reduceGE, Int.reduceEq, Int.reduceBEq, Int.reduceAdd, Int.reduceSub, Int.reduceToNat, Nat.reduceShiftRight, Nat.reduceMod, Nat.reduceLT, Nat.reduceEqDiff, Nat.reduceAdd, Nat.reduceMul, Nat.reduceLeDiff, Nat.reduceBEq, reduceIte, hA, hB, hD])
     | (simp (disch := first | omega | assumption) only [wrapI, ia3_hdrN, ia3_rowN, ia3_hdrI, ia3_rowI, List.getElem?_eq_getElem, List.length_map, List.length_cons, List.length_nil, hA, hB, hD])
     | (refine tt_i (fun hg => ?_) (fun hg => ?_) <;> (replace hg := tb_eq hg; (try simp only [hg]); (first | simp only [eq_true (beq_iff_eq.1 hg)] | simp only [eq_false (beq_eq_false_iff_ne.1 hg)] | simp only [eq_true (of_decide_eq_true hg)] | simp only [eq_false (of_decide_eq_false hg)] | skip); have hgo := hg; try simp only [Bool.and_eq_true, Bool.or_eq_false_iff, Bool.or_eq_true, Bool.and_eq_false_iff, Bool.not_eq_true', Bool.not_eq_false', decide_eq_true_eq, decide_eq_false_iff_not, beqT, beqF, bneT, bneF] at hgo))
     | refine ek_ret ?_
     | refine ek_norm ?_
     | (refine ⟨by omega, ?_⟩)
     | rfl
  all_goals first | rfl | (simp_all [beqD, emitL, homedB, usesL, makesB, wok, takenL, regA, regB, giveL, stepL, steps]; done) | ((try simp only [emitL, homedB, usesL, makesB, wok, takenL, regA, regB, giveL, stepL, steps]); (repeat' split) <;> first | omega | (simp_all [beqD]; done) | (simp_all [beqD]; omega)) | (simp_all [beqD, emitL, homedB, usesL, makesB, wok, takenL, regA, regB, giveL, stepL, steps]; (repeat' split) <;> first | rfl | omega | (simp_all; done))
theorem i_read (r a b n : Int) (hr : homeB r = true) : C2 CC F_impl_EmitIns [sF ⟨24, r, a, b, n⟩] (.own 5 (steps (emitL ⟨24, r, a, b, n⟩))) [] := by
  have k := v_homed ⟨24, r, a, b, n⟩
  have hk : homedJ ⟨24, r, a, b, n⟩ = true := by simp [homedJ, hr, hasA, hasBb, wok, formK]
  rw [hk] at k
  have r1 := homeB_le hr
  have hA : hasA 24 = false := by decide
  have hB : hasBb 24 = false := by decide
  have hD : makesB 24 = true := by decide
  refine c2_fn (MU := MU) (fn := Try.f34) (p := (prep (Try.f34.body.getD .skip)).getD .skip) (keepF Try.f34) false rfl rfl rfl (Nat.le_of_ble_eq_true rfl) (Nat.le_of_ble_eq_true rfl) rfl ?_
  conv => arg 5; cbv
  conv => arg 6; cbv
  conv => arg 8; arg 3; cbv
  repeat' first
     | (refine ck_intro (by first | exact k | exact v_hasA _ | exact v_hasB _ | exact v_hasD _ | exact v_stepOf ⟨24, r, a, b, n⟩ _ _ _) ?_ ?_)
     | (simp (maxSteps := 1000000) only [go_sem, Int.cast_ofNat_Int, Int.reduceLT, Int.reduceLE, Int.reduceGT, Int.reduceGE, Int.reduceEq, Int.reduceBEq, Int.reduceAdd, Int.reduceSub, Int.reduceToNat, Nat.reduceShiftRight, Nat.reduceMod, Nat.reduceLT, Nat.reduceEqDiff, Nat.reduceAdd, Nat.reduceMul, Nat.reduceLeDiff, Nat.reduceBEq, reduceIte, hA, hB, hD])
     | (simp (disch := first | omega | assumption) only [wrapI, ia3_hdrN, ia3_rowN, ia3_hdrI, ia3_rowI, List.getElem?_eq_getElem, List.length_map, List.length_cons, List.length_nil, hA, hB, hD])
     | (refine tt_i (fun hg => ?_) (fun hg => ?_) <;> (replace hg := tb_eq hg; (try simp only [hg]); (first | simp only [eq_true (beq_iff_eq.1 hg)] | simp only [eq_false (beq_eq_false_iff_ne.1 hg)] | simp only [eq_true (of_decide_eq_true hg)] | simp only [eq_false (of_decide_eq_false hg)] | skip); have hgo := hg; try simp only [Bool.and_eq_true, Bool.or_eq_false_iff, Bool.or_eq_true, Bool.and_eq_false_iff, Bool.not_eq_true', Bool.not_eq_false', decide_eq_true_eq, decide_eq_false_iff_not, beqT, beqF, bneT, bneF] at hgo))
     | refine ek_ret ?_
     | refine ek_norm ?_
     | (refine ⟨by omega, ?_⟩)
     | rfl
  all_goals first | rfl | (simp_all [beqD, emitL, homedB, usesL, makesB, wok, takenL, regA, regB, giveL, stepL, steps]; done) | ((try simp only [emitL, homedB, usesL, makesB, wok, takenL, regA, regB, giveL, stepL, steps]); (repeat' split) <;> first | omega | (simp_all [beqD]; done) | (simp_all [beqD]; omega)) | (simp_all [beqD, emitL, homedB, usesL, makesB, wok, takenL, regA, regB, giveL, stepL, steps]; (repeat' split) <;> first | rfl | omega | (simp_all; done))
theorem i_out (r a b n : Int) (ha : homeB a = true) : C2 CC F_impl_EmitIns [sF ⟨23, r, a, b, n⟩] (.own 5 (steps (emitL ⟨23, r, a, b, n⟩))) [] := by
  have k := v_homed ⟨23, r, a, b, n⟩
  have hk : homedJ ⟨23, r, a, b, n⟩ = true := by simp [homedJ, ha, makesB, hasBb, wok, formK]
  rw [hk] at k
  have a1 := homeB_le ha
  have hA : hasA 23 = true := by decide
  have hB : hasBb 23 = false := by decide
  have hD : makesB 23 = false := by decide
  by_cases ca : a < 4
  all_goals
    refine c2_fn (MU := MU) (fn := Try.f34) (p := (prep (Try.f34.body.getD .skip)).getD .skip) (keepF Try.f34) false rfl rfl rfl (Nat.le_of_ble_eq_true rfl) (Nat.le_of_ble_eq_true rfl) rfl ?_
    conv => arg 5; cbv
    conv => arg 6; cbv
    conv => arg 8; arg 3; cbv
    repeat' first
       | (refine ck_intro (by first | exact k | exact v_hasA _ | exact v_hasB _ | exact v_hasD _ | exact v_stepOf ⟨23, r, a, b, n⟩ _ _ _ | exact taken_lo _ _ (by omega) | exact taken_hi _ _ (by omega) (by omega)) ?_ ?_)
       | (simp (maxSteps := 1000000) only [go_sem, Int.cast_ofNat_Int, Int.reduceLT, Int.reduceLE, Int.reduceGT, Int.reduceGE, Int.reduceEq, Int.reduceBEq, Int.reduceAdd, Int.reduceSub, Int.reduceToNat, Nat.reduceShiftRight, Nat.reduceMod, Nat.reduceLT, Nat.reduceEqDiff, Nat.reduceAdd, Nat.reduceMul, Nat.reduceLeDiff, Nat.reduceBEq, reduceIte, hA, hB, hD])
       | (simp (disch := first | omega | assumption) only [wrapI, ia3_hdrN, ia3_rowN, ia3_hdrI, ia3_rowI, List.getElem?_eq_getElem, List.length_map, List.length_cons, List.length_nil, hA, hB, hD])
       | (refine tt_i (fun hg => ?_) (fun hg => ?_) <;> (replace hg := tb_eq hg; (try simp only [hg]); (first | simp only [eq_true (beq_iff_eq.1 hg)] | simp only [eq_false (beq_eq_false_iff_ne.1 hg)] | simp only [eq_true (of_decide_eq_true hg)] | simp only [eq_false (of_decide_eq_false hg)] | skip); have hgo := hg; try simp only [Bool.and_eq_true, Bool.or_eq_false_iff, Bool.or_eq_true, Bool.and_eq_false_iff, Bool.not_eq_true', Bool.not_eq_false', decide_eq_true_eq, decide_eq_false_iff_not, beqT, beqF, bneT, bneF] at hgo))
       | refine ek_ret ?_
       | refine ek_norm ?_
       | (refine ⟨by omega, ?_⟩)
       | rfl
    all_goals first | rfl | (simp_all [beqD, emitL, homedB, usesL, makesB, wok, takenL, regA, regB, giveL, stepL, steps, tkL, tkR]; done) | ((try simp only [emitL, homedB, usesL, makesB, wok, takenL, regA, regB, giveL, stepL, steps, tkL, tkR]); (repeat' split) <;> first | omega | (simp_all [beqD]; done) | (simp_all [beqD]; omega)) | (simp_all [beqD, emitL, homedB, usesL, makesB, wok, takenL, regA, regB, giveL, stepL, steps, tkL, tkR]; (repeat' split) <;> first | rfl | omega | (simp_all; done))
theorem i_load (r a b n : Int) (hr : homeB r = true) (ha : homeB a = true) : C2 CC F_impl_EmitIns [sF ⟨21, r, a, b, n⟩] (.own 5 (steps (emitL ⟨21, r, a, b, n⟩))) [] := by
  have k := v_homed ⟨21, r, a, b, n⟩
  have hk : homedJ ⟨21, r, a, b, n⟩ = true := by simp [homedJ, hr, ha, hasBb, wok, formK]
  rw [hk] at k
  have r1 := homeB_le hr
  have a1 := homeB_le ha
  have hA : hasA 21 = true := by decide
  have hB : hasBb 21 = false := by decide
  have hD : makesB 21 = true := by decide
  by_cases ca : a < 4
  all_goals
    refine c2_fn (MU := MU) (fn := Try.f34) (p := (prep (Try.f34.body.getD .skip)).getD .skip) (keepF Try.f34) false rfl rfl rfl (Nat.le_of_ble_eq_true rfl) (Nat.le_of_ble_eq_true rfl) rfl ?_
    conv => arg 5; cbv
    conv => arg 6; cbv
    conv => arg 8; arg 3; cbv
    repeat' first
       | (refine ck_intro (by first | exact k | exact v_hasA _ | exact v_hasB _ | exact v_hasD _ | exact v_stepOf ⟨21, r, a, b, n⟩ _ _ _ | exact taken_lo _ _ (by omega) | exact taken_hi _ _ (by omega) (by omega)) ?_ ?_)
       | (simp (maxSteps := 1000000) only [go_sem, Int.cast_ofNat_Int, Int.reduceLT, Int.reduceLE, Int.reduceGT, Int.reduceGE, Int.reduceEq, Int.reduceBEq, Int.reduceAdd, Int.reduceSub, Int.reduceToNat, Nat.reduceShiftRight, Nat.reduceMod, Nat.reduceLT, Nat.reduceEqDiff, Nat.reduceAdd, Nat.reduceMul, Nat.reduceLeDiff, Nat.reduceBEq, reduceIte, hA, hB, hD])
       | (simp (disch := first | omega | assumption) only [wrapI, ia3_hdrN, ia3_rowN, ia3_hdrI, ia3_rowI, List.getElem?_eq_getElem, List.length_map, List.length_cons, List.length_nil, hA, hB, hD])
       | (refine tt_i (fun hg => ?_) (fun hg => ?_) <;> (replace hg := tb_eq hg; (try simp only [hg]); (first | simp only [eq_true (beq_iff_eq.1 hg)] | simp only [eq_false (beq_eq_false_iff_ne.1 hg)] | simp only [eq_true (of_decide_eq_true hg)] | simp only [eq_false (of_decide_eq_false hg)] | skip); have hgo := hg; try simp only [Bool.and_eq_true, Bool.or_eq_false_iff, Bool.or_eq_true, Bool.and_eq_false_iff, Bool.not_eq_true', Bool.not_eq_false', decide_eq_true_eq, decide_eq_false_iff_not, beqT, beqF, bneT, bneF] at hgo))
       | refine ek_ret ?_
       | refine ek_norm ?_
       | (refine ⟨by omega, ?_⟩)
       | rfl
    all_goals first | rfl | (simp_all [beqD, emitL, homedB, usesL, makesB, wok, takenL, regA, regB, giveL, stepL, steps, tkL, tkR]; done) | ((try simp only [emitL, homedB, usesL, makesB, wok, takenL, regA, regB, giveL, stepL, steps, tkL, tkR]); (repeat' split) <;> first | omega | (simp_all [beqD]; done) | (simp_all [beqD]; omega)) | (simp_all [beqD, emitL, homedB, usesL, makesB, wok, takenL, regA, regB, giveL, stepL, steps, tkL, tkR]; (repeat' split) <;> first | rfl | omega | (simp_all; done))
end Go.Proofs.YtbgaljpilmmefaaM

/- The program's EmitIns, of two. -/
namespace Go.Proofs.YtbgaljpilmmefaaM
open Go
set_option linter.unusedVariables false
set_option linter.unusedSimpArgs false
set_option maxRecDepth 100000
set_option maxHeartbeats 4000000
attribute [local irreducible] PW CK EK C2 rdK thK blK FK SK LK AK GK CD unK TT keK
theorem i_store (r a b n : Int) (ha : homeB a = true) (hb : homeB b = true) : C2 CC F_impl_EmitIns [sF ⟨22, r, a, b, n⟩] (.own 5 (steps (emitL ⟨22, r, a, b, n⟩))) [] := by
  have k := v_homed ⟨22, r, a, b, n⟩
  have hk : homedJ ⟨22, r, a, b, n⟩ = true := by simp [homedJ, ha, hb, makesB, wok, formK]
  rw [hk] at k
  have a1 := homeB_le ha
  have b1 := homeB_le hb
  have hA : hasA 22 = true := by decide
  have hB : hasBb 22 = true := by decide
  have hD : makesB 22 = false := by decide
  by_cases ca : a < 4 <;> by_cases cb : b < 4
  all_goals
    refine c2_fn (MU := MU) (fn := Try.f34) (p := (prep (Try.f34.body.getD .skip)).getD .skip) (keepF Try.f34) false rfl rfl rfl (Nat.le_of_ble_eq_true rfl) (Nat.le_of_ble_eq_true rfl) rfl ?_
    conv => arg 5; cbv
    conv => arg 6; cbv
    conv => arg 8; arg 3; cbv
    repeat' first
       | (refine ck_intro (by first | exact k | exact v_hasA _ | exact v_hasB _ | exact v_hasD _ | exact v_stepOf ⟨22, r, a, b, n⟩ _ _ _ | exact taken_lo _ _ (by omega) | exact taken_hi _ _ (by omega) (by omega)) ?_ ?_)
       | (simp (maxSteps := 1000000) only [go_sem, Int.cast_ofNat_Int, Int.reduceLT, Int.reduceLE, Int.reduceGT, Int.reduceGE, Int.reduceEq, Int.reduceBEq, Int.reduceAdd, Int.reduceSub, Int.reduceToNat, Nat.reduceShiftRight, Nat.reduceMod, Nat.reduceLT, Nat.reduceEqDiff, Nat.reduceAdd, Nat.reduceMul, Nat.reduceLeDiff, Nat.reduceBEq, reduceIte, hA, hB, hD])
       | (simp (disch := first | omega | assumption) only [wrapI, ia3_hdrN, ia3_rowN, ia3_hdrI, ia3_rowI, List.getElem?_eq_getElem, List.length_map, List.length_cons, List.length_nil, hA, hB, hD])
       | (refine tt_i (fun hg => ?_) (fun hg => ?_) <;> (replace hg := tb_eq hg; (try simp only [hg]); (first | simp only [eq_true (beq_iff_eq.1 hg)] | simp only [eq_false (beq_eq_false_iff_ne.1 hg)] | simp only [eq_true (of_decide_eq_true hg)] | simp only [eq_false (of_decide_eq_false hg)] | skip); have hgo := hg; try simp only [Bool.and_eq_true, Bool.or_eq_false_iff, Bool.or_eq_true, Bool.and_eq_false_iff, Bool.not_eq_true', Bool.not_eq_false', decide_eq_true_eq, decide_eq_false_iff_not, beqT, beqF, bneT, bneF] at hgo))
       | refine ek_ret ?_
       | refine ek_norm ?_
       | (refine ⟨by omega, ?_⟩)
       | rfl
    all_goals first | rfl | (simp_all [beqD, emitL, homedB, usesL, makesB, wok, takenL, regA, regB, giveL, stepL, steps, tkL, tkR]; done) | ((try simp only [emitL, homedB, usesL, makesB, wok, takenL, regA, regB, giveL, stepL, steps, tkL, tkR]); (repeat' split) <;> first | omega | (simp_all [beqD]; done) | (simp_all [beqD]; omega)) | (simp_all [beqD, emitL, homedB, usesL, makesB, wok, takenL, regA, regB, giveL, stepL, steps, tkL, tkR]; (repeat' split) <;> first | rfl | omega | (simp_all; done))
theorem i_word (op r a b n : Int) (hw : wok op = true) (hr : homeB r = true) (ha : homeB a = true) (hb : homeB b = true) : C2 CC F_impl_EmitIns [sF ⟨op, r, a, b, n⟩] (.own 5 (steps (emitL ⟨op, r, a, b, n⟩))) [] := by
  have k := v_homed ⟨op, r, a, b, n⟩
  have hop := wok_range hw
  have hA : hasA op = true := by simp [hasA, hw]
  have hB : hasBb op = true := by simp [hasBb, hw]
  have hD : makesB op = true := by simp [makesB, hw]
  have e20 : ¬ op = 20 := by omega
  have e21 : ¬ op = 21 := by omega
  have e22 : ¬ op = 22 := by omega
  have e23 : ¬ op = 23 := by omega
  have e24 : ¬ op = 24 := by omega
  have e25 : ¬ op = 25 := by omega
  have hf : formK op = true := by simp [formK, hw, e20, e21, e22, e23, e24, e25]
  have hk : homedJ ⟨op, r, a, b, n⟩ = true := by simp [homedJ, hr, ha, hb, hf]
  rw [hk] at k
  have d25 : (op == 25) = false := by simp [e25]
  have r1 := homeB_le hr
  have a1 := homeB_le ha
  have b1 := homeB_le hb
  have hs : ∀ r' a' b', stepL ⟨op, r, a, b, n⟩ r' a' b' = ⟨11 + op, r', a', b', 0⟩ := by
    intro r' a' b'
    simp only [stepL, if_neg e20, if_neg e21, if_neg e22, if_neg e23, if_neg e24]
    rw [wrapI (by omega) (by omega), Int.add_comm]
  have he : emitL ⟨op, r, a, b, n⟩ = giveL (tkL a 4 ++ tkL b 5) ⟨11 + op, 0, tkR a 4, tkR b 5, 0⟩ r := by simp [emitL, homedB, usesL, takenL, regA, regB, hw, hD, hr, ha, hb, e20, e21, e22, e23, e24, e25]
  rw [he]
  clear he
  by_cases ca : a < 4 <;> by_cases cb : b < 4
  all_goals
    refine c2_fn (MU := MU) (fn := Try.f34) (p := (prep (Try.f34.body.getD .skip)).getD .skip) (keepF Try.f34) false rfl rfl rfl (Nat.le_of_ble_eq_true rfl) (Nat.le_of_ble_eq_true rfl) rfl ?_
    conv => arg 5; cbv
    conv => arg 6; cbv
    conv => arg 8; arg 3; cbv
    repeat' first
       | (refine ck_intro (by first | exact k | exact v_hasA _ | exact v_hasB _ | exact v_hasD _ | exact v_stepOf ⟨op, r, a, b, n⟩ _ _ _ | exact taken_lo _ _ (by omega) | exact taken_hi _ _ (by omega) (by omega)) ?_ ?_)
       | (simp (maxSteps := 1000000) only [go_sem, Int.cast_ofNat_Int, Int.reduceLT, Int.reduceLE, Int.reduceGT, Int.reduceGE, Int.reduceEq, Int.reduceBEq, Int.reduceAdd, Int.reduceSub, Int.reduceToNat, Nat.reduceShiftRight, Nat.reduceMod, Nat.reduceLT, Nat.reduceEqDiff, Nat.reduceAdd, Nat.reduceMul, Nat.reduceLeDiff, Nat.reduceBEq, reduceIte, hA, hB, hD, d25])
       | (simp (disch := first | omega | assumption) only [wrapI, ia3_hdrN, ia3_rowN, ia3_hdrI, ia3_rowI, List.getElem?_eq_getElem, List.length_map, List.length_cons, List.length_nil, hA, hB, hD, d25])
       | (refine tt_i (fun hg => ?_) (fun hg => ?_) <;> (replace hg := tb_eq hg; (try simp only [hg]); (first | simp only [eq_true (beq_iff_eq.1 hg)] | simp only [eq_false (beq_eq_false_iff_ne.1 hg)] | simp only [eq_true (of_decide_eq_true hg)] | simp only [eq_false (of_decide_eq_false hg)] | skip); have hgo := hg; try simp only [Bool.and_eq_true, Bool.or_eq_false_iff, Bool.or_eq_true, Bool.and_eq_false_iff, Bool.not_eq_true', Bool.not_eq_false', decide_eq_true_eq, decide_eq_false_iff_not, beqT, beqF, bneT, bneF] at hgo))
       | refine ek_ret ?_
       | refine ek_norm ?_
       | (refine ⟨by omega, ?_⟩)
       | rfl
    all_goals first | rfl | (simp_all [beqD, giveL, steps, tkL, tkR]; done) | ((try simp only [giveL, steps, tkL, tkR]); (repeat' split) <;> first | omega | (simp_all [beqD]; done) | (simp_all [beqD]; omega)) | (simp_all [beqD, giveL, steps, tkL, tkR]; (repeat' split) <;> first | rfl | omega | (simp_all; done))
theorem i_EmitIns (x : StepD) : C2 CC F_impl_EmitIns [sF x] (if homedJ x = true then .own 5 (steps (emitL x)) else .fv .nil) [] := by
  split
  · rename_i h
    obtain ⟨op, r, a, b, n⟩ := x
    simp only [homedJ, Bool.and_eq_true, Bool.or_eq_true, Bool.not_eq_true'] at h
    obtain ⟨⟨⟨h1, h2⟩, h3⟩, h4⟩ := h
    by_cases e20 : op = 20
    · subst e20; exact i_const r a b n (h2.resolve_left (by decide))
    by_cases e21 : op = 21
    · subst e21; exact i_load r a b n (h2.resolve_left (by decide)) (h3.resolve_left (by decide))
    by_cases e22 : op = 22
    · subst e22; exact i_store r a b n (h3.resolve_left (by decide)) (h4.resolve_left (by decide))
    by_cases e23 : op = 23
    · subst e23; exact i_out r a b n (h3.resolve_left (by decide))
    by_cases e24 : op = 24
    · subst e24; exact i_read r a b n (h2.resolve_left (by decide))
    by_cases e25 : op = 25
    · subst e25; exact i_copy r a b n (h2.resolve_left (by decide)) (h3.resolve_left (by decide))
    have hw : wok op = true := by simpa [formK, e20, e21, e22, e23, e24, e25] using h1
    exact i_word op r a b n hw (h2.resolve_left (by simp [makesB, hw])) (h3.resolve_left (by simp [hasA, hw])) (h4.resolve_left (by simp [hasBb, hw]))
  · rename_i h
    exact i_none x (by simpa using h)
end Go.Proofs.YtbgaljpilmmefaaM

/- The laws' words on steps. -/
namespace Go.Proofs.YtbgaljpilmmefaaM
open Go
set_option linter.unusedVariables false
set_option linter.unusedSimpArgs false
set_option maxRecDepth 100000
set_option maxHeartbeats 4000000
attribute [local irreducible] PW CK EK C2 rdK thK blK FK SK LK AK GK CD unK TT keK
abbrev stR (l : List StepD) : FV := .row 5 (l.map stF)
theorem v_toIns (x : StepD) : C2 CC F_laws_toIns [sF x] (sF x) [] := by
  obtain ⟨op, r, a, b, n⟩ := x
  refine c2_fn (MU := MU) (fn := Try.f33) (p := (prep (Try.f33.body.getD .skip)).getD .skip) (keepF Try.f33) false rfl rfl rfl (Nat.le_of_ble_eq_true rfl) (Nat.le_of_ble_eq_true rfl) rfl ?_
  conv => arg 5; cbv
  conv => arg 6; cbv
  conv => arg 8; arg 3; cbv
  repeat' first
     | (simp (maxSteps := 1000000) only [go_sem, Int.cast_ofNat_Int, Int.reduceLT, Int.reduceLE, Int.reduceGT, Int.reduceGE, Int.reduceEq, Int.reduceBEq, Int.reduceAdd, Int.reduceSub, Int.reduceToNat, Nat.reduceShiftRight, Nat.reduceMod, Nat.reduceLT, Nat.reduceEqDiff, Nat.reduceAdd, Nat.reduceMul, Nat.reduceLeDiff, Nat.reduceBEq, reduceIte])
     | (simp (disch := first | omega | assumption) only [wrapI, ia3_hdrN, ia3_rowN, ia3_hdrI, ia3_rowI, List.getElem?_eq_getElem, List.length_map, List.length_cons, List.length_nil])
     | (refine tt_i (fun hg => ?_) (fun hg => ?_) <;> (replace hg := tb_eq hg; (try simp only [hg]); (first | simp only [eq_true (beq_iff_eq.1 hg)] | simp only [eq_false (beq_eq_false_iff_ne.1 hg)] | simp only [eq_true (of_decide_eq_true hg)] | simp only [eq_false (of_decide_eq_false hg)] | skip); have hgo := hg; try simp only [Bool.and_eq_true, Bool.or_eq_false_iff, Bool.or_eq_true, Bool.and_eq_false_iff, Bool.not_eq_true', Bool.not_eq_false', decide_eq_true_eq, decide_eq_false_iff_not, beqT, beqF, bneT, bneF] at hgo))
     | refine ek_ret ?_
     | refine ek_norm ?_
     | (refine ⟨by omega, ?_⟩)
     | rfl
theorem v_eqStep (x y : StepD) : C2 CC F_laws_eqStep [sF x, sF y] (bv (decide (x = y))) [] := by
  obtain ⟨op, r, a, b, n⟩ := x
  obtain ⟨op', r', a', b', n'⟩ := y
  have hd : decide ((⟨op, r, a, b, n⟩ : StepD) = ⟨op', r', a', b', n'⟩) = (decide (op = op') && decide (r = r') && decide (a = a') && decide (b = b') && decide (n = n')) := by
    rw [Bool.eq_iff_iff]; simp; simp only [and_assoc]
  rw [hd]
  refine c2_fn (MU := MU) (fn := Try.f76) (p := (prep (Try.f76.body.getD .skip)).getD .skip) (keepF Try.f76) false rfl rfl rfl (Nat.le_of_ble_eq_true rfl) (Nat.le_of_ble_eq_true rfl) rfl ?_
  conv => arg 5; cbv
  conv => arg 6; cbv
  conv => arg 8; arg 3; cbv
  repeat' first
     | (simp (maxSteps := 1000000) only [go_sem, Int.cast_ofNat_Int, Int.reduceLT, Int.reduceLE, Int.reduceGT, Int.reduceGE, Int.reduceEq, Int.reduceBEq, Int.reduceAdd, Int.reduceSub, Int.reduceToNat, Nat.reduceShiftRight, Nat.reduceMod, Nat.reduceLT, Nat.reduceEqDiff, Nat.reduceAdd, Nat.reduceMul, Nat.reduceLeDiff, Nat.reduceBEq, reduceIte])
     | (simp (disch := first | omega | assumption) only [wrapI, ia3_hdrN, ia3_rowN, ia3_hdrI, ia3_rowI, List.getElem?_eq_getElem, List.length_map, List.length_cons, List.length_nil])
     | (refine tt_i (fun hg => ?_) (fun hg => ?_) <;> (replace hg := tb_eq hg; (try simp only [hg]); (first | simp only [eq_true (beq_iff_eq.1 hg)] | simp only [eq_false (beq_eq_false_iff_ne.1 hg)] | simp only [eq_true (of_decide_eq_true hg)] | simp only [eq_false (of_decide_eq_false hg)] | skip); have hgo := hg; try simp only [Bool.and_eq_true, Bool.or_eq_false_iff, Bool.or_eq_true, Bool.and_eq_false_iff, Bool.not_eq_true', Bool.not_eq_false', decide_eq_true_eq, decide_eq_false_iff_not, beqT, beqF, bneT, bneF] at hgo))
     | refine ek_ret ?_
     | refine ek_norm ?_
     | (refine ⟨by omega, ?_⟩)
     | rfl
  all_goals first | rfl | (simp_all [beqD, bneT, bneF]; done) | ((try simp only [bneT, bneF]); (repeat' split) <;> first | omega | (simp_all [beqD]; done) | (simp_all [beqD]; omega)) | (simp_all [beqD, bneT, bneF]; (repeat' split) <;> first | rfl | omega | (simp_all; done))
end Go.Proofs.YtbgaljpilmmefaaM

/- Rows of steps: compared, looked through. -/
namespace Go.Proofs.YtbgaljpilmmefaaM
open Go
set_option linter.unusedVariables false
set_option linter.unusedSimpArgs false
set_option maxRecDepth 100000
set_option maxHeartbeats 4000000
attribute [local irreducible] PW CK EK C2 rdK thK blK FK SK LK AK GK CD unK TT keK
theorem list_ne {α : Type} {l1 l2 : List α} {j : Nat} (h1 : j < l1.length) (h2 : j < l2.length) (h : l1[j] ≠ l2[j]) : l1 ≠ l2 := fun e => by subst e; exact h rfl
theorem v_eqStepS (l1 l2 : List StepD) (hn1 : l1.length < 1073741824) (hn2 : l2.length < 1073741824) : C2 CC F_laws_eqStepS [.fv (stR l1), .fv (stR l2)] (bv (decide (l1 = l2))) [] := by
  refine c2_fn (MU := MU) (fn := Try.f28) (p := (prep (Try.f28.body.getD .skip)).getD .skip) (keepF Try.f28) false rfl rfl rfl (Nat.le_of_ble_eq_true rfl) (Nat.le_of_ble_eq_true rfl) rfl ?_
  conv => arg 5; cbv
  conv => arg 6; cbv
  conv => arg 8; arg 3; cbv
  repeat' first
     | (refine pw_draw2 [0, 0, 3, 7, 0, 0, 48, 112, 255, 511] [0, 0, 0, 1, 0, 0, 0, 1, 5, 0] false (by kernel_rfl) ?_; conv => arg 6; cbv)
     | (simp (maxSteps := 1000000) only [go_sem, Int.cast_ofNat_Int, Int.reduceLT, Int.reduceLE, Int.reduceGT, Int.reduceGE, Int.reduceEq, Int.reduceBEq, Int.reduceAdd, Int.reduceSub, Int.reduceToNat, Nat.reduceShiftRight, Nat.reduceMod, Nat.reduceLT, Nat.reduceEqDiff, Nat.reduceAdd, Nat.reduceMul, Nat.reduceLeDiff, Nat.reduceBEq, reduceIte])
     | (simp (disch := first | omega | assumption) only [wrapI, ia3_hdrN, ia3_rowN, ia3_hdrI, ia3_rowI, List.getElem?_eq_getElem, List.length_map, List.length_cons, List.length_nil])
     | (refine tt_i (fun hg => ?_) (fun hg => ?_) <;> (replace hg := tb_eq hg; (try simp only [hg]); (first | simp only [eq_true (beq_iff_eq.1 hg)] | simp only [eq_false (beq_eq_false_iff_ne.1 hg)] | simp only [eq_true (of_decide_eq_true hg)] | simp only [eq_false (of_decide_eq_false hg)] | skip); have hgo := hg; try simp only [Bool.and_eq_true, Bool.or_eq_false_iff, Bool.or_eq_true, Bool.and_eq_false_iff, Bool.not_eq_true', Bool.not_eq_false', decide_eq_true_eq, decide_eq_false_iff_not, beqT, beqF, bneT, bneF] at hgo))
     | refine ek_ret ?_
     | refine ek_norm ?_
     | (refine ⟨by omega, ?_⟩)
     | rfl
  · have : l1 ≠ l2 := fun e => by subst e; simp at hg
    simp [this]
  · have hlen : l1.length = l2.length := by have := hg; simp at this; omega
    refine pw_loop (fun m st => ∃ j : Nat, j + m = l1.length ∧ (∀ i (h1 : i < l1.length) (h2 : i < l2.length), i < j → l1[i] = l2[i]) ∧ st = [(0, .fv (stR l1)), (1, .fv (stR l2)), (5, iv j)]) l1.length [(0, .fv (stR l1)), (1, .fv (stR l2)), (5, iv (0 : Nat))] (sub_of ?_) ⟨0, by omega, fun i _ _ hi => by omega, rfl⟩ ?_
    · repeat' first
         | (simp (maxSteps := 1000000) only [go_sem, Int.cast_ofNat_Int, Int.reduceLT, Int.reduceLE, Int.reduceGT, Int.reduceGE, Int.reduceEq, Int.reduceBEq, Int.reduceAdd, Int.reduceSub, Int.reduceToNat, Nat.reduceShiftRight, Nat.reduceMod, Nat.reduceLT, Nat.reduceEqDiff, Nat.reduceAdd, Nat.reduceMul, Nat.reduceLeDiff, Nat.reduceBEq, reduceIte])
         | (simp (disch := first | omega | assumption) only [wrapI, ia3_hdrN, ia3_rowN, ia3_hdrI, ia3_rowI, List.getElem?_eq_getElem, List.length_map, List.length_cons, List.length_nil])
         | (refine tt_i (fun hg => ?_) (fun hg => ?_) <;> (replace hg := tb_eq hg; (try simp only [hg]); (first | simp only [eq_true (beq_iff_eq.1 hg)] | simp only [eq_false (beq_eq_false_iff_ne.1 hg)] | simp only [eq_true (of_decide_eq_true hg)] | simp only [eq_false (of_decide_eq_false hg)] | skip); have hgo := hg; try simp only [Bool.and_eq_true, Bool.or_eq_false_iff, Bool.or_eq_true, Bool.and_eq_false_iff, Bool.not_eq_true', Bool.not_eq_false', decide_eq_true_eq, decide_eq_false_iff_not, beqT, beqF, bneT, bneF] at hgo))
         | refine ek_ret ?_
         | refine ek_norm ?_
         | (refine ⟨by omega, ?_⟩)
         | rfl
    · rintro m st ⟨j, hj, hb, rfl⟩
      by_cases hlt : j < l1.length
      · have hd : decide ((j : Int) < (l1.length : Int)) = true := by rw [decide_eq_true_eq]; omega
        have hlt2 : j < l2.length := by omega
        have hm1 : j < (l1.map stF).length := by rw [List.length_map]; exact hlt
        have hm2 : j < (l2.map stF).length := by rw [List.length_map]; exact hlt2
        replace hb : True → _ := fun _ => hb
        repeat' first
           | (refine ck_intro (by first | exact v_eqStep l1[j] l2[j]) ?_ ?_)
           | (refine pw_draw2 [0, 0, 3, 7, 0, 0, 48, 112, 255, 511] [0, 0, 0, 1, 0, 0, 0, 1, 5, 0] false (by kernel_rfl) ?_; conv => arg 6; cbv)
           | (simp (maxSteps := 1000000) only [go_sem, Int.cast_ofNat_Int, Int.reduceLT, Int.reduceLE, Int.reduceGT, Int.reduceGE, Int.reduceEq, Int.reduceBEq, Int.reduceAdd, Int.reduceSub, Int.reduceToNat, Nat.reduceShiftRight, Nat.reduceMod, Nat.reduceLT, Nat.reduceEqDiff, Nat.reduceAdd, Nat.reduceMul, Nat.reduceLeDiff, Nat.reduceBEq, reduceIte, hd, List.getElem_map])
           | (simp (disch := first | omega | assumption) only [wrapI, ia3_hdrN, ia3_rowN, ia3_hdrI, ia3_rowI, List.getElem?_eq_getElem, List.length_map, List.length_cons, List.length_nil, hd, List.getElem_map])
           | (refine tt_i (fun hg => ?_) (fun hg => ?_) <;> (replace hg := tb_eq hg; (try simp only [hg]); (first | simp only [eq_true (beq_iff_eq.1 hg)] | simp only [eq_false (beq_eq_false_iff_ne.1 hg)] | simp only [eq_true (of_decide_eq_true hg)] | simp only [eq_false (of_decide_eq_false hg)] | skip); have hgo := hg; try simp only [Bool.and_eq_true, Bool.or_eq_false_iff, Bool.or_eq_true, Bool.and_eq_false_iff, Bool.not_eq_true', Bool.not_eq_false', decide_eq_true_eq, decide_eq_false_iff_not, beqT, beqF, bneT, bneF] at hgo))
           | refine ek_ret ?_
           | refine ek_norm ?_
           | (refine ⟨by omega, ?_⟩)
           | rfl
        · simp [list_ne hlt hlt2 hgo]
        · refine rd_norm [(0, .fv (stR l1)), (1, .fv (stR l2)), (5, iv (j + 1 : Nat))] (sub_of ?_) (m - 1) (by omega) ⟨j + 1, by omega, fun i q1 q2 hi => ?_, rfl⟩
          · repeat' first
               | (simp (maxSteps := 1000000) only [go_sem, Int.cast_ofNat_Int, Int.reduceLT, Int.reduceLE, Int.reduceGT, Int.reduceGE, Int.reduceEq, Int.reduceBEq, Int.reduceAdd, Int.reduceSub, Int.reduceToNat, Nat.reduceShiftRight, Nat.reduceMod, Nat.reduceLT, Nat.reduceEqDiff, Nat.reduceAdd, Nat.reduceMul, Nat.reduceLeDiff, Nat.reduceBEq, reduceIte])
               | (simp (disch := first | omega | assumption) only [wrapI, ia3_hdrN, ia3_rowN, ia3_hdrI, ia3_rowI, List.getElem?_eq_getElem, List.length_map, List.length_cons, List.length_nil])
               | (refine tt_i (fun hg => ?_) (fun hg => ?_) <;> (replace hg := tb_eq hg; (try simp only [hg]); (first | simp only [eq_true (beq_iff_eq.1 hg)] | simp only [eq_false (beq_eq_false_iff_ne.1 hg)] | simp only [eq_true (of_decide_eq_true hg)] | simp only [eq_false (of_decide_eq_false hg)] | skip); have hgo := hg; try simp only [Bool.and_eq_true, Bool.or_eq_false_iff, Bool.or_eq_true, Bool.and_eq_false_iff, Bool.not_eq_true', Bool.not_eq_false', decide_eq_true_eq, decide_eq_false_iff_not, beqT, beqF, bneT, bneF] at hgo))
               | refine ek_ret ?_
               | refine ek_norm ?_
               | (refine ⟨by omega, ?_⟩)
               | rfl
          · by_cases hij : i = j
            · subst hij; exact hgo
            · exact hb trivial i q1 q2 (by omega)
      · have hd : decide ((j : Int) < (l1.length : Int)) = false := by rw [decide_eq_false_iff_not]; omega
        have hq : decide (l1 = l2) = true := by rw [decide_eq_true_eq]; exact List.ext_getElem hlen fun i q1 q2 => hb i q1 q2 (by omega)
        repeat' first
           | (refine pw_draw2 [0, 0, 3, 7, 0, 0, 48, 112, 255, 511] [0, 0, 0, 1, 0, 0, 0, 1, 5, 0] false (by kernel_rfl) ?_; conv => arg 6; cbv)
           | (simp (maxSteps := 1000000) only [go_sem, Int.cast_ofNat_Int, Int.reduceLT, Int.reduceLE, Int.reduceGT, Int.reduceGE, Int.reduceEq, Int.reduceBEq, Int.reduceAdd, Int.reduceSub, Int.reduceToNat, Nat.reduceShiftRight, Nat.reduceMod, Nat.reduceLT, Nat.reduceEqDiff, Nat.reduceAdd, Nat.reduceMul, Nat.reduceLeDiff, Nat.reduceBEq, reduceIte, hd, hq])
           | (simp (disch := first | omega | assumption) only [wrapI, ia3_hdrN, ia3_rowN, ia3_hdrI, ia3_rowI, List.getElem?_eq_getElem, List.length_map, List.length_cons, List.length_nil, hd, hq])
           | (refine tt_i (fun hg => ?_) (fun hg => ?_) <;> (replace hg := tb_eq hg; (try simp only [hg]); (first | simp only [eq_true (beq_iff_eq.1 hg)] | simp only [eq_false (beq_eq_false_iff_ne.1 hg)] | simp only [eq_true (of_decide_eq_true hg)] | simp only [eq_false (of_decide_eq_false hg)] | skip); have hgo := hg; try simp only [Bool.and_eq_true, Bool.or_eq_false_iff, Bool.or_eq_true, Bool.and_eq_false_iff, Bool.not_eq_true', Bool.not_eq_false', decide_eq_true_eq, decide_eq_false_iff_not, beqT, beqF, bneT, bneF] at hgo))
           | refine ek_ret ?_
           | refine ek_norm ?_
           | (refine ⟨by omega, ?_⟩)
           | rfl
/-- What rows are marked with. -/
def mkS (k : Int) : StepD := ⟨k, k + 1, k + 2, k + 3, k + 4⟩
def markL (k : Int) : Nat → List StepD
  | 0 => []
  | n + 1 => markL k n ++ [mkS (k + 5 * n)]
theorem markL_len (k : Int) : ∀ n, (markL k n).length = n
  | 0 => rfl
  | n + 1 => by rw [markL, List.length_append, markL_len k n]; rfl
theorem markL_get (k : Int) : ∀ (n j : Nat) (h : j < (markL k n).length), (markL k n)[j] = mkS (k + 5 * j)
  | 0, j, h => by cases h
  | n + 1, j, h => by
    simp only [markL]
    rw [List.getElem_append]
    split
    · exact markL_get k n j _
    · rename_i hj
      rw [markL_len] at hj h
      have : j = n := by omega
      subst this
      simp
theorem v_heldStepS (k : Int) (n : Nat) (hk : 0 ≤ k ∧ k < 1000) (hn : n < 1073741824) : C2 CC F_laws_heldStepS [.fv (stR (markL k n)), iv k] (iv (k + 5 * n)) [] := by
  have hlen := markL_len k n
  refine c2_fn (MU := MU) (fn := Try.f36) (p := (prep (Try.f36.body.getD .skip)).getD .skip) (keepF Try.f36) false rfl rfl rfl (Nat.le_of_ble_eq_true rfl) (Nat.le_of_ble_eq_true rfl) rfl ?_
  conv => arg 5; cbv
  conv => arg 6; cbv
  conv => arg 8; arg 3; cbv
  repeat' first
     | (simp (maxSteps := 1000000) only [go_sem, Int.cast_ofNat_Int, Int.reduceLT, Int.reduceLE, Int.reduceGT, Int.reduceGE, Int.reduceEq, Int.reduceBEq, Int.reduceAdd, Int.reduceSub, Int.reduceToNat, Nat.reduceShiftRight, Nat.reduceMod, Nat.reduceLT, Nat.reduceEqDiff, Nat.reduceAdd, Nat.reduceMul, Nat.reduceLeDiff, Nat.reduceBEq, reduceIte, hlen])
     | (simp (disch := first | omega | assumption) only [wrapI, ia3_hdrN, ia3_rowN, ia3_hdrI, ia3_rowI, List.getElem?_eq_getElem, List.length_map, List.length_cons, List.length_nil, hlen])
     | (refine tt_i (fun hg => ?_) (fun hg => ?_) <;> (replace hg := tb_eq hg; (try simp only [hg]); (first | simp only [eq_true (beq_iff_eq.1 hg)] | simp only [eq_false (beq_eq_false_iff_ne.1 hg)] | simp only [eq_true (of_decide_eq_true hg)] | simp only [eq_false (of_decide_eq_false hg)] | skip); have hgo := hg; try simp only [Bool.and_eq_true, Bool.or_eq_false_iff, Bool.or_eq_true, Bool.and_eq_false_iff, Bool.not_eq_true', Bool.not_eq_false', decide_eq_true_eq, decide_eq_false_iff_not, beqT, beqF, bneT, bneF] at hgo))
     | refine ek_ret ?_
     | refine ek_norm ?_
     | (refine ⟨by omega, ?_⟩)
     | rfl
  refine pw_loop (fun m st => ∃ j : Nat, j + m = n ∧ st = [(0, .fv (stR (markL k n))), (1, iv (k + 5 * j)), (5, iv j)]) n [(0, .fv (stR (markL k n))), (1, iv (k + 5 * (0 : Nat))), (5, iv (0 : Nat))] (sub_of ?_) ⟨0, by omega, rfl⟩ ?_
  · have h0 : k + 5 * ((0 : Nat) : Int) = k := by omega
    rw [h0]
    repeat' first
       | (simp (maxSteps := 1000000) only [go_sem, Int.cast_ofNat_Int, Int.reduceLT, Int.reduceLE, Int.reduceGT, Int.reduceGE, Int.reduceEq, Int.reduceBEq, Int.reduceAdd, Int.reduceSub, Int.reduceToNat, Nat.reduceShiftRight, Nat.reduceMod, Nat.reduceLT, Nat.reduceEqDiff, Nat.reduceAdd, Nat.reduceMul, Nat.reduceLeDiff, Nat.reduceBEq, reduceIte])
       | (simp (disch := first | omega | assumption) only [wrapI, ia3_hdrN, ia3_rowN, ia3_hdrI, ia3_rowI, List.getElem?_eq_getElem, List.length_map, List.length_cons, List.length_nil])
       | (refine tt_i (fun hg => ?_) (fun hg => ?_) <;> (replace hg := tb_eq hg; (try simp only [hg]); (first | simp only [eq_true (beq_iff_eq.1 hg)] | simp only [eq_false (beq_eq_false_iff_ne.1 hg)] | simp only [eq_true (of_decide_eq_true hg)] | simp only [eq_false (of_decide_eq_false hg)] | skip); have hgo := hg; try simp only [Bool.and_eq_true, Bool.or_eq_false_iff, Bool.or_eq_true, Bool.and_eq_false_iff, Bool.not_eq_true', Bool.not_eq_false', decide_eq_true_eq, decide_eq_false_iff_not, beqT, beqF, bneT, bneF] at hgo))
       | refine ek_ret ?_
       | refine ek_norm ?_
       | (refine ⟨by omega, ?_⟩)
       | rfl
  · rintro m st ⟨j, hj, rfl⟩
    by_cases hlt : j < n
    · have hd : decide ((j : Int) < (n : Int)) = true := by rw [decide_eq_true_eq]; omega
      have hm1 : j < ((markL k n).map stF).length := by rw [List.length_map, hlen]; exact hlt
      have hg : ∀ h, (markL k n)[j]'h = mkS (k + 5 * j) := markL_get k n j
      repeat' first
         | (simp (maxSteps := 1000000) only [go_sem, Int.cast_ofNat_Int, Int.reduceLT, Int.reduceLE, Int.reduceGT, Int.reduceGE, Int.reduceEq, Int.reduceBEq, Int.reduceAdd, Int.reduceSub, Int.reduceToNat, Nat.reduceShiftRight, Nat.reduceMod, Nat.reduceLT, Nat.reduceEqDiff, Nat.reduceAdd, Nat.reduceMul, Nat.reduceLeDiff, Nat.reduceBEq, reduceIte, hd, hlen, List.getElem_map, hg, mkS])
         | (simp (disch := first | omega | assumption) only [wrapI, ia3_hdrN, ia3_rowN, ia3_hdrI, ia3_rowI, List.getElem?_eq_getElem, List.length_map, List.length_cons, List.length_nil, hd, hlen, List.getElem_map, hg, mkS])
         | (refine tt_i (fun hg => ?_) (fun hg => ?_) <;> (replace hg := tb_eq hg; (try simp only [hg]); (first | simp only [eq_true (beq_iff_eq.1 hg)] | simp only [eq_false (beq_eq_false_iff_ne.1 hg)] | simp only [eq_true (of_decide_eq_true hg)] | simp only [eq_false (of_decide_eq_false hg)] | skip); have hgo := hg; try simp only [Bool.and_eq_true, Bool.or_eq_false_iff, Bool.or_eq_true, Bool.and_eq_false_iff, Bool.not_eq_true', Bool.not_eq_false', decide_eq_true_eq, decide_eq_false_iff_not, beqT, beqF, bneT, bneF] at hgo))
         | refine ek_ret ?_
         | refine ek_norm ?_
         | (refine ⟨by omega, ?_⟩)
         | rfl
      all_goals first | (exfalso; omega) | skip
      refine rd_norm [(0, .fv (stR (markL k n))), (1, iv (k + 5 * (j + 1 : Nat))), (5, iv (j + 1 : Nat))] (sub_of ?_) (m - 1) (by omega) ⟨j + 1, by omega, rfl⟩
      have h5 : k + 5 * ((j + 1 : Nat) : Int) = k + 5 * (j : Int) + 1 + 1 + 1 + 1 + 1 := by omega
      rw [h5]
      repeat' first
         | (simp (maxSteps := 1000000) only [go_sem, Int.cast_ofNat_Int, Int.reduceLT, Int.reduceLE, Int.reduceGT, Int.reduceGE, Int.reduceEq, Int.reduceBEq, Int.reduceAdd, Int.reduceSub, Int.reduceToNat, Nat.reduceShiftRight, Nat.reduceMod, Nat.reduceLT, Nat.reduceEqDiff, Nat.reduceAdd, Nat.reduceMul, Nat.reduceLeDiff, Nat.reduceBEq, reduceIte])
         | (simp (disch := first | omega | assumption) only [wrapI, ia3_hdrN, ia3_rowN, ia3_hdrI, ia3_rowI, List.getElem?_eq_getElem, List.length_map, List.length_cons, List.length_nil])
         | (refine tt_i (fun hg => ?_) (fun hg => ?_) <;> (replace hg := tb_eq hg; (try simp only [hg]); (first | simp only [eq_true (beq_iff_eq.1 hg)] | simp only [eq_false (beq_eq_false_iff_ne.1 hg)] | simp only [eq_true (of_decide_eq_true hg)] | simp only [eq_false (of_decide_eq_false hg)] | skip); have hgo := hg; try simp only [Bool.and_eq_true, Bool.or_eq_false_iff, Bool.or_eq_true, Bool.and_eq_false_iff, Bool.not_eq_true', Bool.not_eq_false', decide_eq_true_eq, decide_eq_false_iff_not, beqT, beqF, bneT, bneF] at hgo))
         | refine ek_ret ?_
         | refine ek_norm ?_
         | (refine ⟨by omega, ?_⟩)
         | rfl
    · have hd : decide ((j : Int) < (n : Int)) = false := by rw [decide_eq_false_iff_not]; omega
      have hjn : j = n := by omega
      subst hjn
      repeat' first
         | (simp (maxSteps := 1000000) only [go_sem, Int.cast_ofNat_Int, Int.reduceLT, Int.reduceLE, Int.reduceGT, Int.reduceGE, Int.reduceEq, Int.reduceBEq, Int.reduceAdd, Int.reduceSub, Int.reduceToNat, Nat.reduceShiftRight, Nat.reduceMod, Nat.reduceLT, Nat.reduceEqDiff, Nat.reduceAdd, Nat.reduceMul, Nat.reduceLeDiff, Nat.reduceBEq, reduceIte, hd, hlen])
         | (simp (disch := first | omega | assumption) only [wrapI, ia3_hdrN, ia3_rowN, ia3_hdrI, ia3_rowI, List.getElem?_eq_getElem, List.length_map, List.length_cons, List.length_nil, hd, hlen])
         | (refine tt_i (fun hg => ?_) (fun hg => ?_) <;> (replace hg := tb_eq hg; (try simp only [hg]); (first | simp only [eq_true (beq_iff_eq.1 hg)] | simp only [eq_false (beq_eq_false_iff_ne.1 hg)] | simp only [eq_true (of_decide_eq_true hg)] | simp only [eq_false (of_decide_eq_false hg)] | skip); have hgo := hg; try simp only [Bool.and_eq_true, Bool.or_eq_false_iff, Bool.or_eq_true, Bool.and_eq_false_iff, Bool.not_eq_true', Bool.not_eq_false', decide_eq_true_eq, decide_eq_false_iff_not, beqT, beqF, bneT, bneF] at hgo))
         | refine ek_ret ?_
         | refine ek_norm ?_
         | (refine ⟨by omega, ?_⟩)
         | rfl
end Go.Proofs.YtbgaljpilmmefaaM

/- Rows of steps: marked. -/
namespace Go.Proofs.YtbgaljpilmmefaaM
open Go
set_option linter.unusedVariables false
set_option linter.unusedSimpArgs false
set_option maxRecDepth 100000
set_option maxHeartbeats 4000000
attribute [local irreducible] PW CK EK C2 rdK thK blK FK SK LK AK GK CD unK TT keK
theorem v_markStepS (k : Int) (l : List StepD) (hk : 0 ≤ k ∧ k < 1000) (hn : l.length < 1073741824) : C2 CC F_laws_markStepS [.own 5 (steps l), iv k] (iv (k + 5 * l.length)) [.own 5 (steps (markL k l.length))] := by
  refine c2_fn (MU := MU) (fn := Try.f35) (p := (prep (Try.f35.body.getD .skip)).getD .skip) (keepF Try.f35) false rfl rfl rfl (Nat.le_of_ble_eq_true rfl) (Nat.le_of_ble_eq_true rfl) rfl ?_
  conv => arg 5; cbv
  conv => arg 6; cbv
  conv => arg 8; arg 3; cbv
  repeat' first
     | (simp (maxSteps := 1000000) only [go_sem, Int.cast_ofNat_Int, Int.reduceLT, Int.reduceLE, Int.reduceGT, Int.reduceGE, Int.reduceEq, Int.reduceBEq, Int.reduceAdd, Int.reduceSub, Int.reduceToNat, Nat.reduceShiftRight, Nat.reduceMod, Nat.reduceLT, Nat.reduceEqDiff, Nat.reduceAdd, Nat.reduceMul, Nat.reduceLeDiff, Nat.reduceBEq, reduceIte])
     | (simp (disch := first | omega | assumption) only [wrapI, ia3_hdrN, ia3_rowN, ia3_hdrI, ia3_rowI, List.getElem?_eq_getElem, List.length_map, List.length_cons, List.length_nil])
     | (refine tt_i (fun hg => ?_) (fun hg => ?_) <;> (replace hg := tb_eq hg; (try simp only [hg]); (first | simp only [eq_true (beq_iff_eq.1 hg)] | simp only [eq_false (beq_eq_false_iff_ne.1 hg)] | simp only [eq_true (of_decide_eq_true hg)] | simp only [eq_false (of_decide_eq_false hg)] | skip); have hgo := hg; try simp only [Bool.and_eq_true, Bool.or_eq_false_iff, Bool.or_eq_true, Bool.and_eq_false_iff, Bool.not_eq_true', Bool.not_eq_false', decide_eq_true_eq, decide_eq_false_iff_not, beqT, beqF, bneT, bneF] at hgo))
     | refine ek_ret ?_
     | refine ek_norm ?_
     | (refine ⟨by omega, ?_⟩)
     | rfl
  refine pw_loop (fun m st => ∃ j : Nat, j + m = l.length ∧ st = [(0, .hdr (1000000, []) 5 l.length), (1, iv (k + 5 * j)), (5, iv j), (1000000, .own 5 (steps (markL k j ++ l.drop j)))]) l.length [(0, .hdr (1000000, []) 5 l.length), (1, iv (k + 5 * (0 : Nat))), (5, iv (0 : Nat)), (1000000, .own 5 (steps (markL k 0 ++ l.drop 0)))] (sub_of ?_) ⟨0, by omega, rfl⟩ ?_
  · have h0 : k + 5 * ((0 : Nat) : Int) = k := by omega
    rw [h0, markL, List.drop_zero, List.nil_append]
    repeat' first
       | (simp (maxSteps := 1000000) only [go_sem, Int.cast_ofNat_Int, Int.reduceLT, Int.reduceLE, Int.reduceGT, Int.reduceGE, Int.reduceEq, Int.reduceBEq, Int.reduceAdd, Int.reduceSub, Int.reduceToNat, Nat.reduceShiftRight, Nat.reduceMod, Nat.reduceLT, Nat.reduceEqDiff, Nat.reduceAdd, Nat.reduceMul, Nat.reduceLeDiff, Nat.reduceBEq, reduceIte])
       | (simp (disch := first | omega | assumption) only [wrapI, ia3_hdrN, ia3_rowN, ia3_hdrI, ia3_rowI, List.getElem?_eq_getElem, List.length_map, List.length_cons, List.length_nil])
       | (refine tt_i (fun hg => ?_) (fun hg => ?_) <;> (replace hg := tb_eq hg; (try simp only [hg]); (first | simp only [eq_true (beq_iff_eq.1 hg)] | simp only [eq_false (beq_eq_false_iff_ne.1 hg)] | simp only [eq_true (of_decide_eq_true hg)] | simp only [eq_false (of_decide_eq_false hg)] | skip); have hgo := hg; try simp only [Bool.and_eq_true, Bool.or_eq_false_iff, Bool.or_eq_true, Bool.and_eq_false_iff, Bool.not_eq_true', Bool.not_eq_false', decide_eq_true_eq, decide_eq_false_iff_not, beqT, beqF, bneT, bneF] at hgo))
       | refine ek_ret ?_
       | refine ek_norm ?_
       | (refine ⟨by omega, ?_⟩)
       | rfl
  · rintro m st ⟨j, hj, rfl⟩
    by_cases hlt : j < l.length
    · have hd : decide ((j : Int) < (l.length : Int)) = true := by rw [decide_eq_true_eq]; omega
      have hs : ∀ y : StepD, (steps (markL k j ++ l.drop j)).set j (.fv (stF y)) = steps (markL k j ++ y :: l.drop (j + 1)) := by
        intro y
        unfold steps
        rw [List.drop_eq_getElem_cons hlt, List.map_append, List.map_append, List.set_append_right _ _ (by rw [List.length_map, markL_len]; omega), List.length_map, markL_len, Nat.sub_self, List.map_cons, List.set_cons_zero, List.map_cons]
      have hx : (steps (markL k j ++ l.drop j))[j]? = some (.fv (stF l[j])) := by
        unfold steps
        rw [List.drop_eq_getElem_cons hlt, List.map_append, List.getElem?_append_right (by rw [List.length_map, markL_len]; omega), List.length_map, markL_len, Nat.sub_self, List.map_cons, List.getElem?_cons_zero]
      have hL : (steps (markL k j ++ l.drop j)).length = l.length := by rw [steps_len, List.length_append, markL_len, List.length_drop]; omega
      have hnr : noRefs (steps (markL k j ++ l.drop j)) = true := nrs_steps
      generalize steps (markL k j ++ l.drop j) = L at hs hx hL hnr
      have hjL : j < L.length := by omega
      have hss : ∀ d, (L.set j d)[j]? = some d := fun d => List.getElem?_set_self hjL
      repeat' first
         | (simp (maxSteps := 1000000) only [go_sem, Int.cast_ofNat_Int, Int.reduceLT, Int.reduceLE, Int.reduceGT, Int.reduceGE, Int.reduceEq, Int.reduceBEq, Int.reduceAdd, Int.reduceSub, Int.reduceToNat, Nat.reduceShiftRight, Nat.reduceMod, Nat.reduceLT, Nat.reduceEqDiff, Nat.reduceAdd, Nat.reduceMul, Nat.reduceLeDiff, Nat.reduceBEq, reduceIte, hd, hL, hx, hnr, hss, List.set_set, List.length_set])
         | (simp (disch := first | omega | assumption) only [wrapI, ia3_hdrN, ia3_rowN, ia3_hdrI, ia3_rowI, List.getElem?_eq_getElem, List.length_map, List.length_cons, List.length_nil, hd, hL, hx, hnr, hss, List.set_set, List.length_set])
         | (refine tt_i (fun hg => ?_) (fun hg => ?_) <;> (replace hg := tb_eq hg; (try simp only [hg]); (first | simp only [eq_true (beq_iff_eq.1 hg)] | simp only [eq_false (beq_eq_false_iff_ne.1 hg)] | simp only [eq_true (of_decide_eq_true hg)] | simp only [eq_false (of_decide_eq_false hg)] | skip); have hgo := hg; try simp only [Bool.and_eq_true, Bool.or_eq_false_iff, Bool.or_eq_true, Bool.and_eq_false_iff, Bool.not_eq_true', Bool.not_eq_false', decide_eq_true_eq, decide_eq_false_iff_not, beqT, beqF, bneT, bneF] at hgo))
         | refine ek_ret ?_
         | refine ek_norm ?_
         | (refine ⟨by omega, ?_⟩)
         | rfl
      have h5 : k + 5 * ((j + 1 : Nat) : Int) = k + 5 * (j : Int) + 1 + 1 + 1 + 1 + 1 := by omega
      refine rd_norm [(0, .hdr (1000000, []) 5 l.length), (1, iv (k + 5 * (j + 1 : Nat))), (5, iv (j + 1 : Nat)), (1000000, .own 5 (steps (markL k (j + 1) ++ l.drop (j + 1))))] (sub_of ?_) (m - 1) (by omega) ⟨j + 1, by omega, rfl⟩
      have hy := hs (mkS (k + 5 * j))
      have hm : markL k (j + 1) ++ l.drop (j + 1) = markL k j ++ mkS (k + 5 * j) :: l.drop (j + 1) := by rw [markL, List.append_assoc]; rfl
      have e2 : k + 5 * (j : Int) + 1 + 1 = k + 5 * (j : Int) + 2 := by omega
      have e3 : k + 5 * (j : Int) + 2 + 1 = k + 5 * (j : Int) + 3 := by omega
      have e4 : k + 5 * (j : Int) + 3 + 1 = k + 5 * (j : Int) + 4 := by omega
      rw [h5, hm, ← hy]
      repeat' first
         | (simp (maxSteps := 1000000) only [go_sem, Int.cast_ofNat_Int, Int.reduceLT, Int.reduceLE, Int.reduceGT, Int.reduceGE, Int.reduceEq, Int.reduceBEq, Int.reduceAdd, Int.reduceSub, Int.reduceToNat, Nat.reduceShiftRight, Nat.reduceMod, Nat.reduceLT, Nat.reduceEqDiff, Nat.reduceAdd, Nat.reduceMul, Nat.reduceLeDiff, Nat.reduceBEq, reduceIte, e2, e3, e4])
         | (simp (disch := first | omega | assumption) only [wrapI, ia3_hdrN, ia3_rowN, ia3_hdrI, ia3_rowI, List.getElem?_eq_getElem, List.length_map, List.length_cons, List.length_nil, e2, e3, e4])
         | (refine tt_i (fun hg => ?_) (fun hg => ?_) <;> (replace hg := tb_eq hg; (try simp only [hg]); (first | simp only [eq_true (beq_iff_eq.1 hg)] | simp only [eq_false (beq_eq_false_iff_ne.1 hg)] | simp only [eq_true (of_decide_eq_true hg)] | simp only [eq_false (of_decide_eq_false hg)] | skip); have hgo := hg; try simp only [Bool.and_eq_true, Bool.or_eq_false_iff, Bool.or_eq_true, Bool.and_eq_false_iff, Bool.not_eq_true', Bool.not_eq_false', decide_eq_true_eq, decide_eq_false_iff_not, beqT, beqF, bneT, bneF] at hgo))
         | refine ek_ret ?_
         | refine ek_norm ?_
         | (refine ⟨by omega, ?_⟩)
         | rfl
      exact ⟨rfl, rfl⟩
    · have hd : decide ((j : Int) < (l.length : Int)) = false := by rw [decide_eq_false_iff_not]; omega
      have hjn : j = l.length := by omega
      subst hjn
      have h0 : steps (markL k l.length ++ l.drop l.length) = steps (markL k l.length) := by simp
      repeat' first
         | (simp (maxSteps := 1000000) only [go_sem, Int.cast_ofNat_Int, Int.reduceLT, Int.reduceLE, Int.reduceGT, Int.reduceGE, Int.reduceEq, Int.reduceBEq, Int.reduceAdd, Int.reduceSub, Int.reduceToNat, Nat.reduceShiftRight, Nat.reduceMod, Nat.reduceLT, Nat.reduceEqDiff, Nat.reduceAdd, Nat.reduceMul, Nat.reduceLeDiff, Nat.reduceBEq, reduceIte, hd, h0])
         | (simp (disch := first | omega | assumption) only [wrapI, ia3_hdrN, ia3_rowN, ia3_hdrI, ia3_rowI, List.getElem?_eq_getElem, List.length_map, List.length_cons, List.length_nil, hd, h0])
         | (refine tt_i (fun hg => ?_) (fun hg => ?_) <;> (replace hg := tb_eq hg; (try simp only [hg]); (first | simp only [eq_true (beq_iff_eq.1 hg)] | simp only [eq_false (beq_eq_false_iff_ne.1 hg)] | simp only [eq_true (of_decide_eq_true hg)] | simp only [eq_false (of_decide_eq_false hg)] | skip); have hgo := hg; try simp only [Bool.and_eq_true, Bool.or_eq_false_iff, Bool.or_eq_true, Bool.and_eq_false_iff, Bool.not_eq_true', Bool.not_eq_false', decide_eq_true_eq, decide_eq_false_iff_not, beqT, beqF, bneT, bneF] at hgo))
         | refine ek_ret ?_
         | refine ek_norm ?_
         | (refine ⟨by omega, ?_⟩)
         | rfl
end Go.Proofs.YtbgaljpilmmefaaM

/- The law FnExactEmitIns, walked. -/
namespace Go.Proofs.YtbgaljpilmmefaaM
open Go
set_option linter.unusedVariables false
set_option linter.unusedSimpArgs false
set_option maxRecDepth 100000
set_option maxHeartbeats 4000000
attribute [local irreducible] PW CK EK C2 rdK thK blK FK SK LK AK GK CD unK TT keK
theorem emitL_none (x : StepD) (h : homedJ x = false) : emitL x = [] := by
  obtain ⟨op, r, a, b, n⟩ := x
  cases hw : wok op with
  | true =>
    have hr := wok_range hw
    have e20 : ¬ op = 20 := by omega
    have e21 : ¬ op = 21 := by omega
    have e22 : ¬ op = 22 := by omega
    have e23 : ¬ op = 23 := by omega
    have e24 : ¬ op = 24 := by omega
    have e25 : ¬ op = 25 := by omega
    simp_all [homedJ, homedB, usesL, emitL, formK, hasA, hasBb, makesB, beqD]
    intro h1 h2 h3
    have := h h3 h1
    simp_all
  | false =>
    by_cases e20 : op = 20
    · subst e20; simp_all [homedJ, homedB, usesL, emitL, formK, hasA, hasBb, makesB, beqD]
    by_cases e21 : op = 21
    · subst e21; simp_all [homedJ, homedB, usesL, emitL, formK, hasA, hasBb, makesB, beqD]
      all_goals (intro h1 h2; simp_all)
    by_cases e22 : op = 22
    · subst e22; simp_all [homedJ, homedB, usesL, emitL, formK, hasA, hasBb, makesB, beqD]
      all_goals (intro h1 h2; simp_all)
    by_cases e23 : op = 23
    · subst e23; simp_all [homedJ, homedB, usesL, emitL, formK, hasA, hasBb, makesB, beqD]
    by_cases e24 : op = 24
    · subst e24; simp_all [homedJ, homedB, usesL, emitL, formK, hasA, hasBb, makesB, beqD]
    by_cases e25 : op = 25
    · subst e25; simp_all [homedJ, homedB, usesL, emitL, formK, hasA, hasBb, makesB, beqD]
      all_goals (intro h1 h2; simp_all)
    simp_all [emitL]
theorem giveL_len (l : List StepD) (s : StepD) (h : Int) : (giveL l s h).length ≤ l.length + 2 := by unfold giveL; split <;> simp
theorem takenL_len (x : StepD) : (takenL x).length ≤ 2 := by
  have h1 := tkL_len x.a 4
  have h2 := tkL_len x.b 5
  unfold takenL; rw [List.length_append]
  split <;> split <;> simp <;> omega
theorem emitL_len (x : StepD) : (emitL x).length ≤ 4 := by
  have ht := takenL_len x
  have hg := fun s h => giveL_len (takenL x) s h
  have hc : (copyL x).length ≤ 2 := by
    have h1 := tkL_len x.a 4
    unfold copyL; split; simp; split; simp; rw [List.length_append]; simp; omega
  unfold emitL
  repeat' split
  all_goals first | (simp; done) | exact Nat.le_trans (hg _ _) (by omega) | (simp; omega) | omega
theorem eqNil : C2 CC F_laws_eqStepS [.fv .nil, .fv (.row 5 [])] (bv true) [] := by
  refine c2_fn (MU := MU) (fn := Try.f28) (p := (prep (Try.f28.body.getD .skip)).getD .skip) (keepF Try.f28) false rfl rfl rfl (Nat.le_of_ble_eq_true rfl) (Nat.le_of_ble_eq_true rfl) rfl ?_
  conv => arg 5; cbv
  conv => arg 6; cbv
  conv => arg 8; arg 3; cbv
  repeat' first
     | (refine pw_draw2 [0, 0, 3, 7, 0, 0, 48, 112, 255, 511] [0, 0, 0, 1, 0, 0, 0, 1, 5, 0] false (by kernel_rfl) ?_; conv => arg 6; cbv)
     | (refine pw_unroll ?_)
     | (simp (maxSteps := 1000000) only [go_sem, Int.cast_ofNat_Int, Int.reduceLT, Int.reduceLE, Int.reduceGT, Int.reduceGE, Int.reduceEq, Int.reduceBEq, Int.reduceAdd, Int.reduceSub, Int.reduceToNat, Nat.reduceShiftRight, Nat.reduceMod, Nat.reduceLT, Nat.reduceEqDiff, Nat.reduceAdd, Nat.reduceMul, Nat.reduceLeDiff, Nat.reduceBEq, reduceIte])
     | (simp (disch := first | omega | assumption) only [wrapI, ia3_hdrN, ia3_rowN, ia3_hdrI, ia3_rowI, List.getElem?_eq_getElem, List.length_map, List.length_cons, List.length_nil])
     | (refine tt_i (fun hg => ?_) (fun hg => ?_) <;> (replace hg := tb_eq hg; (try simp only [hg]); (first | simp only [eq_true (beq_iff_eq.1 hg)] | simp only [eq_false (beq_eq_false_iff_ne.1 hg)] | simp only [eq_true (of_decide_eq_true hg)] | simp only [eq_false (of_decide_eq_false hg)] | skip); have hgo := hg; try simp only [Bool.and_eq_true, Bool.or_eq_false_iff, Bool.or_eq_true, Bool.and_eq_false_iff, Bool.not_eq_true', Bool.not_eq_false', decide_eq_true_eq, decide_eq_false_iff_not, beqT, beqF, bneT, bneF] at hgo))
     | refine ek_ret ?_
     | refine ek_norm ?_
     | (refine ⟨by omega, ?_⟩)
     | rfl
  all_goals (exfalso; omega)
theorem markNil : C2 CC F_laws_markStepS [.fv .nil, iv 1] (iv 1) [] := by
  refine c2_fn (MU := MU) (fn := Try.f35) (p := (prep (Try.f35.body.getD .skip)).getD .skip) (keepF Try.f35) false rfl rfl rfl (Nat.le_of_ble_eq_true rfl) (Nat.le_of_ble_eq_true rfl) rfl ?_
  conv => arg 5; cbv
  conv => arg 6; cbv
  conv => arg 8; arg 3; cbv
  repeat' first
     | (refine pw_unroll ?_)
     | (simp (maxSteps := 1000000) only [go_sem, Int.cast_ofNat_Int, Int.reduceLT, Int.reduceLE, Int.reduceGT, Int.reduceGE, Int.reduceEq, Int.reduceBEq, Int.reduceAdd, Int.reduceSub, Int.reduceToNat, Nat.reduceShiftRight, Nat.reduceMod, Nat.reduceLT, Nat.reduceEqDiff, Nat.reduceAdd, Nat.reduceMul, Nat.reduceLeDiff, Nat.reduceBEq, reduceIte])
     | (simp (disch := first | omega | assumption) only [wrapI, ia3_hdrN, ia3_rowN, ia3_hdrI, ia3_rowI, List.getElem?_eq_getElem, List.length_map, List.length_cons, List.length_nil])
     | (refine tt_i (fun hg => ?_) (fun hg => ?_) <;> (replace hg := tb_eq hg; (try simp only [hg]); (first | simp only [eq_true (beq_iff_eq.1 hg)] | simp only [eq_false (beq_eq_false_iff_ne.1 hg)] | simp only [eq_true (of_decide_eq_true hg)] | simp only [eq_false (of_decide_eq_false hg)] | skip); have hgo := hg; try simp only [Bool.and_eq_true, Bool.or_eq_false_iff, Bool.or_eq_true, Bool.and_eq_false_iff, Bool.not_eq_true', Bool.not_eq_false', decide_eq_true_eq, decide_eq_false_iff_not, beqT, beqF, bneT, bneF] at hgo))
     | refine ek_ret ?_
     | refine ek_norm ?_
     | (refine ⟨by omega, ?_⟩)
     | rfl
theorem heldNil : C2 CC F_laws_heldStepS [.fv .nil, iv 1] (iv 1) [] := by
  refine c2_fn (MU := MU) (fn := Try.f36) (p := (prep (Try.f36.body.getD .skip)).getD .skip) (keepF Try.f36) false rfl rfl rfl (Nat.le_of_ble_eq_true rfl) (Nat.le_of_ble_eq_true rfl) rfl ?_
  conv => arg 5; cbv
  conv => arg 6; cbv
  conv => arg 8; arg 3; cbv
  repeat' first
     | (refine pw_unroll ?_)
     | (simp (maxSteps := 1000000) only [go_sem, Int.cast_ofNat_Int, Int.reduceLT, Int.reduceLE, Int.reduceGT, Int.reduceGE, Int.reduceEq, Int.reduceBEq, Int.reduceAdd, Int.reduceSub, Int.reduceToNat, Nat.reduceShiftRight, Nat.reduceMod, Nat.reduceLT, Nat.reduceEqDiff, Nat.reduceAdd, Nat.reduceMul, Nat.reduceLeDiff, Nat.reduceBEq, reduceIte])
     | (simp (disch := first | omega | assumption) only [wrapI, ia3_hdrN, ia3_rowN, ia3_hdrI, ia3_rowI, List.getElem?_eq_getElem, List.length_map, List.length_cons, List.length_nil])
     | (refine tt_i (fun hg => ?_) (fun hg => ?_) <;> (replace hg := tb_eq hg; (try simp only [hg]); (first | simp only [eq_true (beq_iff_eq.1 hg)] | simp only [eq_false (beq_eq_false_iff_ne.1 hg)] | simp only [eq_true (of_decide_eq_true hg)] | simp only [eq_false (of_decide_eq_false hg)] | skip); have hgo := hg; try simp only [Bool.and_eq_true, Bool.or_eq_false_iff, Bool.or_eq_true, Bool.and_eq_false_iff, Bool.not_eq_true', Bool.not_eq_false', decide_eq_true_eq, decide_eq_false_iff_not, beqT, beqF, bneT, bneF] at hgo))
     | refine ek_ret ?_
     | refine ek_norm ?_
     | (refine ⟨by omega, ?_⟩)
     | rfl
theorem i64_wf {n : Int} (h : (Lit.int .i64 n).wf = true) : I64 n := by
  have h1 : IntKind.i64.min = -9223372036854775808 := by decide
  have h2 : IntKind.i64.max = 9223372036854775807 := by decide
  replace h : (decide (IntKind.i64.min ≤ n) && decide (n ≤ IntKind.i64.max)) = true := h
  rw [h1, h2] at h
  simpa [I64] using h
theorem ty_int {Γ : TypeId → Option TI} {g : Nat} {t : TypeId} {v : FV} {a b : Nat} {z : List Value} (hv : TyF Γ g t v) (ht : Γ t = some ⟨.int .i64, a, b, z⟩) : ∃ n, v = .int .i64 n ∧ I64 n := by
  obtain ⟨n, h1, h2⟩ := tyF_int hv ht
  exact ⟨n, h1, i64_wf h2⟩
theorem ty_step {Γ : TypeId → Option TI} {g : Nat} {t ti : TypeId} {v : FV} {a b a' b' : Nat} {z z' : List Value} (hv : TyF Γ g t v) (ht : Γ t = some ⟨.struct [(0, ti), (1, ti), (2, ti), (3, ti), (4, ti)], a, b, z⟩) (hi : Γ ti = some ⟨.int .i64, a', b', z'⟩) : ∃ x : StepD, v = stF x ∧ x.wf := by
  obtain ⟨x0, x1, x2, x3, x4, g', rfl, h0, h1, h2, h3, h4⟩ := tyF_struct5 hv ht
  obtain ⟨n0, rfl, w0⟩ := ty_int h0 hi
  obtain ⟨n1, rfl, w1⟩ := ty_int h1 hi
  obtain ⟨n2, rfl, w2⟩ := ty_int h2 hi
  obtain ⟨n3, rfl, w3⟩ := ty_int h3 hi
  obtain ⟨n4, rfl, w4⟩ := ty_int h4 hi
  exact ⟨⟨n0, n1, n2, n3, n4⟩, rfl, w0, w1, w2, w3, w4⟩
theorem v_FnExactEmitIns (x : StepD) (_ : x.wf) : C2 CC F_laws_FnExactEmitIns [sF x] (bv true) [] := by
  have ki := i_EmitIns x
  have ks := v_EmitIns x
  cases hh : homedJ x with
  | false =>
    rw [hh, if_neg (by decide)] at ki
    rw [emitL_none x hh] at ks
    have hm : steps [] = [] := rfl
    refine c2_fn (MU := MU) (fn := Try.f8) (p := (prep (Try.f8.body.getD .skip)).getD .skip) (keepF Try.f8) false rfl rfl rfl (Nat.le_of_ble_eq_true rfl) (Nat.le_of_ble_eq_true rfl) rfl ?_
    conv => arg 5; cbv
    conv => arg 6; cbv
    conv => arg 8; arg 3; cbv
    repeat' first
       | (refine ck_intro (by first | exact v_toIns _ | exact ks | exact ki | exact eqNil | exact markNil | exact heldNil) ?_ ?_)
       | (simp (maxSteps := 1000000) only [go_sem, Int.cast_ofNat_Int, Int.reduceLT, Int.reduceLE, Int.reduceGT, Int.reduceGE, Int.reduceEq, Int.reduceBEq, Int.reduceAdd, Int.reduceSub, Int.reduceToNat, Nat.reduceShiftRight, Nat.reduceMod, Nat.reduceLT, Nat.reduceEqDiff, Nat.reduceAdd, Nat.reduceMul, Nat.reduceLeDiff, Nat.reduceBEq, reduceIte])
       | (simp (disch := first | omega | assumption) only [wrapI, ia3_hdrN, ia3_rowN, ia3_hdrI, ia3_rowI, List.getElem?_eq_getElem, List.length_map, List.length_cons, List.length_nil])
       | (refine tt_i (fun hg => ?_) (fun hg => ?_) <;> (replace hg := tb_eq hg; (try simp only [hg]); (first | simp only [eq_true (beq_iff_eq.1 hg)] | simp only [eq_false (beq_eq_false_iff_ne.1 hg)] | simp only [eq_true (of_decide_eq_true hg)] | simp only [eq_false (of_decide_eq_false hg)] | skip); have hgo := hg; try simp only [Bool.and_eq_true, Bool.or_eq_false_iff, Bool.or_eq_true, Bool.and_eq_false_iff, Bool.not_eq_true', Bool.not_eq_false', decide_eq_true_eq, decide_eq_false_iff_not, beqT, beqF, bneT, bneF] at hgo))
       | refine ek_ret ?_
       | refine ek_norm ?_
       | (refine ⟨by omega, ?_⟩)
       | rfl
    all_goals (exfalso; omega)
  | true =>
    rw [hh, if_pos rfl] at ki
    have hl := emitL_len x
    generalize emitL x = r at ki ks hl
    have hk : decide ((1 : Int) + 5 * (r.length : Int) < 0) = false := by rw [decide_eq_false_iff_not]; omega
    have hml := markL_len 1 r.length
    refine c2_fn (MU := MU) (fn := Try.f8) (p := (prep (Try.f8.body.getD .skip)).getD .skip) (keepF Try.f8) false rfl rfl rfl (Nat.le_of_ble_eq_true rfl) (Nat.le_of_ble_eq_true rfl) rfl ?_
    conv => arg 5; cbv
    conv => arg 6; cbv
    conv => arg 8; arg 3; cbv
    repeat' first
       | (refine ck_intro (by first | exact v_toIns _ | exact ks | exact ki | exact v_eqStepS _ _ (by omega) (by omega) | exact v_markStepS 1 r (by decide) (by omega) | exact v_heldStepS 1 r.length (by decide) (by omega)) ?_ ?_)
       | (simp (maxSteps := 1000000) only [go_sem, Int.cast_ofNat_Int, Int.reduceLT, Int.reduceLE, Int.reduceGT, Int.reduceGE, Int.reduceEq, Int.reduceBEq, Int.reduceAdd, Int.reduceSub, Int.reduceToNat, Nat.reduceShiftRight, Nat.reduceMod, Nat.reduceLT, Nat.reduceEqDiff, Nat.reduceAdd, Nat.reduceMul, Nat.reduceLeDiff, Nat.reduceBEq, reduceIte, hk])
       | (simp (disch := first | omega | assumption) only [wrapI, ia3_hdrN, ia3_rowN, ia3_hdrI, ia3_rowI, List.getElem?_eq_getElem, List.length_map, List.length_cons, List.length_nil, hk])
       | (refine tt_i (fun hg => ?_) (fun hg => ?_) <;> (replace hg := tb_eq hg; (try simp only [hg]); (first | simp only [eq_true (beq_iff_eq.1 hg)] | simp only [eq_false (beq_eq_false_iff_ne.1 hg)] | simp only [eq_true (of_decide_eq_true hg)] | simp only [eq_false (of_decide_eq_false hg)] | skip); have hgo := hg; try simp only [Bool.and_eq_true, Bool.or_eq_false_iff, Bool.or_eq_true, Bool.and_eq_false_iff, Bool.not_eq_true', Bool.not_eq_false', decide_eq_true_eq, decide_eq_false_iff_not, beqT, beqF, bneT, bneF] at hgo))
       | refine ek_ret ?_
       | refine ek_norm ?_
       | (refine ⟨by omega, ?_⟩)
       | rfl
    all_goals (exfalso; omega)
end Go.Proofs.YtbgaljpilmmefaaM
