/- When a step is right, by the program; both say the same. -/
import Derived.Test.YtbgaljpilmmefaaA5S4
import Derived.Test.YtbgaljpilmmefaaA5R1
namespace Go.Proofs.YtbgaljpilmmefaaM
open Go
set_option linter.unusedVariables false
set_option linter.unusedSimpArgs false
attribute [local irreducible] OpG Go Done OpV OpK OpH OpN OpL endQ exQ RunP OpsP Call pureV opV binV makeV effV appendV sliceV isPut
set_option maxHeartbeats 4000000

def fb (op : Int) : List Int := (sform op).data.toList.map fun b => (b.toNat : Int)
theorem fb_len (op : Int) : (sform op).size = (fb op).length := by simp only [fb, List.length_map, Array.length_toList]; rfl
theorem fb_cells (op : Int) : ((sform op).data.toList.map fun x => Value.int .u8 (x.toNat : Int)) = (fb op).map fun v => .int .u8 v := by simp [fb]
theorem fb_small (op : Int) : (fb op).length < 4611686018427387904 := by
  rw [← fb_len]
  unfold sform
  repeat' split
  all_goals decide
def hasF (op c : Int) : Bool := decide (idxOf (fb op) c ≥ 0)
theorem contains_form (op x : Int) (n c : Nat) (h : Hp) (hn : n < h.next) (hb : h.blk n = some ⟨(sform op).data.toList.map fun x => Value.int .u8 (x.toNat : Int), true⟩) :
    CC F_slices_Contains_byte [.slice (some ⟨n, 0, none⟩) (sform op).size c, .int .u8 x] h (.bool (hasF op x)) h :=
  slices_Contains_byte_ok (fb op) x n c _ true h (fb_len op) hn (fb_small op) (by rw [hb, fb_cells])

def part (n : Int) (had : Bool) : Bool := if had = true then decide (n ≥ 0) && decide (n ≤ 7) else n == 0
theorem impl_part_ok (n : Int) (had : Bool) (h : Hp) : CC F_impl_stepPart [.int .i64 n, .bool had, .int .i64 7] h (.bool (part n had)) h := impl_stepPart_ok n 7 had h
def iStepOk (op r a b n k : Int) : Bool :=
  if (decide (op < 1) || decide (op > 21)) = true then false
  else if hasF op 78 = true then sformOk op && (part r (hasF op 82) && part a (hasF op 65) && part b (hasF op 66))
  else if hasF op 83 = true then (sformOk op && (decide (n ≥ 0) && decide (n ≤ 39))) && (part r (hasF op 82) && part a (hasF op 65) && part b (hasF op 66))
  else if hasF op 84 = true then (sformOk op && decide (n ≥ 0) && decide (n < k)) && (part r (hasF op 82) && part a (hasF op 65) && part b (hasF op 66))
  else (sformOk op && n == 0) && (part r (hasF op 82) && part a (hasF op 65) && part b (hasF op 66))

theorem impl_StepOk_ok0 (op r a b n k : Int) (h : Hp) : CC F_impl_StepOk [st5 op r a b n, .int .i64 k] h (.bool (iStepOk op r a b n k)) h := by
  refine call_go (p := c_impl_StepOk) rfl rfl c_impl_StepOk_ok (Nat.le_of_ble_eq_true rfl) ?_
  rw [res_impl_StepOk]
  unfold c_impl_StepOk
  repeat' first
   | refine d_impl_StepOk_5_go ?_
   | refine op_ldQ ?_
   | (refine op_callF (by simp only [go_sem, reduceIte, Nat.reduceEqDiff, Nat.reduceAdd, Nat.reduceMul, Nat.reduceLeDiff, Nat.reduceLT]; rfl) (by simp only [go_sem, reduceIte, Nat.reduceEqDiff, Nat.reduceAdd, Nat.reduceMul, Nat.reduceLeDiff, Nat.reduceLT]; rfl) (by first | exact impl_stepForm_ok _ _ | exact tc_quiet (by decide) (impl_stepForm_ok _ _) | exact contains_form op _ _ _ _ (by simp only [go_sem, reduceIte, Nat.reduceEqDiff, Nat.reduceAdd, Nat.reduceMul, Nat.reduceLeDiff, Nat.reduceLT]; omega) (by simp (disch := first | omega | (simp only [hput_next, hto_next, plus_next, cl_next, List.length_set]; omega)) only [go_sem, reduceIte, Nat.reduceEqDiff, Nat.reduceAdd, Nat.reduceMul, Nat.reduceLeDiff, Nat.reduceLT, wrapI, cl_blk, cl_cell, cl_cells, hput_blk_ne, hput_cell_ne, hput_cells_ne, plus_blk_ne, plus_cell_ne, plus_cells_ne, ixO_nat, ixO_ok, bin_quo, bin_rem, stB_int, stB_bool, stB_slice, stB_agg, apO_nil, apO_some, apB_own, *]) | exact tc_quiet (by decide) (contains_form op _ _ _ _ (by simp only [go_sem, reduceIte, Nat.reduceEqDiff, Nat.reduceAdd, Nat.reduceMul, Nat.reduceLeDiff, Nat.reduceLT]; omega) (by simp (disch := first | omega | (simp only [hput_next, hto_next, plus_next, cl_next, List.length_set]; omega)) only [go_sem, reduceIte, Nat.reduceEqDiff, Nat.reduceAdd, Nat.reduceMul, Nat.reduceLeDiff, Nat.reduceLT, wrapI, cl_blk, cl_cell, cl_cells, hput_blk_ne, hput_cell_ne, hput_cells_ne, plus_blk_ne, plus_cell_ne, plus_cells_ne, ixO_nat, ixO_ok, bin_quo, bin_rem, stB_int, stB_bool, stB_slice, stB_agg, apO_nil, apO_some, apB_own, *])) | exact impl_part_ok _ _ _ | exact tc_quiet (by decide) (impl_part_ok _ _ _) | exact impl_in_ok _ _ _ _ | exact tc_quiet (by decide) (impl_in_ok _ _ _ _)) ?_)
   | exact isPut_ok
   | (refine op_gv (v := ?_) (by simp only [go_sem, reduceIte, Nat.reduceEqDiff, Nat.reduceAdd, Nat.reduceMul, Nat.reduceLeDiff, Nat.reduceLT]; rfl) (fun hg => ?_) ?_; rotate_left; (focus ((try (have hgo := hg; simp only [Bool.and_eq_true, Bool.or_eq_false_iff, Bool.not_eq_true', Bool.not_eq_false', decide_eq_true_eq, decide_eq_false_iff_not, beqT, beqF, bneT, bneF] at hgo)); (try (have hgb := hg; simp only [Bool.and_eq_true, Bool.or_eq_false_iff, Bool.not_eq_true', Bool.not_eq_false'] at hgb)))))
   | (refine end_gen (by first | exact .inl rfl | exact .inr rfl) (tidy_scal rfl fun m b hm hb => by simp (disch := first | omega | (simp only [hput_next, hto_next, plus_next, cl_next, List.length_set]; omega)) only [go_sem, reduceIte, Nat.reduceEqDiff, Nat.reduceAdd, Nat.reduceMul, Nat.reduceLeDiff, Nat.reduceLT, wrapI, cl_blk, cl_cell, cl_cells, hput_blk_ne, hput_cell_ne, hput_cells_ne, plus_blk_ne, plus_cell_ne, plus_cells_ne, ixO_nat, ixO_ok, bin_quo, bin_rem, stB_int, stB_bool, stB_slice, stB_agg, apO_nil, apO_some, apB_own, *]) ?_)
   | (refine end_ex (v := ?_) (by first | exact .inl rfl | exact .inr rfl) (by simp only [go_sem, reduceIte, Nat.reduceEqDiff, Nat.reduceAdd, Nat.reduceMul, Nat.reduceLeDiff, Nat.reduceLT, *] <;> rfl) ?_; rotate_left)
   | (simp (maxSteps := 1000000) only [go_sem, reduceIte, Nat.reduceEqDiff, Nat.reduceAdd, Nat.reduceMul, Nat.reduceLeDiff, Nat.reduceLT])
   | (simp only [pickO_bool])
   | (simp (maxSteps := 1000000) only [go_sem, *, reduceIte, Nat.reduceEqDiff, Nat.reduceAdd, Nat.reduceMul, Nat.reduceLeDiff, Nat.reduceLT])
   | (refine go_cond (by simp only [go_sem, reduceIte, Nat.reduceEqDiff, Nat.reduceAdd, Nat.reduceMul, Nat.reduceLeDiff, Nat.reduceLT]; rfl) (fun hg => ?_) (fun hg => ?_) <;> ((try (have hgo := hg; simp only [Bool.and_eq_true, Bool.or_eq_false_iff, Bool.not_eq_true', Bool.not_eq_false', decide_eq_true_eq, decide_eq_false_iff_not, beqT, beqF, bneT, bneF] at hgo)); (try (have hgb := hg; simp only [Bool.and_eq_true, Bool.or_eq_false_iff, Bool.not_eq_true', Bool.not_eq_false'] at hgb))))
   | (simp (maxSteps := 1000000) (disch := first | omega | (simp only [hput_next, hto_next, plus_next, cl_next, List.length_set]; omega)) only [go_sem, *, wrapI, cl_blk, cl_cell, cl_cells, hput_blk_ne, hput_cell_ne, hput_cells_ne, plus_blk_ne, plus_cell_ne, plus_cells_ne, ixO_nat, ixO_ok, bin_quo, bin_rem, stB_int, stB_bool, stB_slice, stB_agg, apO_nil, apO_some, apB_own, reduceIte, Nat.reduceEqDiff, Nat.reduceAdd, Nat.reduceMul, Nat.reduceLeDiff, Nat.reduceLT])
  all_goals try first | (simp only [iStepOk, *, if_true, if_false, Bool.false_eq_true]; done) | (simp only [iStepOk, *, go_sem, reduceIte]; done) | (simp [iStepOk, *]; done)

theorem forms1 : hasF 1 78 = true ∧ hasF 1 83 = false ∧ hasF 1 84 = false ∧ hasF 1 82 = true ∧ hasF 1 65 = false ∧ hasF 1 66 = false ∧ sformOk 1 = true := by decide
theorem forms2 : hasF 2 78 = false ∧ hasF 2 83 = false ∧ hasF 2 84 = false ∧ hasF 2 82 = true ∧ hasF 2 65 = true ∧ hasF 2 66 = false ∧ sformOk 2 = true := by decide
theorem forms3 : hasF 3 78 = false ∧ hasF 3 83 = true ∧ hasF 3 84 = false ∧ hasF 3 82 = true ∧ hasF 3 65 = false ∧ hasF 3 66 = false ∧ sformOk 3 = true := by decide
theorem forms4 : hasF 4 78 = false ∧ hasF 4 83 = true ∧ hasF 4 84 = false ∧ hasF 4 82 = false ∧ hasF 4 65 = true ∧ hasF 4 66 = false ∧ sformOk 4 = true := by decide
theorem forms5 : hasF 5 78 = false ∧ hasF 5 83 = false ∧ hasF 5 84 = false ∧ hasF 5 82 = true ∧ hasF 5 65 = true ∧ hasF 5 66 = false ∧ sformOk 5 = true := by decide
theorem forms6 : hasF 6 78 = false ∧ hasF 6 83 = false ∧ hasF 6 84 = false ∧ hasF 6 82 = false ∧ hasF 6 65 = true ∧ hasF 6 66 = true ∧ sformOk 6 = true := by decide
theorem forms7 : hasF 7 78 = false ∧ hasF 7 83 = false ∧ hasF 7 84 = false ∧ hasF 7 82 = false ∧ hasF 7 65 = true ∧ hasF 7 66 = false ∧ sformOk 7 = true := by decide
theorem forms8 : hasF 8 78 = false ∧ hasF 8 83 = false ∧ hasF 8 84 = false ∧ hasF 8 82 = true ∧ hasF 8 65 = false ∧ hasF 8 66 = false ∧ sformOk 8 = true := by decide
theorem forms9 : hasF 9 78 = false ∧ hasF 9 83 = false ∧ hasF 9 84 = true ∧ hasF 9 82 = false ∧ hasF 9 65 = false ∧ hasF 9 66 = false ∧ sformOk 9 = true := by decide
theorem forms10 : hasF 10 78 = false ∧ hasF 10 83 = false ∧ hasF 10 84 = true ∧ hasF 10 82 = false ∧ hasF 10 65 = true ∧ hasF 10 66 = false ∧ sformOk 10 = true := by decide
theorem forms11 : hasF 11 78 = false ∧ hasF 11 83 = false ∧ hasF 11 84 = false ∧ hasF 11 82 = false ∧ hasF 11 65 = true ∧ hasF 11 66 = false ∧ sformOk 11 = true := by decide
theorem forms12 : hasF 12 78 = false ∧ hasF 12 83 = false ∧ hasF 12 84 = false ∧ hasF 12 82 = true ∧ hasF 12 65 = true ∧ hasF 12 66 = true ∧ sformOk 12 = true := by decide
theorem forms13 : hasF 13 78 = false ∧ hasF 13 83 = false ∧ hasF 13 84 = false ∧ hasF 13 82 = true ∧ hasF 13 65 = true ∧ hasF 13 66 = true ∧ sformOk 13 = true := by decide
theorem forms14 : hasF 14 78 = false ∧ hasF 14 83 = false ∧ hasF 14 84 = false ∧ hasF 14 82 = true ∧ hasF 14 65 = true ∧ hasF 14 66 = true ∧ sformOk 14 = true := by decide
theorem forms15 : hasF 15 78 = false ∧ hasF 15 83 = false ∧ hasF 15 84 = false ∧ hasF 15 82 = true ∧ hasF 15 65 = true ∧ hasF 15 66 = true ∧ sformOk 15 = true := by decide
theorem forms16 : hasF 16 78 = false ∧ hasF 16 83 = false ∧ hasF 16 84 = false ∧ hasF 16 82 = true ∧ hasF 16 65 = true ∧ hasF 16 66 = true ∧ sformOk 16 = true := by decide
theorem forms17 : hasF 17 78 = false ∧ hasF 17 83 = false ∧ hasF 17 84 = false ∧ hasF 17 82 = true ∧ hasF 17 65 = true ∧ hasF 17 66 = true ∧ sformOk 17 = true := by decide
theorem forms18 : hasF 18 78 = false ∧ hasF 18 83 = false ∧ hasF 18 84 = false ∧ hasF 18 82 = true ∧ hasF 18 65 = true ∧ hasF 18 66 = true ∧ sformOk 18 = true := by decide
theorem forms19 : hasF 19 78 = false ∧ hasF 19 83 = false ∧ hasF 19 84 = false ∧ hasF 19 82 = true ∧ hasF 19 65 = true ∧ hasF 19 66 = true ∧ sformOk 19 = true := by decide
theorem forms20 : hasF 20 78 = false ∧ hasF 20 83 = false ∧ hasF 20 84 = false ∧ hasF 20 82 = true ∧ hasF 20 65 = true ∧ hasF 20 66 = true ∧ sformOk 20 = true := by decide
theorem forms21 : hasF 21 78 = false ∧ hasF 21 83 = false ∧ hasF 21 84 = false ∧ hasF 21 82 = true ∧ hasF 21 65 = true ∧ hasF 21 66 = true ∧ sformOk 21 = true := by decide
theorem wrap_off (op : Int) (ho : I64 op) (h : op < 1 ∨ op > 21) : wordB (IntKind.wrap .i64 (op - 11)) = false := by
  obtain ⟨h1, h2⟩ := ho
  rw [IntKind.wrap_i64]
  unfold wordB
  rw [Bool.and_eq_false_iff, decide_eq_false_iff_not, decide_eq_false_iff_not]
  omega
theorem both_StepOk (op r a b n k : Int) (ho : I64 op) : iStepOk op r a b n k = sStepOk op r a b n k := by
  by_cases hc : op < 1 ∨ op > 21
  · have h1 : (decide (op < 1) || decide (op > 21)) = true := by simpa using hc
    have hne : ∀ j : Int, 1 ≤ j → j ≤ 21 → (op == j) = false := fun j h1 h2 => by rw [beq_eq_false_iff_ne]; omega
    unfold iStepOk sStepOk
    rw [if_pos h1, wrap_off op ho hc]
    simp [hne]
  · have h2 : op = 1 ∨ op = 2 ∨ op = 3 ∨ op = 4 ∨ op = 5 ∨ op = 6 ∨ op = 7 ∨ op = 8 ∨ op = 9 ∨ op = 10 ∨ op = 11 ∨ op = 12 ∨ op = 13 ∨ op = 14 ∨ op = 15 ∨ op = 16 ∨ op = 17 ∨ op = 18 ∨ op = 19 ∨ op = 20 ∨ op = 21 := by omega
    have hw : ∀ x : Int, 0 ≤ x → x ≤ 10 → IntKind.wrap .i64 x = x := fun x a b => wrapI (by omega) (by omega)
    rw [Bool.eq_iff_iff]
    rcases h2 with rfl | rfl | rfl | rfl | rfl | rfl | rfl | rfl | rfl | rfl | rfl | rfl | rfl | rfl | rfl | rfl | rfl | rfl | rfl | rfl | rfl
    · obtain ⟨f1, f2, f3, f4, f5, f6, f7⟩ := forms1
      simp [iStepOk, sStepOk, part, upTo, wordB, hw, f1, f2, f3, f4, f5, f6, f7] <;> omega
    · obtain ⟨f1, f2, f3, f4, f5, f6, f7⟩ := forms2
      simp [iStepOk, sStepOk, part, upTo, wordB, hw, f1, f2, f3, f4, f5, f6, f7] <;> omega
    · obtain ⟨f1, f2, f3, f4, f5, f6, f7⟩ := forms3
      simp [iStepOk, sStepOk, part, upTo, wordB, hw, f1, f2, f3, f4, f5, f6, f7] <;> omega
    · obtain ⟨f1, f2, f3, f4, f5, f6, f7⟩ := forms4
      simp [iStepOk, sStepOk, part, upTo, wordB, hw, f1, f2, f3, f4, f5, f6, f7] <;> omega
    · obtain ⟨f1, f2, f3, f4, f5, f6, f7⟩ := forms5
      simp [iStepOk, sStepOk, part, upTo, wordB, hw, f1, f2, f3, f4, f5, f6, f7] <;> omega
    · obtain ⟨f1, f2, f3, f4, f5, f6, f7⟩ := forms6
      simp [iStepOk, sStepOk, part, upTo, wordB, hw, f1, f2, f3, f4, f5, f6, f7] <;> omega
    · obtain ⟨f1, f2, f3, f4, f5, f6, f7⟩ := forms7
      simp [iStepOk, sStepOk, part, upTo, wordB, hw, f1, f2, f3, f4, f5, f6, f7] <;> omega
    · obtain ⟨f1, f2, f3, f4, f5, f6, f7⟩ := forms8
      simp [iStepOk, sStepOk, part, upTo, wordB, hw, f1, f2, f3, f4, f5, f6, f7] <;> omega
    · obtain ⟨f1, f2, f3, f4, f5, f6, f7⟩ := forms9
      simp [iStepOk, sStepOk, part, upTo, wordB, hw, f1, f2, f3, f4, f5, f6, f7] <;> omega
    · obtain ⟨f1, f2, f3, f4, f5, f6, f7⟩ := forms10
      simp [iStepOk, sStepOk, part, upTo, wordB, hw, f1, f2, f3, f4, f5, f6, f7] <;> omega
    · obtain ⟨f1, f2, f3, f4, f5, f6, f7⟩ := forms11
      simp [iStepOk, sStepOk, part, upTo, wordB, hw, f1, f2, f3, f4, f5, f6, f7] <;> omega
    · obtain ⟨f1, f2, f3, f4, f5, f6, f7⟩ := forms12
      simp [iStepOk, sStepOk, part, upTo, wordB, hw, f1, f2, f3, f4, f5, f6, f7] <;> omega
    · obtain ⟨f1, f2, f3, f4, f5, f6, f7⟩ := forms13
      simp [iStepOk, sStepOk, part, upTo, wordB, hw, f1, f2, f3, f4, f5, f6, f7] <;> omega
    · obtain ⟨f1, f2, f3, f4, f5, f6, f7⟩ := forms14
      simp [iStepOk, sStepOk, part, upTo, wordB, hw, f1, f2, f3, f4, f5, f6, f7] <;> omega
    · obtain ⟨f1, f2, f3, f4, f5, f6, f7⟩ := forms15
      simp [iStepOk, sStepOk, part, upTo, wordB, hw, f1, f2, f3, f4, f5, f6, f7] <;> omega
    · obtain ⟨f1, f2, f3, f4, f5, f6, f7⟩ := forms16
      simp [iStepOk, sStepOk, part, upTo, wordB, hw, f1, f2, f3, f4, f5, f6, f7] <;> omega
    · obtain ⟨f1, f2, f3, f4, f5, f6, f7⟩ := forms17
      simp [iStepOk, sStepOk, part, upTo, wordB, hw, f1, f2, f3, f4, f5, f6, f7] <;> omega
    · obtain ⟨f1, f2, f3, f4, f5, f6, f7⟩ := forms18
      simp [iStepOk, sStepOk, part, upTo, wordB, hw, f1, f2, f3, f4, f5, f6, f7] <;> omega
    · obtain ⟨f1, f2, f3, f4, f5, f6, f7⟩ := forms19
      simp [iStepOk, sStepOk, part, upTo, wordB, hw, f1, f2, f3, f4, f5, f6, f7] <;> omega
    · obtain ⟨f1, f2, f3, f4, f5, f6, f7⟩ := forms20
      simp [iStepOk, sStepOk, part, upTo, wordB, hw, f1, f2, f3, f4, f5, f6, f7] <;> omega
    · obtain ⟨f1, f2, f3, f4, f5, f6, f7⟩ := forms21
      simp [iStepOk, sStepOk, part, upTo, wordB, hw, f1, f2, f3, f4, f5, f6, f7] <;> omega

theorem impl_StepOk_ok (op r a b n k : Int) (ho : I64 op) (h : Hp) : CC F_impl_StepOk [st5 op r a b n, .int .i64 k] h (.bool (sStepOk op r a b n k)) h := by
  rw [← both_StepOk op r a b n k ho]; exact impl_StepOk_ok0 op r a b n k h

end Go.Proofs.YtbgaljpilmmefaaM
