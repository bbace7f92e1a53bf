/- When a step is right, by the reference and by the program. -/
import Derived.Test.YtbgaljpilmmefaaA5S3
namespace Go.Proofs.YtbgaljpilmmefaaM
open Go
set_option linter.unusedVariables false
set_option linter.unusedSimpArgs false
attribute [local irreducible] OpG Go Done OpV OpK OpH OpN OpL endQ exQ RunP OpsP Call pureV opV binV makeV effV appendV sliceV isPut
set_option maxHeartbeats 4000000

def upTo (n m : Int) : Bool := decide (n ≥ 0) && decide (n ≤ m)
def wordB (op : Int) : Bool := decide (op ≥ 1) && decide (op ≤ 10)
def sStepOk (op r a b n k : Int) : Bool :=
  if (!upTo r 7 || !upTo a 7 || !upTo b 7) = true then false
  else if (op == 1) = true then a == 0 && b == 0
  else if (op == 2) = true then b == 0 && n == 0
  else if (op == 5) = true then b == 0 && n == 0
  else if (op == 3) = true then upTo n 39 && a == 0 && b == 0
  else if (op == 4) = true then upTo n 39 && r == 0 && b == 0
  else if (op == 6) = true then r == 0 && n == 0
  else if (op == 7) = true then r == 0 && b == 0 && n == 0
  else if (op == 11) = true then r == 0 && b == 0 && n == 0
  else if (op == 8) = true then a == 0 && b == 0 && n == 0
  else if (op == 9) = true then (decide (n ≥ 0) && decide (n < k)) && r == 0 && a == 0 && b == 0
  else if (op == 10) = true then (decide (n ≥ 0) && decide (n < k)) && r == 0 && b == 0
  else wordB (IntKind.wrap .i64 (op - 11)) && n == 0

theorem spec_StepOk_ok (op r a b n k : Int) (h : Hp) : CC F_spec_StepOk [st5 op r a b n, .int .i64 k] h (.bool (sStepOk op r a b n k)) h := by
  refine call_go (p := c_spec_StepOk) rfl rfl c_spec_StepOk_ok (Nat.le_of_ble_eq_true rfl) ?_
  rw [res_spec_StepOk]
  unfold c_spec_StepOk
  repeat' first
   | (refine op_callF (by simp only [go_sem, reduceIte, Nat.reduceEqDiff, Nat.reduceAdd, Nat.reduceMul, Nat.reduceLeDiff, Nat.reduceLT]; rfl) (by simp only [go_sem, reduceIte, Nat.reduceEqDiff, Nat.reduceAdd, Nat.reduceMul, Nat.reduceLeDiff, Nat.reduceLT]; rfl) (by first | exact spec_l14Reg_ok _ _ | exact tc_quiet (by decide) (spec_l14Reg_ok _ _) | exact spec_l1In_ok _ _ _ _ | exact tc_quiet (by decide) (spec_l1In_ok _ _ _ _) | exact spec_WordOk_ok _ _ | exact tc_quiet (by decide) (spec_WordOk_ok _ _)) ?_)
   | exact isPut_ok
   | (refine op_gv (v := ?_) (by simp only [go_sem, reduceIte, Nat.reduceEqDiff, Nat.reduceAdd, Nat.reduceMul, Nat.reduceLeDiff, Nat.reduceLT]; rfl) (fun hg => ?_) ?_; rotate_left; (focus ((try (have hgo := hg; simp only [Bool.and_eq_true, Bool.or_eq_false_iff, Bool.not_eq_true', Bool.not_eq_false', decide_eq_true_eq, decide_eq_false_iff_not, beqT, beqF, bneT, bneF] at hgo)); (try (have hgb := hg; simp only [Bool.and_eq_true, Bool.or_eq_false_iff, Bool.not_eq_true', Bool.not_eq_false'] at hgb)))))
   | (refine end_gen (by first | exact .inl rfl | exact .inr rfl) (tidy_scal rfl fun m b hm hb => by simp (disch := first | omega | (simp only [hput_next, hto_next, plus_next, cl_next, List.length_set]; omega)) only [go_sem, reduceIte, Nat.reduceEqDiff, Nat.reduceAdd, Nat.reduceMul, Nat.reduceLeDiff, Nat.reduceLT, wrapI, cl_blk, cl_cell, cl_cells, hput_blk_ne, hput_cell_ne, hput_cells_ne, plus_blk_ne, plus_cell_ne, plus_cells_ne, ixO_nat, ixO_ok, bin_quo, bin_rem, stB_int, stB_bool, stB_slice, stB_agg, apO_nil, apO_some, apB_own, *]) ?_)
   | (refine end_ex (v := ?_) (by first | exact .inl rfl | exact .inr rfl) (by simp only [go_sem, reduceIte, Nat.reduceEqDiff, Nat.reduceAdd, Nat.reduceMul, Nat.reduceLeDiff, Nat.reduceLT, *] <;> rfl) ?_; rotate_left)
   | (simp (maxSteps := 1000000) only [go_sem, reduceIte, Nat.reduceEqDiff, Nat.reduceAdd, Nat.reduceMul, Nat.reduceLeDiff, Nat.reduceLT])
   | (simp only [pickO_bool])
   | (simp (maxSteps := 1000000) only [go_sem, *, reduceIte, Nat.reduceEqDiff, Nat.reduceAdd, Nat.reduceMul, Nat.reduceLeDiff, Nat.reduceLT])
   | (refine go_cond (by simp only [go_sem, reduceIte, Nat.reduceEqDiff, Nat.reduceAdd, Nat.reduceMul, Nat.reduceLeDiff, Nat.reduceLT]; rfl) (fun hg => ?_) (fun hg => ?_) <;> ((try (have hgo := hg; simp only [Bool.and_eq_true, Bool.or_eq_false_iff, Bool.not_eq_true', Bool.not_eq_false', decide_eq_true_eq, decide_eq_false_iff_not, beqT, beqF, bneT, bneF] at hgo)); (try (have hgb := hg; simp only [Bool.and_eq_true, Bool.or_eq_false_iff, Bool.not_eq_true', Bool.not_eq_false'] at hgb))))
   | (simp (maxSteps := 1000000) (disch := first | omega | (simp only [hput_next, hto_next, plus_next, cl_next, List.length_set]; omega)) only [go_sem, *, wrapI, cl_blk, cl_cell, cl_cells, hput_blk_ne, hput_cell_ne, hput_cells_ne, plus_blk_ne, plus_cell_ne, plus_cells_ne, ixO_nat, ixO_ok, bin_quo, bin_rem, stB_int, stB_bool, stB_slice, stB_agg, apO_nil, apO_some, apB_own, reduceIte, Nat.reduceEqDiff, Nat.reduceAdd, Nat.reduceMul, Nat.reduceLeDiff, Nat.reduceLT])
  all_goals try first | (simp only [sStepOk, upTo, wordB, *, if_true, if_false, Bool.false_eq_true]; done) | (simp only [sStepOk, upTo, wordB, *, go_sem, reduceIte]; done) | (simp [sStepOk, upTo, wordB, *]; done)

end Go.Proofs.YtbgaljpilmmefaaM
