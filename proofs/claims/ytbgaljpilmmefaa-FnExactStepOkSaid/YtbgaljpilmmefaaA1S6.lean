/- The law FnExactStepOk, walked. -/
import Derived.Test.YtbgaljpilmmefaaA1S5
namespace Go.Proofs.YtbgaljpilmmefaaM
open Go
set_option linter.unusedVariables false
set_option linter.unusedSimpArgs false
attribute [local irreducible] OpG Go Done OpV OpK OpH OpN OpL endQ RunP OpsP Call pureV opV binV makeV effV appendV sliceV isPut

theorem laws_FnExactStepOk_ok (op r a b n k : Int) (ho : I64 op) (h : Hp) : CC F_laws_FnExactStepOk [st5 op r a b n, .int .i64 k] h (.bool true) h := by
  refine call_go (p := c_laws_FnExactStepOk) rfl rfl c_laws_FnExactStepOk_ok (Nat.le_of_ble_eq_true rfl) ?_
  rw [res_laws_FnExactStepOk]
  unfold c_laws_FnExactStepOk
  repeat' first
    | (refine op_callF (by simp only [go_sem, reduceIte, Nat.reduceEqDiff, Nat.reduceAdd, Nat.reduceMul, Nat.reduceLeDiff, Nat.reduceLT]; rfl) (by simp only [go_sem, reduceIte, Nat.reduceEqDiff, Nat.reduceAdd, Nat.reduceMul, Nat.reduceLeDiff, Nat.reduceLT]; rfl) (by first | exact laws_toStep_ok _ _ _ _ _ _ | exact tc_quiet (by decide) (laws_toStep_ok _ _ _ _ _ _) | exact impl_StepOk_ok _ _ _ _ _ _ ho _ | exact tc_quiet (by decide) (impl_StepOk_ok _ _ _ _ _ _ ho _) | exact spec_StepOk_ok _ _ _ _ _ _ _ | exact tc_quiet (by decide) (spec_StepOk_ok _ _ _ _ _ _ _)) ?_)
    | exact isPut_ok
    | (refine op_gv (v := ?_) (by simp only [go_sem, reduceIte, Nat.reduceEqDiff, Nat.reduceAdd, Nat.reduceMul, Nat.reduceLeDiff, Nat.reduceLT]; rfl) (fun hg => ?_) ?_; rotate_left; (focus ((try (have hgo := hg; simp only [Bool.and_eq_true, Bool.or_eq_false_iff, Bool.not_eq_true', Bool.not_eq_false', decide_eq_true_eq, decide_eq_false_iff_not, beqT, beqF, bneT, bneF] at hgo)); (try (have hgb := hg; simp only [Bool.and_eq_true, Bool.or_eq_false_iff, Bool.not_eq_true', Bool.not_eq_false'] at hgb)))))
    | (refine end_gen (by first | exact .inl rfl | exact .inr rfl) (tidy_scal rfl fun m b hm hb => by simp (disch := first | omega | (simp only [hput_next, hto_next, plus_next, cl_next]; omega)) only [go_sem, reduceIte, Nat.reduceEqDiff, Nat.reduceAdd, Nat.reduceMul, Nat.reduceLeDiff, Nat.reduceLT, wrapI, cl_blk, cl_cell, cl_cells, hput_blk_ne, hput_cell_ne, hput_cells_ne, plus_blk_ne, plus_cell_ne, plus_cells_ne, ixO_nat, ixO_ok, bin_quo, bin_rem, stB_int, stB_bool, stB_slice, stB_agg, *]) ?_)
    | (simp only [go_sem, reduceIte, Nat.reduceEqDiff, Nat.reduceAdd, Nat.reduceMul, Nat.reduceLeDiff, Nat.reduceLT])
    | (simp only [pickO_bool])
    | (simp only [go_sem, *, reduceIte, Nat.reduceEqDiff, Nat.reduceAdd, Nat.reduceMul, Nat.reduceLeDiff, Nat.reduceLT])
    | (refine go_cond (by simp only [go_sem, reduceIte, Nat.reduceEqDiff, Nat.reduceAdd, Nat.reduceMul, Nat.reduceLeDiff, Nat.reduceLT]; rfl) (fun hg => ?_) (fun hg => ?_) <;> ((try (have hgo := hg; simp only [Bool.and_eq_true, Bool.or_eq_false_iff, Bool.not_eq_true', Bool.not_eq_false', decide_eq_true_eq, decide_eq_false_iff_not, beqT, beqF, bneT, bneF] at hgo)); (try (have hgb := hg; simp only [Bool.and_eq_true, Bool.or_eq_false_iff, Bool.not_eq_true', Bool.not_eq_false'] at hgb))))
    | (simp (disch := first | omega | (simp only [hput_next, hto_next, plus_next, cl_next]; omega)) only [go_sem, *, wrapI, cl_blk, cl_cell, cl_cells, hput_blk_ne, hput_cell_ne, hput_cells_ne, plus_blk_ne, plus_cell_ne, plus_cells_ne, ixO_nat, ixO_ok, bin_quo, bin_rem, stB_int, stB_bool, stB_slice, stB_agg, reduceIte, Nat.reduceEqDiff, Nat.reduceAdd, Nat.reduceMul, Nat.reduceLeDiff, Nat.reduceLT])

end Go.Proofs.YtbgaljpilmmefaaM
