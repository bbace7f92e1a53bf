/- The law FnStepOk. -/
import Derived.Test.YtbgaljpilmmefaaA5W5
import Derived.Test.YtbgaljpilmmefaaA5S5
namespace Go.Proofs.YtbgaljpilmmefaaM
open Go
set_option linter.unusedVariables false
set_option linter.unusedSimpArgs false
attribute [local irreducible] OpG Go Done OpV OpK OpH OpN OpL endQ exQ RunP OpsP Call pureV opV binV makeV effV appendV sliceV isPut
set_option maxHeartbeats 4000000

/-- A right step is right for longer code, and its registers are eight. -/
theorem stepOk_more {op r a b n : Int} (h : sStepOk op r a b n 9 = true) : sStepOk op r a b n 10 = true ∧ decide (r ≥ 0) = true ∧ decide (r < 8) = true ∧ decide (a ≥ 0) = true ∧ decide (a < 8) = true ∧ decide (b ≥ 0) = true ∧ decide (b < 8) = true := by
  have h0 : (!upTo r 7 || !upTo a 7 || !upTo b 7) = false := by
    cases hb : (!upTo r 7 || !upTo a 7 || !upTo b 7) with
    | false => rfl
    | true => unfold sStepOk at h; rw [hb] at h; simp at h
  refine ⟨?_, ?_⟩
  · by_cases h9 : op = 9
    · subst h9
      have e : ∀ k, sStepOk 9 r a b n k = if (!upTo r 7 || !upTo a 7 || !upTo b 7) = true then false else ((decide (n ≥ 0) && decide (n < k)) && r == 0 && a == 0 && b == 0) := fun k => rfl
      rw [e, h0] at h ⊢
      simp only [Bool.false_eq_true, if_false, Bool.and_eq_true, decide_eq_true_eq] at h ⊢
      exact ⟨⟨⟨⟨h.1.1.1.1, by omega⟩, h.1.1.2⟩, h.1.2⟩, h.2⟩
    · by_cases h10 : op = 10
      · subst h10
        have e : ∀ k, sStepOk 10 r a b n k = if (!upTo r 7 || !upTo a 7 || !upTo b 7) = true then false else ((decide (n ≥ 0) && decide (n < k)) && r == 0 && b == 0) := fun k => rfl
        rw [e, h0] at h ⊢
        simp only [Bool.false_eq_true, if_false, Bool.and_eq_true, decide_eq_true_eq] at h ⊢
        exact ⟨⟨⟨h.1.1.1, by omega⟩, h.1.2⟩, h.2⟩
      · rw [← h]
        have e1 : (op == 9) = false := by simp [h9]
        have e2 : (op == 10) = false := by simp [h10]
        unfold sStepOk
        rw [e1, e2]
        rfl
  · simp only [upTo, Bool.or_eq_false_iff, Bool.not_eq_false', Bool.and_eq_true, decide_eq_true_eq] at h0 ⊢
    omega

theorem laws_big_ok (a : Option Addr) (n c : Nat) (h : Hp) : CC F_laws_big [.slice a n c] h (.bool (decide ((n : Int) > 1048576))) h := by
  refine call_go (p := c_laws_big) rfl rfl c_laws_big_ok (Nat.le_of_ble_eq_true rfl) ?_
  rw [res_laws_big]
  unfold c_laws_big
  repeat' first
   | exact isPut_ok
   | (refine op_gv (v := ?_) (by simp only [go_sem, reduceIte, Nat.reduceEqDiff, Nat.reduceAdd, Nat.reduceMul, Nat.reduceLeDiff, Nat.reduceLT]; rfl) (fun hg => ?_) ?_; rotate_left; (focus ((try (have hgo := hg; simp only [Bool.and_eq_true, Bool.or_eq_false_iff, Bool.not_eq_true', Bool.not_eq_false', decide_eq_true_eq, decide_eq_false_iff_not, beqT, beqF, bneT, bneF] at hgo)); (try (have hgb := hg; simp only [Bool.and_eq_true, Bool.or_eq_false_iff, Bool.not_eq_true', Bool.not_eq_false'] at hgb)))))
   | (refine end_gen (by first | exact .inl rfl | exact .inr rfl) (tidy_scal rfl fun m b hm hb => by simp (disch := first | omega | (simp only [hput_next, hto_next, plus_next, cl_next, List.length_set]; omega)) only [go_sem, reduceIte, Nat.reduceEqDiff, Nat.reduceAdd, Nat.reduceMul, Nat.reduceLeDiff, Nat.reduceLT, wrapI, cl_blk, cl_cell, cl_cells, hput_blk_ne, hput_cell_ne, hput_cells_ne, plus_blk_ne, plus_cell_ne, plus_cells_ne, ixO_nat, ixO_ok, bin_quo, bin_rem, stB_int, stB_bool, stB_slice, stB_agg, apO_nil, apO_some, apB_own, *]) ?_)
   | (refine end_ex (v := ?_) (by first | exact .inl rfl | exact .inr rfl) (by simp only [go_sem, reduceIte, Nat.reduceEqDiff, Nat.reduceAdd, Nat.reduceMul, Nat.reduceLeDiff, Nat.reduceLT, *] <;> rfl) ?_; rotate_left)
   | (simp (maxSteps := 1000000) only [go_sem, reduceIte, Nat.reduceEqDiff, Nat.reduceAdd, Nat.reduceMul, Nat.reduceLeDiff, Nat.reduceLT])
   | (simp only [pickO_bool])
   | (simp (maxSteps := 1000000) only [go_sem, *, reduceIte, Nat.reduceEqDiff, Nat.reduceAdd, Nat.reduceMul, Nat.reduceLeDiff, Nat.reduceLT])
   | (refine go_cond (by simp only [go_sem, reduceIte, Nat.reduceEqDiff, Nat.reduceAdd, Nat.reduceMul, Nat.reduceLeDiff, Nat.reduceLT]; rfl) (fun hg => ?_) (fun hg => ?_) <;> ((try (have hgo := hg; simp only [Bool.and_eq_true, Bool.or_eq_false_iff, Bool.not_eq_true', Bool.not_eq_false', decide_eq_true_eq, decide_eq_false_iff_not, beqT, beqF, bneT, bneF] at hgo)); (try (have hgb := hg; simp only [Bool.and_eq_true, Bool.or_eq_false_iff, Bool.not_eq_true', Bool.not_eq_false'] at hgb))))
   | (simp (maxSteps := 1000000) (disch := first | omega | (simp only [hput_next, hto_next, plus_next, cl_next, List.length_set]; omega)) only [go_sem, *, wrapI, cl_blk, cl_cell, cl_cells, hput_blk_ne, hput_cell_ne, hput_cells_ne, plus_blk_ne, plus_cell_ne, plus_cells_ne, ixO_nat, ixO_ok, bin_quo, bin_rem, stB_int, stB_bool, stB_slice, stB_agg, apO_nil, apO_some, apB_own, reduceIte, Nat.reduceEqDiff, Nat.reduceAdd, Nat.reduceMul, Nat.reduceLeDiff, Nat.reduceLT])
theorem laws_FnStepOk_ok (a : Option Addr) (c : Nat) (l : List Int) (hw : ∀ x ∈ l, 0 ≤ x ∧ x < 256) (h : Hp) (hl : SL rByte h a l) (hm : l.length ≤ maxLen) : CC F_laws_FnStepOk [.slice a l.length c] h (.bool true) h := by
  refine call_go (p := c_laws_FnStepOk) rfl rfl c_laws_FnStepOk_ok (Nat.le_of_ble_eq_true rfl) ?_
  rw [res_laws_FnStepOk]
  unfold c_laws_FnStepOk
  repeat' first
   | (refine op_callF (by simp only [go_sem, reduceIte, Nat.reduceEqDiff, Nat.reduceAdd, Nat.reduceMul, Nat.reduceLeDiff, Nat.reduceLT]; rfl) (by simp only [go_sem, reduceIte, Nat.reduceEqDiff, Nat.reduceAdd, Nat.reduceMul, Nat.reduceLeDiff, Nat.reduceLT]; rfl) (by first | exact laws_big_ok _ _ _ _ | exact tc_quiet (by decide) (laws_big_ok _ _ _ _)) ?_)
   | exact isPut_ok
   | (refine op_gv (v := ?_) (by simp only [go_sem, reduceIte, Nat.reduceEqDiff, Nat.reduceAdd, Nat.reduceMul, Nat.reduceLeDiff, Nat.reduceLT]; rfl) (fun hg => ?_) ?_; rotate_left; (focus ((try (have hgo := hg; simp only [Bool.and_eq_true, Bool.or_eq_false_iff, Bool.not_eq_true', Bool.not_eq_false', decide_eq_true_eq, decide_eq_false_iff_not, beqT, beqF, bneT, bneF] at hgo)); (try (have hgb := hg; simp only [Bool.and_eq_true, Bool.or_eq_false_iff, Bool.not_eq_true', Bool.not_eq_false'] at hgb)))))
   | (refine end_gen (by first | exact .inl rfl | exact .inr rfl) (tidy_scal rfl fun m b hm hb => by simp (disch := first | omega | (simp only [hput_next, hto_next, plus_next, cl_next, List.length_set]; omega)) only [go_sem, reduceIte, Nat.reduceEqDiff, Nat.reduceAdd, Nat.reduceMul, Nat.reduceLeDiff, Nat.reduceLT, wrapI, cl_blk, cl_cell, cl_cells, hput_blk_ne, hput_cell_ne, hput_cells_ne, plus_blk_ne, plus_cell_ne, plus_cells_ne, ixO_nat, ixO_ok, bin_quo, bin_rem, stB_int, stB_bool, stB_slice, stB_agg, apO_nil, apO_some, apB_own, *]) ?_)
   | (refine end_ex (v := ?_) (by first | exact .inl rfl | exact .inr rfl) (by simp only [go_sem, reduceIte, Nat.reduceEqDiff, Nat.reduceAdd, Nat.reduceMul, Nat.reduceLeDiff, Nat.reduceLT, *] <;> rfl) ?_; rotate_left)
   | (simp (maxSteps := 1000000) only [go_sem, reduceIte, Nat.reduceEqDiff, Nat.reduceAdd, Nat.reduceMul, Nat.reduceLeDiff, Nat.reduceLT])
   | (simp only [pickO_bool])
   | (simp (maxSteps := 1000000) only [go_sem, *, reduceIte, Nat.reduceEqDiff, Nat.reduceAdd, Nat.reduceMul, Nat.reduceLeDiff, Nat.reduceLT])
   | (refine go_cond (by simp only [go_sem, reduceIte, Nat.reduceEqDiff, Nat.reduceAdd, Nat.reduceMul, Nat.reduceLeDiff, Nat.reduceLT]; rfl) (fun hg => ?_) (fun hg => ?_) <;> ((try (have hgo := hg; simp only [Bool.and_eq_true, Bool.or_eq_false_iff, Bool.not_eq_true', Bool.not_eq_false', decide_eq_true_eq, decide_eq_false_iff_not, beqT, beqF, bneT, bneF] at hgo)); (try (have hgb := hg; simp only [Bool.and_eq_true, Bool.or_eq_false_iff, Bool.not_eq_true', Bool.not_eq_false'] at hgb))))
   | (simp (maxSteps := 1000000) (disch := first | omega | (simp only [hput_next, hto_next, plus_next, cl_next, List.length_set]; omega)) only [go_sem, *, wrapI, cl_blk, cl_cell, cl_cells, hput_blk_ne, hput_cell_ne, hput_cells_ne, plus_blk_ne, plus_cell_ne, plus_cells_ne, ixO_nat, ixO_ok, bin_quo, bin_rem, stB_int, stB_bool, stB_slice, stB_agg, apO_nil, apO_some, apB_own, reduceIte, Nat.reduceEqDiff, Nat.reduceAdd, Nat.reduceMul, Nat.reduceLeDiff, Nat.reduceLT])
  refine op_sp2 (by simp only [go_sem, reduceIte, Nat.reduceEqDiff, Nat.reduceAdd, Nat.reduceMul, Nat.reduceLeDiff, Nat.reduceLT] <;> rfl) (by simp only [go_sem, reduceIte, Nat.reduceEqDiff, Nat.reduceAdd, Nat.reduceMul, Nat.reduceLeDiff, Nat.reduceLT] <;> rfl) (spec_DrawStepOk_ok a c l hw hm _ (hl.mono ⟨by first | omega | (simp only [go_sem, reduceIte, Nat.reduceEqDiff, Nat.reduceAdd, Nat.reduceMul, Nat.reduceLeDiff, Nat.reduceLT]; done) | (simp only [go_sem, reduceIte, Nat.reduceEqDiff, Nat.reduceAdd, Nat.reduceMul, Nat.reduceLeDiff, Nat.reduceLT]; omega), fun m hm => by first | rfl | (simp (disch := first | omega | (simp only [hput_next, hto_next, plus_next, cl_next, List.length_set]; omega)) only [go_sem, reduceIte, Nat.reduceEqDiff, Nat.reduceAdd, Nat.reduceMul, Nat.reduceLeDiff, Nat.reduceLT, wrapI, cl_blk, cl_cell, cl_cells, hput_blk_ne, hput_cell_ne, hput_cells_ne, plus_blk_ne, plus_cell_ne, plus_cells_ne, ixO_nat, ixO_ok, bin_quo, bin_rem, stB_int, stB_bool, stB_slice, stB_agg, apO_nil, apO_some, apB_own, *]; done)⟩)) ?_
  rintro v1 h1 ⟨x, rfl, hx, e1⟩
  replace e1 : Ext h h1 := Ext.trans ⟨by first | omega | (simp only [go_sem, reduceIte, Nat.reduceEqDiff, Nat.reduceAdd, Nat.reduceMul, Nat.reduceLeDiff, Nat.reduceLT]; done) | (simp only [go_sem, reduceIte, Nat.reduceEqDiff, Nat.reduceAdd, Nat.reduceMul, Nat.reduceLeDiff, Nat.reduceLT]; omega), fun m hm => by first | rfl | (simp (disch := first | omega | (simp only [hput_next, hto_next, plus_next, cl_next, List.length_set]; omega)) only [go_sem, reduceIte, Nat.reduceEqDiff, Nat.reduceAdd, Nat.reduceMul, Nat.reduceLeDiff, Nat.reduceLT, wrapI, cl_blk, cl_cell, cl_cells, hput_blk_ne, hput_cell_ne, hput_cells_ne, plus_blk_ne, plus_cell_ne, plus_cells_ne, ixO_nat, ixO_ok, bin_quo, bin_rem, stB_int, stB_bool, stB_slice, stB_agg, apO_nil, apO_some, apB_own, *]; done)⟩ e1
  have hcl_e1 := ext_cell e1; have hcs_e1 := ext_cells e1; have hbl_e1 := e1.2; have hnx_e1 := e1.1
  obtain ⟨op, r, a2, b, n⟩ := x
  obtain ⟨ho, -, -, -, -⟩ := hx
  cases h9 : sStepOk op r a2 b n 9
  · have k9 := fun h => impl_StepOk_ok op r a2 b n 9 ho h
    have j9 := fun h => spec_StepOk_ok op r a2 b n 9 h
    simp only [h9] at k9 j9
    clear h9
    repeat' first
   | (refine op_callF (by simp only [go_sem, reduceIte, Nat.reduceEqDiff, Nat.reduceAdd, Nat.reduceMul, Nat.reduceLeDiff, Nat.reduceLT]; rfl) (by simp only [go_sem, reduceIte, Nat.reduceEqDiff, Nat.reduceAdd, Nat.reduceMul, Nat.reduceLeDiff, Nat.reduceLT]; rfl) (by first | exact k9 _ | exact tc_quiet (by decide) (k9 _) | exact j9 _ | exact tc_quiet (by decide) (j9 _)) ?_)
   | exact isPut_ok
   | (refine op_gv (v := ?_) (by simp only [go_sem, reduceIte, Nat.reduceEqDiff, Nat.reduceAdd, Nat.reduceMul, Nat.reduceLeDiff, Nat.reduceLT]; rfl) (fun hg => ?_) ?_; rotate_left; (focus ((try (have hgo := hg; simp only [Bool.and_eq_true, Bool.or_eq_false_iff, Bool.not_eq_true', Bool.not_eq_false', decide_eq_true_eq, decide_eq_false_iff_not, beqT, beqF, bneT, bneF] at hgo)); (try (have hgb := hg; simp only [Bool.and_eq_true, Bool.or_eq_false_iff, Bool.not_eq_true', Bool.not_eq_false'] at hgb)))))
   | (refine end_gen (by first | exact .inl rfl | exact .inr rfl) (tidy_scal rfl fun m b hm hb => by simp (disch := first | omega | (simp only [hput_next, hto_next, plus_next, cl_next, List.length_set]; omega)) only [go_sem, reduceIte, Nat.reduceEqDiff, Nat.reduceAdd, Nat.reduceMul, Nat.reduceLeDiff, Nat.reduceLT, wrapI, cl_blk, cl_cell, cl_cells, hput_blk_ne, hput_cell_ne, hput_cells_ne, plus_blk_ne, plus_cell_ne, plus_cells_ne, ixO_nat, ixO_ok, bin_quo, bin_rem, stB_int, stB_bool, stB_slice, stB_agg, apO_nil, apO_some, apB_own, *]) ?_)
   | (refine end_ex (v := ?_) (by first | exact .inl rfl | exact .inr rfl) (by simp only [go_sem, reduceIte, Nat.reduceEqDiff, Nat.reduceAdd, Nat.reduceMul, Nat.reduceLeDiff, Nat.reduceLT, *] <;> rfl) ?_; rotate_left)
   | (simp (maxSteps := 1000000) only [go_sem, reduceIte, Nat.reduceEqDiff, Nat.reduceAdd, Nat.reduceMul, Nat.reduceLeDiff, Nat.reduceLT])
   | (simp only [pickO_bool])
   | (simp (maxSteps := 1000000) only [go_sem, *, reduceIte, Nat.reduceEqDiff, Nat.reduceAdd, Nat.reduceMul, Nat.reduceLeDiff, Nat.reduceLT])
   | (refine go_cond (by simp only [go_sem, reduceIte, Nat.reduceEqDiff, Nat.reduceAdd, Nat.reduceMul, Nat.reduceLeDiff, Nat.reduceLT]; rfl) (fun hg => ?_) (fun hg => ?_) <;> ((try (have hgo := hg; simp only [Bool.and_eq_true, Bool.or_eq_false_iff, Bool.not_eq_true', Bool.not_eq_false', decide_eq_true_eq, decide_eq_false_iff_not, beqT, beqF, bneT, bneF] at hgo)); (try (have hgb := hg; simp only [Bool.and_eq_true, Bool.or_eq_false_iff, Bool.not_eq_true', Bool.not_eq_false'] at hgb))))
   | (simp (maxSteps := 1000000) (disch := first | omega | (simp only [hput_next, hto_next, plus_next, cl_next, List.length_set]; omega)) only [go_sem, *, wrapI, cl_blk, cl_cell, cl_cells, hput_blk_ne, hput_cell_ne, hput_cells_ne, plus_blk_ne, plus_cell_ne, plus_cells_ne, ixO_nat, ixO_ok, bin_quo, bin_rem, stB_int, stB_bool, stB_slice, stB_agg, apO_nil, apO_some, apB_own, reduceIte, Nat.reduceEqDiff, Nat.reduceAdd, Nat.reduceMul, Nat.reduceLeDiff, Nat.reduceLT])
  · obtain ⟨h10, t1, t2, t3, t4, t5, t6⟩ := stepOk_more h9
    have k9 := fun h => impl_StepOk_ok op r a2 b n 9 ho h
    have j9 := fun h => spec_StepOk_ok op r a2 b n 9 h
    have k10 := fun h => impl_StepOk_ok op r a2 b n 10 ho h
    simp only [h9, h10] at k9 j9 k10
    clear h9 h10
    repeat' first
   | (refine op_callF (by simp only [go_sem, reduceIte, Nat.reduceEqDiff, Nat.reduceAdd, Nat.reduceMul, Nat.reduceLeDiff, Nat.reduceLT]; rfl) (by simp only [go_sem, reduceIte, Nat.reduceEqDiff, Nat.reduceAdd, Nat.reduceMul, Nat.reduceLeDiff, Nat.reduceLT]; rfl) (by first | exact k9 _ | exact tc_quiet (by decide) (k9 _) | exact j9 _ | exact tc_quiet (by decide) (j9 _) | exact k10 _ | exact tc_quiet (by decide) (k10 _)) ?_)
   | exact isPut_ok
   | (refine op_gv (v := ?_) (by simp only [go_sem, reduceIte, Nat.reduceEqDiff, Nat.reduceAdd, Nat.reduceMul, Nat.reduceLeDiff, Nat.reduceLT]; rfl) (fun hg => ?_) ?_; rotate_left; (focus ((try (have hgo := hg; simp only [Bool.and_eq_true, Bool.or_eq_false_iff, Bool.not_eq_true', Bool.not_eq_false', decide_eq_true_eq, decide_eq_false_iff_not, beqT, beqF, bneT, bneF] at hgo)); (try (have hgb := hg; simp only [Bool.and_eq_true, Bool.or_eq_false_iff, Bool.not_eq_true', Bool.not_eq_false'] at hgb)))))
   | (refine op_gv2 (v := ?_) (by simp only [go_sem, reduceIte, Nat.reduceEqDiff, Nat.reduceAdd, Nat.reduceMul, Nat.reduceLeDiff, Nat.reduceLT]; rfl) (fun hg hg2 => ?_) ?_; rotate_left; (focus ((try (have hgo := hg; simp only [Bool.and_eq_true, Bool.or_eq_false_iff, Bool.not_eq_true', Bool.not_eq_false', decide_eq_true_eq, decide_eq_false_iff_not, beqT, beqF, bneT, bneF] at hgo)); (try (have hgb := hg; simp only [Bool.and_eq_true, Bool.or_eq_false_iff, Bool.not_eq_true', Bool.not_eq_false'] at hgb)); (try (have hgo2 := hg2; simp only [Bool.and_eq_true, Bool.or_eq_false_iff, Bool.not_eq_true', Bool.not_eq_false', decide_eq_true_eq, decide_eq_false_iff_not, beqT, beqF, bneT, bneF] at hgo2)); (try (have hgb2 := hg2; simp only [Bool.and_eq_true, Bool.or_eq_false_iff, Bool.not_eq_true', Bool.not_eq_false'] at hgb2)))))
   | (refine end_gen (by first | exact .inl rfl | exact .inr rfl) (tidy_scal rfl fun m b hm hb => by simp (disch := first | omega | (simp only [hput_next, hto_next, plus_next, cl_next, List.length_set]; omega)) only [go_sem, reduceIte, Nat.reduceEqDiff, Nat.reduceAdd, Nat.reduceMul, Nat.reduceLeDiff, Nat.reduceLT, wrapI, cl_blk, cl_cell, cl_cells, hput_blk_ne, hput_cell_ne, hput_cells_ne, plus_blk_ne, plus_cell_ne, plus_cells_ne, ixO_nat, ixO_ok, bin_quo, bin_rem, stB_int, stB_bool, stB_slice, stB_agg, apO_nil, apO_some, apB_own, *]) ?_)
   | (refine end_ex (v := ?_) (by first | exact .inl rfl | exact .inr rfl) (by simp only [go_sem, reduceIte, Nat.reduceEqDiff, Nat.reduceAdd, Nat.reduceMul, Nat.reduceLeDiff, Nat.reduceLT, *] <;> rfl) ?_; rotate_left)
   | (simp (maxSteps := 1000000) only [go_sem, reduceIte, Nat.reduceEqDiff, Nat.reduceAdd, Nat.reduceMul, Nat.reduceLeDiff, Nat.reduceLT])
   | (simp only [pickO_bool])
   | (simp (maxSteps := 1000000) only [go_sem, *, reduceIte, Nat.reduceEqDiff, Nat.reduceAdd, Nat.reduceMul, Nat.reduceLeDiff, Nat.reduceLT])
   | (refine go_cond (by simp only [go_sem, reduceIte, Nat.reduceEqDiff, Nat.reduceAdd, Nat.reduceMul, Nat.reduceLeDiff, Nat.reduceLT]; rfl) (fun hg => ?_) (fun hg => ?_) <;> ((try (have hgo := hg; simp only [Bool.and_eq_true, Bool.or_eq_false_iff, Bool.not_eq_true', Bool.not_eq_false', decide_eq_true_eq, decide_eq_false_iff_not, beqT, beqF, bneT, bneF] at hgo)); (try (have hgb := hg; simp only [Bool.and_eq_true, Bool.or_eq_false_iff, Bool.not_eq_true', Bool.not_eq_false'] at hgb))))
   | (simp (maxSteps := 1000000) (disch := first | omega | (simp only [hput_next, hto_next, plus_next, cl_next, List.length_set]; omega)) only [go_sem, *, wrapI, cl_blk, cl_cell, cl_cells, hput_blk_ne, hput_cell_ne, hput_cells_ne, plus_blk_ne, plus_cell_ne, plus_cells_ne, ixO_nat, ixO_ok, bin_quo, bin_rem, stB_int, stB_bool, stB_slice, stB_agg, apO_nil, apO_some, apB_own, reduceIte, Nat.reduceEqDiff, Nat.reduceAdd, Nat.reduceMul, Nat.reduceLeDiff, Nat.reduceLT])

end Go.Proofs.YtbgaljpilmmefaaM
