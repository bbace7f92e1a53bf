/- When code is right, by the reference and by the program. -/
import Derived.Test.YtbgaljpilmmefaaA4S5
import Derived.Test.YtbgaljpilmmefaaA4R3
namespace Go.Proofs.YtbgaljpilmmefaaM
open Go
set_option linter.unusedVariables false
set_option linter.unusedSimpArgs false
attribute [local irreducible] OpG Go Done OpV OpK OpH OpN OpL endQ exQ RunP OpsP Call pureV opV binV makeV effV appendV sliceV isPut
set_option maxHeartbeats 4000000

def stepOk (s : StepD) (k : Int) : Bool := sStepOk s.op s.r s.a s.b s.n k
def lastOp (l : List StepD) : Int := match l.getLast? with
  | some s => s.op
  | none => 0
def machineOk (l : List StepD) : Bool := (decide ((l.length : Int) ≥ 1) && decide ((l.length : Int) ≤ 900)) && l.all (fun s => stepOk s l.length) && (lastOp l == 9 || lastOp l == 11)
theorem last_at (l : List StepD) (h : 0 < l.length) : lastOp l = (l[l.length - 1]).op := by
  unfold lastOp
  rw [List.getLast?_eq_getElem?, List.getElem?_eq_getElem (by omega)]
theorem spec_step_ok (s : StepD) (k : Int) (h : Hp) : CC F_spec_StepOk [sv s, .int .i64 k] h (.bool (stepOk s k)) h := spec_StepOk_ok _ _ _ _ _ _ _
theorem impl_step_ok (s : StepD) (hw : s.wf) (k : Int) (h : Hp) : CC F_impl_StepOk [sv s, .int .i64 k] h (.bool (stepOk s k)) h := impl_StepOk_ok _ _ _ _ _ _ hw.1 _

theorem spec_MachineOk_ok (a : Option Addr) (c : Nat) (l : List StepD) (h : Hp) (hl : SL rStep h a l) (hn : l.length < 4294967296) : CC F_spec_MachineOk [.slice a l.length c] h (.bool (machineOk l)) h := by
  refine call_go (p := c_spec_MachineOk) rfl rfl c_spec_MachineOk_ok (Nat.le_of_ble_eq_true rfl) ?_
  rw [res_spec_MachineOk]
  unfold c_spec_MachineOk
  repeat' first
   | (refine op_callF (by simp only [go_sem, reduceIte, Nat.reduceEqDiff, Nat.reduceAdd, Nat.reduceMul, Nat.reduceLeDiff, Nat.reduceLT]; rfl) (by simp only [go_sem, reduceIte, Nat.reduceEqDiff, Nat.reduceAdd, Nat.reduceMul, Nat.reduceLeDiff, Nat.reduceLT]; rfl) (by first | exact spec_l1In_ok _ _ _ _ | exact tc_quiet (by decide) (spec_l1In_ok _ _ _ _)) ?_)
   | exact isPut_ok
   | (refine op_gv (v := ?_) (by simp only [go_sem, reduceIte, Nat.reduceEqDiff, Nat.reduceAdd, Nat.reduceMul, Nat.reduceLeDiff, Nat.reduceLT]; rfl) (fun hg => ?_) ?_; rotate_left; (focus ((try (have hgo := hg; simp only [Bool.and_eq_true, Bool.or_eq_false_iff, Bool.not_eq_true', Bool.not_eq_false', decide_eq_true_eq, decide_eq_false_iff_not, beqT, beqF, bneT, bneF] at hgo)); (try (have hgb := hg; simp only [Bool.and_eq_true, Bool.or_eq_false_iff, Bool.not_eq_true', Bool.not_eq_false'] at hgb)))))
   | (refine end_gen (by first | exact .inl rfl | exact .inr rfl) (tidy_scal rfl fun m b hm hb => by simp (disch := first | omega | (simp only [hput_next, hto_next, plus_next, cl_next, List.length_set]; omega)) only [go_sem, reduceIte, Nat.reduceEqDiff, Nat.reduceAdd, Nat.reduceMul, Nat.reduceLeDiff, Nat.reduceLT, wrapI, cl_blk, cl_cell, cl_cells, hput_blk_ne, hput_cell_ne, hput_cells_ne, plus_blk_ne, plus_cell_ne, plus_cells_ne, ixO_nat, ixO_ok, bin_quo, bin_rem, stB_int, stB_bool, stB_slice, stB_agg, apO_nil, apO_some, apB_own, *]) ?_)
   | (refine end_ex (v := ?_) (by first | exact .inl rfl | exact .inr rfl) (by simp only [go_sem, reduceIte, Nat.reduceEqDiff, Nat.reduceAdd, Nat.reduceMul, Nat.reduceLeDiff, Nat.reduceLT, *] <;> rfl) ?_; rotate_left)
   | (simp (maxSteps := 1000000) only [go_sem, reduceIte, Nat.reduceEqDiff, Nat.reduceAdd, Nat.reduceMul, Nat.reduceLeDiff, Nat.reduceLT])
   | (simp only [pickO_bool])
   | (simp (maxSteps := 1000000) only [go_sem, *, reduceIte, Nat.reduceEqDiff, Nat.reduceAdd, Nat.reduceMul, Nat.reduceLeDiff, Nat.reduceLT])
   | (refine go_cond (by simp only [go_sem, reduceIte, Nat.reduceEqDiff, Nat.reduceAdd, Nat.reduceMul, Nat.reduceLeDiff, Nat.reduceLT]; rfl) (fun hg => ?_) (fun hg => ?_) <;> ((try (have hgo := hg; simp only [Bool.and_eq_true, Bool.or_eq_false_iff, Bool.not_eq_true', Bool.not_eq_false', decide_eq_true_eq, decide_eq_false_iff_not, beqT, beqF, bneT, bneF] at hgo)); (try (have hgb := hg; simp only [Bool.and_eq_true, Bool.or_eq_false_iff, Bool.not_eq_true', Bool.not_eq_false'] at hgb))))
   | (simp (maxSteps := 1000000) (disch := first | omega | (simp only [hput_next, hto_next, plus_next, cl_next, List.length_set]; omega)) only [go_sem, *, wrapI, cl_blk, cl_cell, cl_cells, hput_blk_ne, hput_cell_ne, hput_cells_ne, plus_blk_ne, plus_cell_ne, plus_cells_ne, ixO_nat, ixO_ok, bin_quo, bin_rem, stB_int, stB_bool, stB_slice, stB_agg, apO_nil, apO_some, apB_own, reduceIte, Nat.reduceEqDiff, Nat.reduceAdd, Nat.reduceMul, Nat.reduceLeDiff, Nat.reduceLT])
  · have : (decide ((l.length : Int) ≥ 1) && decide ((l.length : Int) ≤ 900)) = false := by simpa only [Bool.not_eq_true'] using hg
    simp [machineOk, this]
  · have hlen : (decide ((l.length : Int) ≥ 1) && decide ((l.length : Int) ≤ 900)) = true := by simpa only [Bool.not_eq_false'] using hg
    have hlb : 1 ≤ l.length ∧ l.length ≤ 900 := by have := hgo; omega
    refine go_loop (fun m s => ∃ j : Nat, j + m = l.length ∧ (∀ i (h1 : i < l.length), i < j → stepOk l[i] l.length = true) ∧ s.t 0 = .slice a l.length c ∧ s.t 3 = .int .i64 (l.length : Int) ∧ s.t 4 = .int .i64 (j : Int) ∧ Ext h s.h) l.length ?_ ?_
    · refine ⟨0, by omega, fun i _ hi => by omega, ?_, ?_, ?_, ?_⟩
      all_goals (first | trivial | assumption | omega | exact ⟨by first | omega | (simp only [go_sem, reduceIte, Nat.reduceEqDiff, Nat.reduceAdd, Nat.reduceMul, Nat.reduceLeDiff, Nat.reduceLT]; done) | (simp only [go_sem, reduceIte, Nat.reduceEqDiff, Nat.reduceAdd, Nat.reduceMul, Nat.reduceLeDiff, Nat.reduceLT]; omega), fun m hm => by first | rfl | (simp (disch := first | omega | (simp only [hput_next, hto_next, plus_next, cl_next, List.length_set]; omega)) only [go_sem, reduceIte, Nat.reduceEqDiff, Nat.reduceAdd, Nat.reduceMul, Nat.reduceLeDiff, Nat.reduceLT, wrapI, cl_blk, cl_cell, cl_cells, hput_blk_ne, hput_cell_ne, hput_cells_ne, plus_blk_ne, plus_cell_ne, plus_cells_ne, ixO_nat, ixO_ok, bin_quo, bin_rem, stB_int, stB_bool, stB_slice, stB_agg, apO_nil, apO_some, apB_own, *]; done)⟩ | (simp (disch := first | omega | (simp only [hput_next, hto_next, plus_next, cl_next, List.length_set]; omega)) only [go_sem, reduceIte, Nat.reduceEqDiff, Nat.reduceAdd, Nat.reduceMul, Nat.reduceLeDiff, Nat.reduceLT, wrapI, cl_blk, cl_cell, cl_cells, hput_blk_ne, hput_cell_ne, hput_cells_ne, plus_blk_ne, plus_cell_ne, plus_cells_ne, ixO_nat, ixO_ok, bin_quo, bin_rem, stB_int, stB_bool, stB_slice, stB_agg, apO_nil, apO_some, apB_own, *]; done) | (simp (disch := first | omega | (simp only [hput_next, hto_next, plus_next, cl_next, List.length_set]; omega)) only [go_sem, reduceIte, Nat.reduceEqDiff, Nat.reduceAdd, Nat.reduceMul, Nat.reduceLeDiff, Nat.reduceLT, wrapI, cl_blk, cl_cell, cl_cells, hput_blk_ne, hput_cell_ne, hput_cells_ne, plus_blk_ne, plus_cell_ne, plus_cells_ne, ixO_nat, ixO_ok, bin_quo, bin_rem, stB_int, stB_bool, stB_slice, stB_agg, apO_nil, apO_some, apB_own, *]; omega))
    · rintro m s ⟨j, hj, hbef, h0, h3, h4, he⟩
      have hcl_he := ext_cell he; have hcs_he := ext_cells he; have hbl_he := he.2; have hnx_he := he.1
      by_cases hlt : j < l.length
      · have hd : decide ((j : Int) < (l.length : Int)) = true := by rw [decide_eq_true_eq]; omega
        obtain ⟨n0, o0, cs, rfl, hn0, hc, hr⟩ := hl j hlt
        rw [rStep_R] at hr; subst hr; rw [rStep_z] at hc
        replace hbef : True → _ := fun _ => hbef
        repeat' first
   | (refine op_callF (by simp only [go_sem, reduceIte, Nat.reduceEqDiff, Nat.reduceAdd, Nat.reduceMul, Nat.reduceLeDiff, Nat.reduceLT]; rfl) (by simp only [go_sem, reduceIte, Nat.reduceEqDiff, Nat.reduceAdd, Nat.reduceMul, Nat.reduceLeDiff, Nat.reduceLT]; rfl) (by first | exact spec_step_ok l[j] _ _ | exact tc_quiet (by decide) (spec_step_ok l[j] _ _)) ?_)
   | exact isPut_ok
   | (refine op_gv (v := ?_) (by simp only [go_sem, reduceIte, Nat.reduceEqDiff, Nat.reduceAdd, Nat.reduceMul, Nat.reduceLeDiff, Nat.reduceLT]; rfl) (fun hg => ?_) ?_; rotate_left; (focus ((try (have hgo := hg; simp only [Bool.and_eq_true, Bool.or_eq_false_iff, Bool.not_eq_true', Bool.not_eq_false', decide_eq_true_eq, decide_eq_false_iff_not, beqT, beqF, bneT, bneF] at hgo)); (try (have hgb := hg; simp only [Bool.and_eq_true, Bool.or_eq_false_iff, Bool.not_eq_true', Bool.not_eq_false'] at hgb)))))
   | (refine end_gen (by first | exact .inl rfl | exact .inr rfl) (tidy_scal rfl fun m b hm hb => by simp (disch := first | omega | (simp only [hput_next, hto_next, plus_next, cl_next, List.length_set]; omega)) only [go_sem, reduceIte, Nat.reduceEqDiff, Nat.reduceAdd, Nat.reduceMul, Nat.reduceLeDiff, Nat.reduceLT, wrapI, cl_blk, cl_cell, cl_cells, hput_blk_ne, hput_cell_ne, hput_cells_ne, plus_blk_ne, plus_cell_ne, plus_cells_ne, ixO_nat, ixO_ok, bin_quo, bin_rem, stB_int, stB_bool, stB_slice, stB_agg, apO_nil, apO_some, apB_own, *]) ?_)
   | (refine end_ex (v := ?_) (by first | exact .inl rfl | exact .inr rfl) (by simp only [go_sem, reduceIte, Nat.reduceEqDiff, Nat.reduceAdd, Nat.reduceMul, Nat.reduceLeDiff, Nat.reduceLT, *] <;> rfl) ?_; rotate_left)
   | (simp (maxSteps := 1000000) only [go_sem, reduceIte, Nat.reduceEqDiff, Nat.reduceAdd, Nat.reduceMul, Nat.reduceLeDiff, Nat.reduceLT])
   | (simp only [pickO_bool])
   | (simp (maxSteps := 1000000) only [go_sem, *, reduceIte, Nat.reduceEqDiff, Nat.reduceAdd, Nat.reduceMul, Nat.reduceLeDiff, Nat.reduceLT])
   | (refine go_cond (by simp only [go_sem, reduceIte, Nat.reduceEqDiff, Nat.reduceAdd, Nat.reduceMul, Nat.reduceLeDiff, Nat.reduceLT]; rfl) (fun hg => ?_) (fun hg => ?_) <;> ((try (have hgo := hg; simp only [Bool.and_eq_true, Bool.or_eq_false_iff, Bool.not_eq_true', Bool.not_eq_false', decide_eq_true_eq, decide_eq_false_iff_not, beqT, beqF, bneT, bneF] at hgo)); (try (have hgb := hg; simp only [Bool.and_eq_true, Bool.or_eq_false_iff, Bool.not_eq_true', Bool.not_eq_false'] at hgb))))
   | (simp (maxSteps := 1000000) (disch := first | omega | (simp only [hput_next, hto_next, plus_next, cl_next, List.length_set]; omega)) only [go_sem, *, wrapI, cl_blk, cl_cell, cl_cells, hput_blk_ne, hput_cell_ne, hput_cells_ne, plus_blk_ne, plus_cell_ne, plus_cells_ne, ixO_nat, ixO_ok, bin_quo, bin_rem, stB_int, stB_bool, stB_slice, stB_agg, apO_nil, apO_some, apB_own, reduceIte, Nat.reduceEqDiff, Nat.reduceAdd, Nat.reduceMul, Nat.reduceLeDiff, Nat.reduceLT])
        · have h1 : l.all (fun s => stepOk s l.length) = false := by
            rw [List.all_eq_false]; exact ⟨_, List.getElem_mem hlt, by simpa using hg⟩
          simp [machineOk, h1]
        · refine round_i ⟨m - 1, by omega, j + 1, by omega, ?_, ?_, ?_, ?_, ?_⟩
          · intro i q1 hi
            by_cases hij : i = j
            · subst hij; simpa using hg
            · exact hbef trivial i q1 (by omega)
          all_goals (first | trivial | assumption | omega | exact ⟨by first | omega | (simp only [go_sem, reduceIte, Nat.reduceEqDiff, Nat.reduceAdd, Nat.reduceMul, Nat.reduceLeDiff, Nat.reduceLT]; done) | (simp only [go_sem, reduceIte, Nat.reduceEqDiff, Nat.reduceAdd, Nat.reduceMul, Nat.reduceLeDiff, Nat.reduceLT]; omega), fun m hm => by first | rfl | (simp (disch := first | omega | (simp only [hput_next, hto_next, plus_next, cl_next, List.length_set]; omega)) only [go_sem, reduceIte, Nat.reduceEqDiff, Nat.reduceAdd, Nat.reduceMul, Nat.reduceLeDiff, Nat.reduceLT, wrapI, cl_blk, cl_cell, cl_cells, hput_blk_ne, hput_cell_ne, hput_cells_ne, plus_blk_ne, plus_cell_ne, plus_cells_ne, ixO_nat, ixO_ok, bin_quo, bin_rem, stB_int, stB_bool, stB_slice, stB_agg, apO_nil, apO_some, apB_own, *]; done)⟩ | (simp (disch := first | omega | (simp only [hput_next, hto_next, plus_next, cl_next, List.length_set]; omega)) only [go_sem, reduceIte, Nat.reduceEqDiff, Nat.reduceAdd, Nat.reduceMul, Nat.reduceLeDiff, Nat.reduceLT, wrapI, cl_blk, cl_cell, cl_cells, hput_blk_ne, hput_cell_ne, hput_cells_ne, plus_blk_ne, plus_cell_ne, plus_cells_ne, ixO_nat, ixO_ok, bin_quo, bin_rem, stB_int, stB_bool, stB_slice, stB_agg, apO_nil, apO_some, apB_own, *]; done) | (simp (disch := first | omega | (simp only [hput_next, hto_next, plus_next, cl_next, List.length_set]; omega)) only [go_sem, reduceIte, Nat.reduceEqDiff, Nat.reduceAdd, Nat.reduceMul, Nat.reduceLeDiff, Nat.reduceLT, wrapI, cl_blk, cl_cell, cl_cells, hput_blk_ne, hput_cell_ne, hput_cells_ne, plus_blk_ne, plus_cell_ne, plus_cells_ne, ixO_nat, ixO_ok, bin_quo, bin_rem, stB_int, stB_bool, stB_slice, stB_agg, apO_nil, apO_some, apB_own, *]; omega))
      · have hd : decide ((j : Int) < (l.length : Int)) = false := by rw [decide_eq_false_iff_not]; omega
        have hall : l.all (fun s => stepOk s l.length) = true := by
          rw [List.all_eq_true]; intro x hx
          obtain ⟨i, hi, rfl⟩ := List.getElem_of_mem hx
          exact hbef i hi (by omega)
        clear hbef
        obtain ⟨n0, o0, cs, rfl, hn0, hc, hr⟩ := hl (l.length - 1) (by omega)
        rw [rStep_R] at hr; subst hr; rw [rStep_z] at hc
        have htn : ((l.length : Int) - 1).toNat = l.length - 1 := by omega
        have hcc := step_cells hc
        simp only [Nat.add_assoc] at hcc
        repeat' first
   | exact isPut_ok
   | (refine op_gv (v := ?_) (by simp only [go_sem, reduceIte, Nat.reduceEqDiff, Nat.reduceAdd, Nat.reduceMul, Nat.reduceLeDiff, Nat.reduceLT]; rfl) (fun hg => ?_) ?_; rotate_left; (focus ((try (have hgo := hg; simp only [Bool.and_eq_true, Bool.or_eq_false_iff, Bool.not_eq_true', Bool.not_eq_false', decide_eq_true_eq, decide_eq_false_iff_not, beqT, beqF, bneT, bneF] at hgo)); (try (have hgb := hg; simp only [Bool.and_eq_true, Bool.or_eq_false_iff, Bool.not_eq_true', Bool.not_eq_false'] at hgb)))))
   | (refine end_gen (by first | exact .inl rfl | exact .inr rfl) (tidy_scal rfl fun m b hm hb => by simp (disch := first | omega | (simp only [hput_next, hto_next, plus_next, cl_next, List.length_set]; omega)) only [go_sem, reduceIte, Nat.reduceEqDiff, Nat.reduceAdd, Nat.reduceMul, Nat.reduceLeDiff, Nat.reduceLT, wrapI, cl_blk, cl_cell, cl_cells, hput_blk_ne, hput_cell_ne, hput_cells_ne, plus_blk_ne, plus_cell_ne, plus_cells_ne, ixO_nat, ixO_ok, bin_quo, bin_rem, stB_int, stB_bool, stB_slice, stB_agg, apO_nil, apO_some, apB_own, *]) ?_)
   | (refine end_ex (v := ?_) (by first | exact .inl rfl | exact .inr rfl) (by simp only [go_sem, reduceIte, Nat.reduceEqDiff, Nat.reduceAdd, Nat.reduceMul, Nat.reduceLeDiff, Nat.reduceLT, *] <;> rfl) ?_; rotate_left)
   | (simp (maxSteps := 1000000) only [go_sem, reduceIte, Nat.reduceEqDiff, Nat.reduceAdd, Nat.reduceMul, Nat.reduceLeDiff, Nat.reduceLT])
   | (simp only [pickO_bool])
   | (simp (maxSteps := 1000000) only [go_sem, *, reduceIte, Nat.reduceEqDiff, Nat.reduceAdd, Nat.reduceMul, Nat.reduceLeDiff, Nat.reduceLT])
   | (refine go_cond (by simp only [go_sem, reduceIte, Nat.reduceEqDiff, Nat.reduceAdd, Nat.reduceMul, Nat.reduceLeDiff, Nat.reduceLT]; rfl) (fun hg => ?_) (fun hg => ?_) <;> ((try (have hgo := hg; simp only [Bool.and_eq_true, Bool.or_eq_false_iff, Bool.not_eq_true', Bool.not_eq_false', decide_eq_true_eq, decide_eq_false_iff_not, beqT, beqF, bneT, bneF] at hgo)); (try (have hgb := hg; simp only [Bool.and_eq_true, Bool.or_eq_false_iff, Bool.not_eq_true', Bool.not_eq_false'] at hgb))))
   | (simp (maxSteps := 1000000) (disch := first | omega | (simp only [hput_next, hto_next, plus_next, cl_next, List.length_set]; omega)) only [go_sem, *, wrapI, cl_blk, cl_cell, cl_cells, hput_blk_ne, hput_cell_ne, hput_cells_ne, plus_blk_ne, plus_cell_ne, plus_cells_ne, ixO_nat, ixO_ok, bin_quo, bin_rem, stB_int, stB_bool, stB_slice, stB_agg, apO_nil, apO_some, apB_own, reduceIte, Nat.reduceEqDiff, Nat.reduceAdd, Nat.reduceMul, Nat.reduceLeDiff, Nat.reduceLT])
        all_goals simp [machineOk, hall, hlen, last_at l (by omega)]

theorem any_not {α : Type} (l : List α) (p : α → Bool) : l.any (fun x => !p x) = !(l.all p) := by
  induction l with
  | nil => rfl
  | cons x l ih => simp only [List.any_cons, List.all_cons, ih, Bool.not_and]
theorem impl_MachineOk_1_ok (x : StepD) (hw : x.wf) (b : Nat) (a : Option Addr) (len c : Nat) (hh : Hp) (hb : hh.cell b 0 = some (.slice a len c)) (hn : b < hh.next) : CC F_impl_MachineOk_1 [sv x, .pointer (some ⟨b, 0, none⟩)] hh (.bool (!stepOk x len)) hh := by
  refine call_go (p := c_impl_MachineOk_1) rfl rfl c_impl_MachineOk_1_ok (Nat.le_of_ble_eq_true rfl) ?_
  rw [res_impl_MachineOk_1]
  unfold c_impl_MachineOk_1
  repeat' first
   | (refine op_callF (by simp only [go_sem, reduceIte, Nat.reduceEqDiff, Nat.reduceAdd, Nat.reduceMul, Nat.reduceLeDiff, Nat.reduceLT]; rfl) (by simp only [go_sem, reduceIte, Nat.reduceEqDiff, Nat.reduceAdd, Nat.reduceMul, Nat.reduceLeDiff, Nat.reduceLT]; rfl) (by first | exact impl_step_ok x hw _ _ | exact tc_quiet (by decide) (impl_step_ok x hw _ _)) ?_)
   | exact isPut_ok
   | (refine op_gv (v := ?_) (by simp only [go_sem, reduceIte, Nat.reduceEqDiff, Nat.reduceAdd, Nat.reduceMul, Nat.reduceLeDiff, Nat.reduceLT]; rfl) (fun hg => ?_) ?_; rotate_left; (focus ((try (have hgo := hg; simp only [Bool.and_eq_true, Bool.or_eq_false_iff, Bool.not_eq_true', Bool.not_eq_false', decide_eq_true_eq, decide_eq_false_iff_not, beqT, beqF, bneT, bneF] at hgo)); (try (have hgb := hg; simp only [Bool.and_eq_true, Bool.or_eq_false_iff, Bool.not_eq_true', Bool.not_eq_false'] at hgb)))))
   | (refine end_gen (by first | exact .inl rfl | exact .inr rfl) (tidy_scal rfl fun m b hm hb => by simp (disch := first | omega | (simp only [hput_next, hto_next, plus_next, cl_next, List.length_set]; omega)) only [go_sem, reduceIte, Nat.reduceEqDiff, Nat.reduceAdd, Nat.reduceMul, Nat.reduceLeDiff, Nat.reduceLT, wrapI, cl_blk, cl_cell, cl_cells, hput_blk_ne, hput_cell_ne, hput_cells_ne, plus_blk_ne, plus_cell_ne, plus_cells_ne, ixO_nat, ixO_ok, bin_quo, bin_rem, stB_int, stB_bool, stB_slice, stB_agg, apO_nil, apO_some, apB_own, *]) ?_)
   | (refine end_ex (v := ?_) (by first | exact .inl rfl | exact .inr rfl) (by simp only [go_sem, reduceIte, Nat.reduceEqDiff, Nat.reduceAdd, Nat.reduceMul, Nat.reduceLeDiff, Nat.reduceLT, *] <;> rfl) ?_; rotate_left)
   | (simp (maxSteps := 1000000) only [go_sem, reduceIte, Nat.reduceEqDiff, Nat.reduceAdd, Nat.reduceMul, Nat.reduceLeDiff, Nat.reduceLT])
   | (simp only [pickO_bool])
   | (simp (maxSteps := 1000000) only [go_sem, *, reduceIte, Nat.reduceEqDiff, Nat.reduceAdd, Nat.reduceMul, Nat.reduceLeDiff, Nat.reduceLT])
   | (refine go_cond (by simp only [go_sem, reduceIte, Nat.reduceEqDiff, Nat.reduceAdd, Nat.reduceMul, Nat.reduceLeDiff, Nat.reduceLT]; rfl) (fun hg => ?_) (fun hg => ?_) <;> ((try (have hgo := hg; simp only [Bool.and_eq_true, Bool.or_eq_false_iff, Bool.not_eq_true', Bool.not_eq_false', decide_eq_true_eq, decide_eq_false_iff_not, beqT, beqF, bneT, bneF] at hgo)); (try (have hgb := hg; simp only [Bool.and_eq_true, Bool.or_eq_false_iff, Bool.not_eq_true', Bool.not_eq_false'] at hgb))))
   | (simp (maxSteps := 1000000) (disch := first | omega | (simp only [hput_next, hto_next, plus_next, cl_next, List.length_set]; omega)) only [go_sem, *, wrapI, cl_blk, cl_cell, cl_cells, hput_blk_ne, hput_cell_ne, hput_cells_ne, plus_blk_ne, plus_cell_ne, plus_cells_ne, ixO_nat, ixO_ok, bin_quo, bin_rem, stB_int, stB_bool, stB_slice, stB_agg, apO_nil, apO_some, apB_own, reduceIte, Nat.reduceEqDiff, Nat.reduceAdd, Nat.reduceMul, Nat.reduceLeDiff, Nat.reduceLT])

theorem impl_MachineOk_ok (a : Option Addr) (c : Nat) (l : List StepD) (hw : ∀ x ∈ l, x.wf) (h : Hp) (hl : SL rStep h a l) (hn : l.length < 4294967296) : CC F_impl_MachineOk [.slice a l.length c] h (.bool (machineOk l)) h := by
  refine call_go (p := c_impl_MachineOk) rfl rfl c_impl_MachineOk_ok (Nat.le_of_ble_eq_true rfl) ?_
  rw [res_impl_MachineOk]
  unfold c_impl_MachineOk
  repeat' first
   | (refine op_callF (by simp only [go_sem, reduceIte, Nat.reduceEqDiff, Nat.reduceAdd, Nat.reduceMul, Nat.reduceLeDiff, Nat.reduceLT]; rfl) (by simp only [go_sem, reduceIte, Nat.reduceEqDiff, Nat.reduceAdd, Nat.reduceMul, Nat.reduceLeDiff, Nat.reduceLT]; rfl) (by first | exact impl_in_ok _ _ _ _ | exact tc_quiet (by decide) (impl_in_ok _ _ _ _) | exact ContainsFunc_Step_ok _ _ l _ (hl.mono ⟨by first | omega | (simp only [go_sem, reduceIte, Nat.reduceEqDiff, Nat.reduceAdd, Nat.reduceMul, Nat.reduceLeDiff, Nat.reduceLT]; done) | (simp only [go_sem, reduceIte, Nat.reduceEqDiff, Nat.reduceAdd, Nat.reduceMul, Nat.reduceLeDiff, Nat.reduceLT]; omega), fun m hm => by first | rfl | (simp (disch := first | omega | (simp only [hput_next, hto_next, plus_next, cl_next, List.length_set]; omega)) only [go_sem, reduceIte, Nat.reduceEqDiff, Nat.reduceAdd, Nat.reduceMul, Nat.reduceLeDiff, Nat.reduceLT, wrapI, cl_blk, cl_cell, cl_cells, hput_blk_ne, hput_cell_ne, hput_cells_ne, plus_blk_ne, plus_cell_ne, plus_cells_ne, ixO_nat, ixO_ok, bin_quo, bin_rem, stB_int, stB_bool, stB_slice, stB_agg, apO_nil, apO_some, apB_own, *]; done)⟩) hn _ _ _ (fun x => !stepOk x l.length) (fun hh he x hx => impl_MachineOk_1_ok x (hw x hx) _ a l.length c hh (by have hcl_he := ext_cell he; have hcs_he := ext_cells he; have hbl_he := he.2; have hnx_he := he.1; simp (disch := first | omega | (simp only [hput_next, hto_next, plus_next, cl_next, List.length_set]; omega)) only [go_sem, reduceIte, Nat.reduceEqDiff, Nat.reduceAdd, Nat.reduceMul, Nat.reduceLeDiff, Nat.reduceLT, wrapI, cl_blk, cl_cell, cl_cells, hput_blk_ne, hput_cell_ne, hput_cells_ne, plus_blk_ne, plus_cell_ne, plus_cells_ne, ixO_nat, ixO_ok, bin_quo, bin_rem, stB_int, stB_bool, stB_slice, stB_agg, apO_nil, apO_some, apB_own, *]) (by have := he.1; simp only [go_sem, reduceIte, Nat.reduceEqDiff, Nat.reduceAdd, Nat.reduceMul, Nat.reduceLeDiff, Nat.reduceLT] at this; omega)) | exact tc_quiet (by decide) (ContainsFunc_Step_ok _ _ l _ (hl.mono ⟨by first | omega | (simp only [go_sem, reduceIte, Nat.reduceEqDiff, Nat.reduceAdd, Nat.reduceMul, Nat.reduceLeDiff, Nat.reduceLT]; done) | (simp only [go_sem, reduceIte, Nat.reduceEqDiff, Nat.reduceAdd, Nat.reduceMul, Nat.reduceLeDiff, Nat.reduceLT]; omega), fun m hm => by first | rfl | (simp (disch := first | omega | (simp only [hput_next, hto_next, plus_next, cl_next, List.length_set]; omega)) only [go_sem, reduceIte, Nat.reduceEqDiff, Nat.reduceAdd, Nat.reduceMul, Nat.reduceLeDiff, Nat.reduceLT, wrapI, cl_blk, cl_cell, cl_cells, hput_blk_ne, hput_cell_ne, hput_cells_ne, plus_blk_ne, plus_cell_ne, plus_cells_ne, ixO_nat, ixO_ok, bin_quo, bin_rem, stB_int, stB_bool, stB_slice, stB_agg, apO_nil, apO_some, apB_own, *]; done)⟩) hn _ _ _ (fun x => !stepOk x l.length) (fun hh he x hx => impl_MachineOk_1_ok x (hw x hx) _ a l.length c hh (by have hcl_he := ext_cell he; have hcs_he := ext_cells he; have hbl_he := he.2; have hnx_he := he.1; simp (disch := first | omega | (simp only [hput_next, hto_next, plus_next, cl_next, List.length_set]; omega)) only [go_sem, reduceIte, Nat.reduceEqDiff, Nat.reduceAdd, Nat.reduceMul, Nat.reduceLeDiff, Nat.reduceLT, wrapI, cl_blk, cl_cell, cl_cells, hput_blk_ne, hput_cell_ne, hput_cells_ne, plus_blk_ne, plus_cell_ne, plus_cells_ne, ixO_nat, ixO_ok, bin_quo, bin_rem, stB_int, stB_bool, stB_slice, stB_agg, apO_nil, apO_some, apB_own, *]) (by have := he.1; simp only [go_sem, reduceIte, Nat.reduceEqDiff, Nat.reduceAdd, Nat.reduceMul, Nat.reduceLeDiff, Nat.reduceLT] at this; omega)))) ?_)
   | exact isPut_ok
   | (refine op_gv (v := ?_) (by simp only [go_sem, reduceIte, Nat.reduceEqDiff, Nat.reduceAdd, Nat.reduceMul, Nat.reduceLeDiff, Nat.reduceLT]; rfl) (fun hg => ?_) ?_; rotate_left; (focus ((try (have hgo := hg; simp only [Bool.and_eq_true, Bool.or_eq_false_iff, Bool.not_eq_true', Bool.not_eq_false', decide_eq_true_eq, decide_eq_false_iff_not, beqT, beqF, bneT, bneF] at hgo)); (try (have hgb := hg; simp only [Bool.and_eq_true, Bool.or_eq_false_iff, Bool.not_eq_true', Bool.not_eq_false'] at hgb)))))
   | (refine end_gen (by first | exact .inl rfl | exact .inr rfl) (tidy_scal rfl fun m b hm hb => by simp (disch := first | omega | (simp only [hput_next, hto_next, plus_next, cl_next, List.length_set]; omega)) only [go_sem, reduceIte, Nat.reduceEqDiff, Nat.reduceAdd, Nat.reduceMul, Nat.reduceLeDiff, Nat.reduceLT, wrapI, cl_blk, cl_cell, cl_cells, hput_blk_ne, hput_cell_ne, hput_cells_ne, plus_blk_ne, plus_cell_ne, plus_cells_ne, ixO_nat, ixO_ok, bin_quo, bin_rem, stB_int, stB_bool, stB_slice, stB_agg, apO_nil, apO_some, apB_own, *]) ?_)
   | (refine end_ex (v := ?_) (by first | exact .inl rfl | exact .inr rfl) (by simp only [go_sem, reduceIte, Nat.reduceEqDiff, Nat.reduceAdd, Nat.reduceMul, Nat.reduceLeDiff, Nat.reduceLT, *] <;> rfl) ?_; rotate_left)
   | (simp (maxSteps := 1000000) only [go_sem, reduceIte, Nat.reduceEqDiff, Nat.reduceAdd, Nat.reduceMul, Nat.reduceLeDiff, Nat.reduceLT])
   | (simp only [pickO_bool])
   | (simp (maxSteps := 1000000) only [go_sem, *, reduceIte, Nat.reduceEqDiff, Nat.reduceAdd, Nat.reduceMul, Nat.reduceLeDiff, Nat.reduceLT])
   | (refine go_cond (by simp only [go_sem, reduceIte, Nat.reduceEqDiff, Nat.reduceAdd, Nat.reduceMul, Nat.reduceLeDiff, Nat.reduceLT]; rfl) (fun hg => ?_) (fun hg => ?_) <;> ((try (have hgo := hg; simp only [Bool.and_eq_true, Bool.or_eq_false_iff, Bool.not_eq_true', Bool.not_eq_false', decide_eq_true_eq, decide_eq_false_iff_not, beqT, beqF, bneT, bneF] at hgo)); (try (have hgb := hg; simp only [Bool.and_eq_true, Bool.or_eq_false_iff, Bool.not_eq_true', Bool.not_eq_false'] at hgb))))
   | (simp (maxSteps := 1000000) (disch := first | omega | (simp only [hput_next, hto_next, plus_next, cl_next, List.length_set]; omega)) only [go_sem, *, wrapI, cl_blk, cl_cell, cl_cells, hput_blk_ne, hput_cell_ne, hput_cells_ne, plus_blk_ne, plus_cell_ne, plus_cells_ne, ixO_nat, ixO_ok, bin_quo, bin_rem, stB_int, stB_bool, stB_slice, stB_agg, apO_nil, apO_some, apB_own, reduceIte, Nat.reduceEqDiff, Nat.reduceAdd, Nat.reduceMul, Nat.reduceLeDiff, Nat.reduceLT])
  · have h1 : machineOk l = false := by
      unfold machineOk
      rw [Bool.or_eq_true, Bool.not_eq_true', any_not, Bool.not_eq_true'] at hg
      rcases hg with hg | hg <;> simp only [hg, Bool.false_and, Bool.and_false]
    rw [h1]
  · have hlb : 1 ≤ l.length ∧ l.length ≤ 900 := by have := hgo; omega
    have hall : l.all (fun s => stepOk s l.length) = true := by have := hgb.2; rw [any_not, Bool.not_eq_false'] at this; exact this
    obtain ⟨n0, o0, cs, rfl, hn0, hc, hr⟩ := hl (l.length - 1) (by omega)
    rw [rStep_R] at hr; subst hr; rw [rStep_z] at hc
    have htn : ((l.length : Int) - 1).toNat = l.length - 1 := by omega
    have hcc := step_cells hc
    simp only [Nat.add_assoc] at hcc
    repeat' first
   | exact isPut_ok
   | (refine op_gv (v := ?_) (by simp only [go_sem, reduceIte, Nat.reduceEqDiff, Nat.reduceAdd, Nat.reduceMul, Nat.reduceLeDiff, Nat.reduceLT]; rfl) (fun hg => ?_) ?_; rotate_left; (focus ((try (have hgo := hg; simp only [Bool.and_eq_true, Bool.or_eq_false_iff, Bool.not_eq_true', Bool.not_eq_false', decide_eq_true_eq, decide_eq_false_iff_not, beqT, beqF, bneT, bneF] at hgo)); (try (have hgb := hg; simp only [Bool.and_eq_true, Bool.or_eq_false_iff, Bool.not_eq_true', Bool.not_eq_false'] at hgb)))))
   | (refine end_gen (by first | exact .inl rfl | exact .inr rfl) (tidy_scal rfl fun m b hm hb => by simp (disch := first | omega | (simp only [hput_next, hto_next, plus_next, cl_next, List.length_set]; omega)) only [go_sem, reduceIte, Nat.reduceEqDiff, Nat.reduceAdd, Nat.reduceMul, Nat.reduceLeDiff, Nat.reduceLT, wrapI, cl_blk, cl_cell, cl_cells, hput_blk_ne, hput_cell_ne, hput_cells_ne, plus_blk_ne, plus_cell_ne, plus_cells_ne, ixO_nat, ixO_ok, bin_quo, bin_rem, stB_int, stB_bool, stB_slice, stB_agg, apO_nil, apO_some, apB_own, *]) ?_)
   | (refine end_ex (v := ?_) (by first | exact .inl rfl | exact .inr rfl) (by simp only [go_sem, reduceIte, Nat.reduceEqDiff, Nat.reduceAdd, Nat.reduceMul, Nat.reduceLeDiff, Nat.reduceLT, *] <;> rfl) ?_; rotate_left)
   | (simp (maxSteps := 1000000) only [go_sem, reduceIte, Nat.reduceEqDiff, Nat.reduceAdd, Nat.reduceMul, Nat.reduceLeDiff, Nat.reduceLT])
   | (simp only [pickO_bool])
   | (simp (maxSteps := 1000000) only [go_sem, *, reduceIte, Nat.reduceEqDiff, Nat.reduceAdd, Nat.reduceMul, Nat.reduceLeDiff, Nat.reduceLT])
   | (refine go_cond (by simp only [go_sem, reduceIte, Nat.reduceEqDiff, Nat.reduceAdd, Nat.reduceMul, Nat.reduceLeDiff, Nat.reduceLT]; rfl) (fun hg => ?_) (fun hg => ?_) <;> ((try (have hgo := hg; simp only [Bool.and_eq_true, Bool.or_eq_false_iff, Bool.not_eq_true', Bool.not_eq_false', decide_eq_true_eq, decide_eq_false_iff_not, beqT, beqF, bneT, bneF] at hgo)); (try (have hgb := hg; simp only [Bool.and_eq_true, Bool.or_eq_false_iff, Bool.not_eq_true', Bool.not_eq_false'] at hgb))))
   | (simp (maxSteps := 1000000) (disch := first | omega | (simp only [hput_next, hto_next, plus_next, cl_next, List.length_set]; omega)) only [go_sem, *, wrapI, cl_blk, cl_cell, cl_cells, hput_blk_ne, hput_cell_ne, hput_cells_ne, plus_blk_ne, plus_cell_ne, plus_cells_ne, ixO_nat, ixO_ok, bin_quo, bin_rem, stB_int, stB_bool, stB_slice, stB_agg, apO_nil, apO_some, apB_own, reduceIte, Nat.reduceEqDiff, Nat.reduceAdd, Nat.reduceMul, Nat.reduceLeDiff, Nat.reduceLT])
    all_goals (simp [machineOk, hall, last_at l (by omega)] <;> omega)

end Go.Proofs.YtbgaljpilmmefaaM
