import Derived.Test.YtbfphlaeiahljaaGreatVCS1
namespace Go.Proofs.YtbfphlaeiahljaaGreatM
open Go
set_option linter.unusedVariables false
set_option linter.unusedSimpArgs false
set_option maxRecDepth 100000
set_option maxHeartbeats 4000000
attribute [local irreducible] PW CK EK C2 PXM XK LX axK rdK thK blK FK SK LK AK GK CD unK TT keK
theorem v_ShapeOk_1_1 (p : PhiD) (n : Int) (f : FnD) (hn : 0 ≤ n ∧ n ≤ 1000000000) (hp : p.ok) : C2 CC F_impl_ShapeOk_1_1 [.fv (phiF p), .fv (.fp (.int .i64 n)), .fv (.fp (fnF f))] (bv (!phiB p n f.values)) [] := by
  have h1 := v_phiOk p n f.values hn hp
  refine cw (keepF Tryz.f111) Tryz.f111 false ?_
  repeat' first | refine ck_intro (by first | exact h1) ?_ ?_ | refine g0 ?_ | refine d0 ?_ | refine j0 (fun hg hgo => ?_) fun hg hgo => ?_ | refine ek_ret ?_ | refine ek_norm ?_ | refine ⟨by omega, ?_⟩ | rfl | trivial | intro _
theorem v_ShapeOk_1_2 (x : StepD) (f : FnD) : C2 CC F_impl_ShapeOk_1_2 [sF x, .fv (.fp (fnF f))] (bv (!insB x f.values)) [] := by
  have h1 := v_insOk x f.values
  refine cw (keepF Tryz.f114) Tryz.f114 false ?_
  repeat' first | refine ck_intro (by first | exact h1) ?_ ?_ | refine g0 ?_ | refine d0 ?_ | refine j0 (fun hg hgo => ?_) fun hg hgo => ?_ | refine ek_ret ?_ | refine ek_norm ?_ | refine ⟨by omega, ?_⟩ | rfl | trivial | intro _
theorem v_ShapeOk_1 (b : BlockD) (n : Int) (f : FnD) (hn : 0 ≤ n ∧ n ≤ 1000000000) (hb : b.ok) : C2 CC F_impl_ShapeOk_1 [.fv (blockF b), .fv (.fp (.int .i64 n)), .fv (.fp (fnF f))] (bv (!blockB b n f.values)) [] := by
  have h1 := v_termOk b.term n f.values hn
  have hc1 := v_ContainsFunc_Phi F_impl_ShapeOk_1_1 [.fp (.int .i64 n), .fp (fnF f)] (fun p => !phiB p n f.values) (fun i => rfl) (by decide) b.phis (by have := hb.1; omega) (fun p hp => v_ShapeOk_1_1 p n f hn (hb.2.1 p hp))
  have hc2 := v_ContainsFunc_Ins F_impl_ShapeOk_1_2 [.fp (fnF f)] (fun x => !insB x f.values) (fun i => rfl) (by decide) b.list (by have := hb.2.2; omega) (fun x _ => v_ShapeOk_1_2 x f)
  have e1 : (b.phis.any fun p => !phiB p n f.values) = !(b.phis.all fun p => phiB p n f.values) := by rw [List.not_all_eq_any_not]
  have e2 : (b.list.any fun x => !insB x f.values) = !(b.list.all fun x => insB x f.values) := by rw [List.not_all_eq_any_not]
  rw [e1] at hc1; rw [e2] at hc2
  unfold blockB
  have l1 : decide (b.phis.length ≤ 24) = !decide ((b.phis.length : Int) > 24) := by rw [Bool.eq_iff_iff]; simp; omega
  have l2 : decide (b.list.length ≤ 24) = !decide ((b.list.length : Int) > 24) := by rw [Bool.eq_iff_iff]; simp; omega
  rw [l1, l2]
  refine cw (keepF Tryz.f108) Tryz.f108 false ?_
  repeat' first | refine ck_intro (by first | exact h1 | exact hc1 | exact hc2) ?_ ?_ | refine g0 ?_ | refine d0 ?_ | refine j0 (fun hg hgo => ?_) fun hg hgo => ?_ | refine ek_ret ?_ | refine ek_norm ?_ | refine ⟨by omega, ?_⟩ | rfl | trivial | intro _
  all_goals first | rfl | (simp_all; done) | (simp_all; intros; omega)
theorem v_ShapeOk (f : FnD) (hf : f.ok) : C2 CC F_impl_ShapeOk [.fv (fnF f)] (bv (shapeB f)) [] := by
  have hl : f.blocks.length < 1073741824 := hf.1
  have hc1 := v_ContainsFunc_Block F_impl_ShapeOk_1 [.fp (.int .i64 f.blocks.length), .fp (fnF f)] (fun b => !blockB b f.blocks.length f.values) (fun i => rfl) (by decide) f.blocks (by omega)
  have e1 : (f.blocks.any fun b => !blockB b f.blocks.length f.values) = !(f.blocks.all fun b => blockB b f.blocks.length f.values) := by rw [List.not_all_eq_any_not]
  rw [e1] at hc1
  by_cases hn : f.blocks.length ≤ 16
  · replace hc1 := hc1 (fun b hb => v_ShapeOk_1 b f.blocks.length f ⟨by omega, by omega⟩ (hf.2 b hb))
    unfold shapeB rgB
    refine cw (keepF Tryz.f70) Tryz.f70 false ?_
    repeat' first | refine ck_intro (by first | exact v_in _ _ _ | exact hc1) ?_ ?_ | refine g0 ?_ | refine d0 ?_ | refine j0 (fun hg hgo => ?_) fun hg hgo => ?_ | refine ek_ret ?_ | refine ek_norm ?_ | refine ⟨by omega, ?_⟩ | rfl | trivial | intro _
    all_goals first | rfl | (simp_all; done) | (simp_all; intros; omega)
  · have hd : decide ((f.blocks.length : Int) ≤ 16) = false := by rw [decide_eq_false_iff_not]; omega
    unfold shapeB rgB
    refine cw (keepF Tryz.f70) Tryz.f70 false ?_
    repeat' first | refine ck_intro (by first | exact v_in _ _ _) ?_ ?_ | refine g1 @hd ?_ | refine d1 @hd ?_ | refine j1 @hd (fun hg hgo => ?_) fun hg hgo => ?_ | refine ek_ret ?_ | refine ek_norm ?_ | refine ⟨by omega, ?_⟩ | rfl | trivial | intro _
    all_goals first | rfl | (simp_all; done) | (simp_all; intros; omega)
def plainB (f : FnD) : Bool := shapeB f && f.blocks.all fun b => !decide ((b.phis.length : Int) > 0)
theorem v_PlainOk_1 (b : BlockD) : C2 CC F_impl_PlainOk_1 [.fv (blockF b)] (bv (decide ((b.phis.length : Int) > 0))) [] := by
  refine cw (keepF Tryz.f72) Tryz.f72 false ?_
  repeat' first | refine g0 ?_ | refine d0 ?_ | refine j0 (fun hg hgo => ?_) fun hg hgo => ?_ | refine ek_ret ?_ | refine ek_norm ?_ | refine ⟨by omega, ?_⟩ | rfl | trivial | intro _
theorem v_PlainOk (f : FnD) (hf : f.ok) : C2 CC F_impl_PlainOk [.fv (fnF f)] (bv (plainB f)) [] := by
  have h1 := v_ShapeOk f hf
  have hl : f.blocks.length < 1073741824 := hf.1
  have hc1 := v_ContainsFunc_Block F_impl_PlainOk_1 [] (fun b => decide ((b.phis.length : Int) > 0)) (fun i => rfl) (by decide) f.blocks (by omega) (fun b _ => v_PlainOk_1 b)
  have e1 : (f.blocks.any fun b => decide ((b.phis.length : Int) > 0)) = !(f.blocks.all fun b => !decide ((b.phis.length : Int) > 0)) := by rw [List.not_all_eq_any_not]; simp
  rw [e1] at hc1
  unfold plainB
  refine cw (keepF Tryz.f31) Tryz.f31 false ?_
  repeat' first | refine ck_intro (by first | exact h1 | exact hc1) ?_ ?_ | refine g0 ?_ | refine d0 ?_ | refine j0 (fun hg hgo => ?_) fun hg hgo => ?_ | refine ek_ret ?_ | refine ek_norm ?_ | refine ⟨by omega, ?_⟩ | rfl | trivial | intro _
  all_goals first | rfl | (simp_all; done)
theorem v_PlainOk_spec (f : FnD) (hf : f.ok) : C2 CC F_spec_PlainOk [.fv (fnF f)] (bv (plainB f)) [] := by
  have h1 := v_ShapeOk_spec f hf
  have hl : f.blocks.length < 1073741824 := hf.1
  unfold plainB
  refine cw (keepF Tryz.f25) Tryz.f25 false ?_
  repeat' first | refine ck_intro (by first | exact h1) ?_ ?_ | refine g0 ?_ | refine d0 ?_ | refine j0 (fun hg hgo => ?_) fun hg hgo => ?_ | refine ek_ret ?_ | refine ek_norm ?_ | refine ⟨by omega, ?_⟩ | rfl | trivial | intro _
  · rw [show shapeB f = false by assumption]; rfl
  · rw [show shapeB f = true by assumption, Bool.true_and]
    refine pw_loop (fun m st => ∃ j : Nat, j + m = f.blocks.length ∧ (f.blocks.take j).all (fun b => !decide ((b.phis.length : Int) > 0)) = true ∧ st = [(1, .box (.fv (fnF f))), (3, iv j)]) f.blocks.length [(1, .box (.fv (fnF f))), (3, iv (0 : Nat))] (sub_of ?_) ⟨0, by omega, rfl, rfl⟩ ?_
    · exact dn
    · rintro m st ⟨j, hj, hb2, rfl⟩
      by_cases hlt : j < f.blocks.length
      · have hd : decide ((j : Int) < (f.blocks.length : Int)) = true := by rw [decide_eq_true_eq]; omega
        have hml : j < (f.blocks.map blockF).length := by rw [List.length_map]; exact hlt
        repeat' first | refine g1 @hd ?_ | refine d1 @hd ?_ | refine j1 @hd (fun hg hgo => ?_) fun hg hgo => ?_ | refine ek_ret ?_ | refine ek_norm ?_ | refine ⟨by omega, ?_⟩ | rfl | trivial | intro _
        · rw [all_bad (p := fun b : BlockD => !decide ((b.phis.length : Int) > 0)) hlt (by simp only [Bool.not_eq_false']; exact hg)]
        · refine rd_norm [(1, .box (.fv (fnF f))), (3, iv (j + 1 : Nat))] (sub_of ?_) (m - 1) (by omega) ⟨j + 1, by omega, all_step (p := fun b : BlockD => !decide ((b.phis.length : Int) > 0)) hb2 hlt (by simp only [Bool.not_eq_true']; exact hg), rfl⟩
          exact dn
      · have hd : decide ((j : Int) < (f.blocks.length : Int)) = false := by rw [decide_eq_false_iff_not]; omega
        have hq := all_end hb2 (by omega)
        repeat' first | refine g2 @hd @hq ?_ | refine d2 @hd @hq ?_ | refine j2 @hd @hq (fun hg hgo => ?_) fun hg hgo => ?_ | refine ek_ret ?_ | refine ek_norm ?_ | refine ⟨by omega, ?_⟩ | rfl | trivial | intro _
def upB (n m : Int) : Bool := decide (n ≥ 0) && decide (n ≤ m)
theorem v_l14Reg (r : Int) : C2 CC F_spec_l14Reg [iv r] (bv (upB r 7)) [] := by
  refine cw (keepF Tryz.f104) Tryz.f104 false ?_
  repeat' first | refine ck_intro (by first | exact v_l1In _ _ _) ?_ ?_ | refine g0 ?_ | refine d0 ?_ | refine j0 (fun hg hgo => ?_) fun hg hgo => ?_ | refine ek_ret ?_ | refine ek_norm ?_ | refine ⟨by omega, ?_⟩ | rfl | trivial | intro _
def stepS (x : StepD) (k : Int) : Bool :=
  if (upB x.r 7 && upB x.a 7 && upB x.b 7) = false then false
  else if x.op = 1 then x.a == 0 && x.b == 0
  else if x.op = 2 ∨ x.op = 5 then x.b == 0 && x.n == 0
  else if x.op = 3 then upB x.n 39 && x.a == 0 && x.b == 0
  else if x.op = 4 then upB x.n 39 && x.r == 0 && x.b == 0
  else if x.op = 6 then x.r == 0 && x.n == 0
  else if x.op = 7 ∨ x.op = 11 then x.r == 0 && x.b == 0 && x.n == 0
  else if x.op = 8 then x.a == 0 && x.b == 0 && x.n == 0
  else if x.op = 9 then (decide (x.n ≥ 0) && decide (x.n < k)) && x.r == 0 && x.a == 0 && x.b == 0
  else if x.op = 10 then (decide (x.n ≥ 0) && decide (x.n < k)) && x.r == 0 && x.b == 0
  else wok (IntKind.wrap .i64 (x.op - 11)) && x.n == 0
theorem v_StepOk_spec (x : StepD) (k : Int) : C2 CC F_spec_StepOk [sF x, iv k] (bv (stepS x k)) [] := by
  obtain ⟨op, r, a, b, n⟩ := x
  have p1 := v_l14Reg r
  have p2 := v_l14Reg a
  have p3 := v_l14Reg b
  cases u1 : upB r 7 <;> cases u2 : upB a 7 <;> cases u3 : upB b 7
  all_goals
    rw [u1] at p1; rw [u2] at p2; rw [u3] at p3
  all_goals
    refine cw (keepF Tryz.f68) Tryz.f68 false ?_
    repeat' first | refine ck_intro (by first | exact p1 | exact p2 | exact p3 | exact v_l1In _ _ _ | exact s_WordOk _) ?_ ?_ | refine g0 ?_ | refine d0 ?_ | refine j0 (fun hg hgo => ?_) fun hg hgo => ?_ | refine ek_ret ?_ | refine ek_norm ?_ | refine ⟨by omega, ?_⟩ | rfl | trivial | intro _
    all_goals first | rfl | (simp_all [beqD, stepS, upB]; done) | ((try simp only [stepS, upB]); (repeat' split) <;> first | omega | (simp_all [beqD]; done) | (simp_all [beqD]; omega)) | (simp_all [beqD, stepS, upB]; (repeat' split) <;> first | rfl | omega | (simp_all; done))
theorem sf1 : sHas 1 78 = true ∧ sHas 1 83 = false ∧ sHas 1 84 = false ∧ sHas 1 82 = true ∧ sHas 1 65 = false ∧ sHas 1 66 = false ∧ sformK 1 = true := by decide
theorem sf2 : sHas 2 78 = false ∧ sHas 2 83 = false ∧ sHas 2 84 = false ∧ sHas 2 82 = true ∧ sHas 2 65 = true ∧ sHas 2 66 = false ∧ sformK 2 = true := by decide
theorem sf3 : sHas 3 78 = false ∧ sHas 3 83 = true ∧ sHas 3 84 = false ∧ sHas 3 82 = true ∧ sHas 3 65 = false ∧ sHas 3 66 = false ∧ sformK 3 = true := by decide
theorem sf4 : sHas 4 78 = false ∧ sHas 4 83 = true ∧ sHas 4 84 = false ∧ sHas 4 82 = false ∧ sHas 4 65 = true ∧ sHas 4 66 = false ∧ sformK 4 = true := by decide
theorem sf5 : sHas 5 78 = false ∧ sHas 5 83 = false ∧ sHas 5 84 = false ∧ sHas 5 82 = true ∧ sHas 5 65 = true ∧ sHas 5 66 = false ∧ sformK 5 = true := by decide
theorem sf6 : sHas 6 78 = false ∧ sHas 6 83 = false ∧ sHas 6 84 = false ∧ sHas 6 82 = false ∧ sHas 6 65 = true ∧ sHas 6 66 = true ∧ sformK 6 = true := by decide
theorem sf7 : sHas 7 78 = false ∧ sHas 7 83 = false ∧ sHas 7 84 = false ∧ sHas 7 82 = false ∧ sHas 7 65 = true ∧ sHas 7 66 = false ∧ sformK 7 = true := by decide
theorem sf8 : sHas 8 78 = false ∧ sHas 8 83 = false ∧ sHas 8 84 = false ∧ sHas 8 82 = true ∧ sHas 8 65 = false ∧ sHas 8 66 = false ∧ sformK 8 = true := by decide
theorem sf9 : sHas 9 78 = false ∧ sHas 9 83 = false ∧ sHas 9 84 = true ∧ sHas 9 82 = false ∧ sHas 9 65 = false ∧ sHas 9 66 = false ∧ sformK 9 = true := by decide
theorem sf10 : sHas 10 78 = false ∧ sHas 10 83 = false ∧ sHas 10 84 = true ∧ sHas 10 82 = false ∧ sHas 10 65 = true ∧ sHas 10 66 = false ∧ sformK 10 = true := by decide
theorem sf11 : sHas 11 78 = false ∧ sHas 11 83 = false ∧ sHas 11 84 = false ∧ sHas 11 82 = false ∧ sHas 11 65 = true ∧ sHas 11 66 = false ∧ sformK 11 = true := by decide
theorem sf12 : sHas 12 78 = false ∧ sHas 12 83 = false ∧ sHas 12 84 = false ∧ sHas 12 82 = true ∧ sHas 12 65 = true ∧ sHas 12 66 = true ∧ sformK 12 = true := by decide
theorem sf13 : sHas 13 78 = false ∧ sHas 13 83 = false ∧ sHas 13 84 = false ∧ sHas 13 82 = true ∧ sHas 13 65 = true ∧ sHas 13 66 = true ∧ sformK 13 = true := by decide
theorem sf14 : sHas 14 78 = false ∧ sHas 14 83 = false ∧ sHas 14 84 = false ∧ sHas 14 82 = true ∧ sHas 14 65 = true ∧ sHas 14 66 = true ∧ sformK 14 = true := by decide
theorem sf15 : sHas 15 78 = false ∧ sHas 15 83 = false ∧ sHas 15 84 = false ∧ sHas 15 82 = true ∧ sHas 15 65 = true ∧ sHas 15 66 = true ∧ sformK 15 = true := by decide
theorem sf16 : sHas 16 78 = false ∧ sHas 16 83 = false ∧ sHas 16 84 = false ∧ sHas 16 82 = true ∧ sHas 16 65 = true ∧ sHas 16 66 = true ∧ sformK 16 = true := by decide
theorem sf17 : sHas 17 78 = false ∧ sHas 17 83 = false ∧ sHas 17 84 = false ∧ sHas 17 82 = true ∧ sHas 17 65 = true ∧ sHas 17 66 = true ∧ sformK 17 = true := by decide
theorem sf18 : sHas 18 78 = false ∧ sHas 18 83 = false ∧ sHas 18 84 = false ∧ sHas 18 82 = true ∧ sHas 18 65 = true ∧ sHas 18 66 = true ∧ sformK 18 = true := by decide
theorem sf19 : sHas 19 78 = false ∧ sHas 19 83 = false ∧ sHas 19 84 = false ∧ sHas 19 82 = true ∧ sHas 19 65 = true ∧ sHas 19 66 = true ∧ sformK 19 = true := by decide
theorem sf20 : sHas 20 78 = false ∧ sHas 20 83 = false ∧ sHas 20 84 = false ∧ sHas 20 82 = true ∧ sHas 20 65 = true ∧ sHas 20 66 = true ∧ sformK 20 = true := by decide
theorem sf21 : sHas 21 78 = false ∧ sHas 21 83 = false ∧ sHas 21 84 = false ∧ sHas 21 82 = true ∧ sHas 21 65 = true ∧ sHas 21 66 = true ∧ sformK 21 = true := by decide
theorem wok_off (op : Int) (ho : I64 op) (h : op < 1 ∨ op > 21) : wok (IntKind.wrap .i64 (op - 11)) = false := by
  obtain ⟨h1, h2⟩ := ho
  rw [IntKind.wrap_i64]
  unfold wok
  rw [Bool.and_eq_false_iff, decide_eq_false_iff_not, decide_eq_false_iff_not]
  omega
theorem step_same (x : StepD) (k : Int) (ho : I64 x.op) : stepB x k = stepS x k := by
  obtain ⟨op, r, a, b, n⟩ := x
  simp only at ho
  by_cases hc : op < 1 ∨ op > 21
  · have q1 : (decide (op < 1) || decide (op > 21)) = true := by simpa using hc
    have hne : ∀ j : Int, 1 ≤ j → j ≤ 21 → ¬ op = j := fun j h1 h2 => by omega
    unfold stepB stepS
    simp [q1, wok_off op ho hc, hne]
  · have h2 : op = 1 ∨ op = 2 ∨ op = 3 ∨ op = 4 ∨ op = 5 ∨ op = 6 ∨ op = 7 ∨ op = 8 ∨ op = 9 ∨ op = 10 ∨ op = 11 ∨ op = 12 ∨ op = 13 ∨ op = 14 ∨ op = 15 ∨ op = 16 ∨ op = 17 ∨ op = 18 ∨ op = 19 ∨ op = 20 ∨ op = 21 := by omega
    have hw : ∀ x : Int, 0 ≤ x → x ≤ 10 → IntKind.wrap .i64 x = x := fun x a b => wrapI (by omega) (by omega)
    rw [Bool.eq_iff_iff]
    rcases h2 with rfl | rfl | rfl | rfl | rfl | rfl | rfl | rfl | rfl | rfl | rfl | rfl | rfl | rfl | rfl | rfl | rfl | rfl | rfl | rfl | rfl
    · obtain ⟨f1, f2, f3, f4, f5, f6, f7⟩ := sf1
      simp [stepB, stepS, sPart, upB, wok, hw, f1, f2, f3, f4, f5, f6, f7] <;> omega
    · obtain ⟨f1, f2, f3, f4, f5, f6, f7⟩ := sf2
      simp [stepB, stepS, sPart, upB, wok, hw, f1, f2, f3, f4, f5, f6, f7] <;> omega
    · obtain ⟨f1, f2, f3, f4, f5, f6, f7⟩ := sf3
      simp [stepB, stepS, sPart, upB, wok, hw, f1, f2, f3, f4, f5, f6, f7] <;> omega
    · obtain ⟨f1, f2, f3, f4, f5, f6, f7⟩ := sf4
      simp [stepB, stepS, sPart, upB, wok, hw, f1, f2, f3, f4, f5, f6, f7] <;> omega
    · obtain ⟨f1, f2, f3, f4, f5, f6, f7⟩ := sf5
      simp [stepB, stepS, sPart, upB, wok, hw, f1, f2, f3, f4, f5, f6, f7] <;> omega
    · obtain ⟨f1, f2, f3, f4, f5, f6, f7⟩ := sf6
      simp [stepB, stepS, sPart, upB, wok, hw, f1, f2, f3, f4, f5, f6, f7] <;> omega
    · obtain ⟨f1, f2, f3, f4, f5, f6, f7⟩ := sf7
      simp [stepB, stepS, sPart, upB, wok, hw, f1, f2, f3, f4, f5, f6, f7] <;> omega
    · obtain ⟨f1, f2, f3, f4, f5, f6, f7⟩ := sf8
      simp [stepB, stepS, sPart, upB, wok, hw, f1, f2, f3, f4, f5, f6, f7] <;> omega
    · obtain ⟨f1, f2, f3, f4, f5, f6, f7⟩ := sf9
      simp [stepB, stepS, sPart, upB, wok, hw, f1, f2, f3, f4, f5, f6, f7] <;> omega
    · obtain ⟨f1, f2, f3, f4, f5, f6, f7⟩ := sf10
      simp [stepB, stepS, sPart, upB, wok, hw, f1, f2, f3, f4, f5, f6, f7] <;> omega
    · obtain ⟨f1, f2, f3, f4, f5, f6, f7⟩ := sf11
      simp [stepB, stepS, sPart, upB, wok, hw, f1, f2, f3, f4, f5, f6, f7] <;> omega
    · obtain ⟨f1, f2, f3, f4, f5, f6, f7⟩ := sf12
      simp [stepB, stepS, sPart, upB, wok, hw, f1, f2, f3, f4, f5, f6, f7] <;> omega
    · obtain ⟨f1, f2, f3, f4, f5, f6, f7⟩ := sf13
      simp [stepB, stepS, sPart, upB, wok, hw, f1, f2, f3, f4, f5, f6, f7] <;> omega
    · obtain ⟨f1, f2, f3, f4, f5, f6, f7⟩ := sf14
      simp [stepB, stepS, sPart, upB, wok, hw, f1, f2, f3, f4, f5, f6, f7] <;> omega
    · obtain ⟨f1, f2, f3, f4, f5, f6, f7⟩ := sf15
      simp [stepB, stepS, sPart, upB, wok, hw, f1, f2, f3, f4, f5, f6, f7] <;> omega
    · obtain ⟨f1, f2, f3, f4, f5, f6, f7⟩ := sf16
      simp [stepB, stepS, sPart, upB, wok, hw, f1, f2, f3, f4, f5, f6, f7] <;> omega
    · obtain ⟨f1, f2, f3, f4, f5, f6, f7⟩ := sf17
      simp [stepB, stepS, sPart, upB, wok, hw, f1, f2, f3, f4, f5, f6, f7] <;> omega
    · obtain ⟨f1, f2, f3, f4, f5, f6, f7⟩ := sf18
      simp [stepB, stepS, sPart, upB, wok, hw, f1, f2, f3, f4, f5, f6, f7] <;> omega
    · obtain ⟨f1, f2, f3, f4, f5, f6, f7⟩ := sf19
      simp [stepB, stepS, sPart, upB, wok, hw, f1, f2, f3, f4, f5, f6, f7] <;> omega
    · obtain ⟨f1, f2, f3, f4, f5, f6, f7⟩ := sf20
      simp [stepB, stepS, sPart, upB, wok, hw, f1, f2, f3, f4, f5, f6, f7] <;> omega
    · obtain ⟨f1, f2, f3, f4, f5, f6, f7⟩ := sf21
      simp [stepB, stepS, sPart, upB, wok, hw, f1, f2, f3, f4, f5, f6, f7] <;> omega
theorem v_IndexFunc_Step (g : FuncId) (cs : List FV) (P : StepD → Bool) (hmu : ∀ i, MU g i = 0) (hps : g ≠ 4294967295) (l : List StepD) (hl : l.length < 4611686018427387904) (hg : ∀ x ∈ l, C2 CC g (.fv (stF x) :: cs.map .fv) (bv (P x)) []) : C2 CC F_slices_IndexFunc_impl_Step [.fv (.row 5 (l.map stF)), .fv (.fn g [] cs)] (iv (idxP P l 0)) [] := by
  refine cw (keepF Tryz.f121) Tryz.f121 false ?_
  repeat' first | refine g0 ?_ | refine d0 ?_ | refine j0 (fun hg hgo => ?_) fun hg hgo => ?_ | refine ek_ret ?_ | refine ek_norm ?_ | refine ⟨by omega, ?_⟩ | rfl | trivial | intro _
  refine pw_loop (fun m st => ∃ j : Nat, j + m = l.length ∧ (∀ i (h : i < l.length), i < j → P l[i] = false) ∧ st = [(0, .fv (.row 5 (l.map stF))), (1, .fv (.fn g [] cs)), (7, iv l.length), (8, iv j)]) l.length [(0, .fv (.row 5 (l.map stF))), (1, .fv (.fn g [] cs)), (7, iv l.length), (8, iv (0 : Nat))] (sub_of ?_) ⟨0, by omega, fun i _ hi => by omega, rfl⟩ ?_
  · exact dn
  · rintro m st ⟨j, hj, hb, rfl⟩
    have hidx := idxP_at P l j 0 hb
    by_cases hlt : j < l.length
    · have hd : decide ((j : Int) < (l.length : Int)) = true := by rw [decide_eq_true_eq]; omega
      have hml : j < (l.map stF).length := by rw [List.length_map]; exact hlt
      have hel := hg l[j] (List.getElem_mem hlt)
      have hidx2 : idxP P l 0 = if P l[j] = true then (j : Int) else idxP P (l.drop (j + 1)) (j + 1) := by
        rw [hidx, List.drop_eq_getElem_cons hlt, idxP]; simp
      replace hb : True → _ := fun _ => hb
      repeat' first | refine ck_intro (by first | exact hel) ?_ ?_ | refine g3 @hd @hmu @hps ?_ | refine d3 @hd @hmu @hps ?_ | refine j3 @hd @hmu @hps (fun hg hgo => ?_) fun hg hgo => ?_ | refine ek_ret ?_ | refine ek_norm ?_ | refine ⟨by omega, ?_⟩ | rfl | trivial | intro _
      · rw [hidx2, if_pos (by simpa using hg)]
      · refine rd_norm [(0, .fv (.row 5 (l.map stF))), (1, .fv (.fn g [] cs)), (7, iv l.length), (8, iv (j + 1 : Nat))] (sub_of ?_) (m - 1) (by omega) ⟨j + 1, by omega, fun i hi h1 => ?_, rfl⟩
        · exact dn
        · by_cases h2 : i = j
          · subst h2; simpa using hg
          · exact hb trivial i hi (by omega)
    · have hd : decide ((j : Int) < (l.length : Int)) = false := by rw [decide_eq_false_iff_not]; omega
      have hidx2 : idxP P l 0 = -1 := by
        rw [hidx, List.drop_eq_nil_of_le (by omega)]; rfl
      repeat' first | refine g2 @hd @hidx2 ?_ | refine d2 @hd @hidx2 ?_ | refine j2 @hd @hidx2 (fun hg hgo => ?_) fun hg hgo => ?_ | refine ek_ret ?_ | refine ek_norm ?_ | refine ⟨by omega, ?_⟩ | rfl | trivial | intro _
theorem v_ContainsFunc_Step (g : FuncId) (cs : List FV) (P : StepD → Bool) (hmu : ∀ i, MU g i = 0) (hps : g ≠ 4294967295) (l : List StepD) (hl : l.length < 4611686018427387904) (hg : ∀ x ∈ l, C2 CC g (.fv (stF x) :: cs.map .fv) (bv (P x)) []) : C2 CC F_slices_ContainsFunc_impl_Step [.fv (.row 5 (l.map stF)), .fv (.fn g [] cs)] (bv (l.any P)) [] := by
  rw [← idxP_any P l]
  refine cw (keepF Tryz.f80) Tryz.f80 false ?_
  repeat' first | refine ck_intro (by first | exact v_IndexFunc_Step g cs P hmu hps l hl hg) ?_ ?_ | refine g0 ?_ | refine d0 ?_ | refine j0 (fun hg hgo => ?_) fun hg hgo => ?_ | refine ek_ret ?_ | refine ek_norm ?_ | refine ⟨by omega, ?_⟩ | rfl | trivial | intro _
def machB (l : List StepD) : Bool := (decide ((l.length : Int) ≥ 1) && decide ((l.length : Int) ≤ 900)) && (l.all (fun s => stepS s l.length) && ((l.getLast?.map fun s => s.op == 9 || s.op == 11).getD false))
theorem v_StepOk_all (x : StepD) (k : Int) (ho : I64 x.op) : C2 CC F_impl_StepOk [sF x, iv k] (bv (stepS x k)) [] := by
  by_cases hc : 1 ≤ x.op ∧ x.op ≤ 21
  · rw [← step_same x k ho]; exact v_StepOk x k hc.1 hc.2
  · have hs : stepS x k = false := by
      rw [← step_same x k ho]; unfold stepB
      have : (decide (x.op < 1) || decide (x.op > 21)) = true := by simp; omega
      rw [this]; rfl
    rw [hs]
    obtain ⟨op, r, a, b, n⟩ := x
    simp only at hc
    by_cases t : op < 1
    · have t1 : decide (op < 1) = true := by rw [decide_eq_true_eq]; exact t
      refine cw (keepF Tryz.f82) Tryz.f82 false ?_
      repeat' first | refine pdf 25 7 [0, 1, 0, 4, 15, 31, 63, 127, 63, 319, 1023, 2047, 4095, 8191, 16383, 8191, 40959, 131071, 262143, 524287] [0, 2, 0, 6, 5, 0, 0, 2, 0, 6, 5, 0, 0, 0, 2, 0, 6, 5, 0, 0] ?_ | refine g1 @t1 ?_ | refine d1 @t1 ?_ | refine j1 @t1 (fun hg hgo => ?_) fun hg hgo => ?_ | refine ek_ret ?_ | refine ek_norm ?_ | refine ⟨by omega, ?_⟩ | rfl | trivial | intro _
    · have t1 : decide (op < 1) = false := by rw [decide_eq_false_iff_not]; exact t
      have t2 : decide (op > 21) = true := by rw [decide_eq_true_eq]; omega
      refine cw (keepF Tryz.f82) Tryz.f82 false ?_
      repeat' first | refine pdf 25 7 [0, 1, 0, 4, 15, 31, 63, 127, 63, 319, 1023, 2047, 4095, 8191, 16383, 8191, 40959, 131071, 262143, 524287] [0, 2, 0, 6, 5, 0, 0, 2, 0, 6, 5, 0, 0, 0, 2, 0, 6, 5, 0, 0] ?_ | refine g2 @t1 @t2 ?_ | refine d2 @t1 @t2 ?_ | refine j2 @t1 @t2 (fun hg hgo => ?_) fun hg hgo => ?_ | refine ek_ret ?_ | refine ek_norm ?_ | refine ⟨by omega, ?_⟩ | rfl | trivial | intro _
theorem v_MachineOk_1 (x : StepD) (l : List StepD) (ho : I64 x.op) (hl : l.length < 1073741824) : C2 CC 81 [sF x, .fv (.fp (stR l))] (bv (!stepS x l.length)) [] := by
  have q := v_StepOk_all x l.length ho
  refine cw (keepF Tryz.f81) Tryz.f81 false ?_
  repeat' first | refine ck_intro (by first | exact q) ?_ ?_ | refine g0 ?_ | refine d0 ?_ | refine j0 (fun hg hgo => ?_) fun hg hgo => ?_ | refine ek_ret ?_ | refine ek_norm ?_ | refine ⟨by omega, ?_⟩ | rfl | trivial | intro _
theorem last_get {l : List StepD} (h : 0 < l.length) : l.getLast? = some (l[l.length - 1]'(by omega)) := by
  rw [List.getLast?_eq_getElem?, List.getElem?_eq_getElem]
theorem v_MachineOk (l : List StepD) (ho : ∀ x ∈ l, I64 x.op) (hl : l.length < 1073741824) : C2 CC F_impl_MachineOk [.fv (stR l)] (bv (machB l)) [] := by
  have hc := v_ContainsFunc_Step 81 [.fp (stR l)] (fun x => !stepS x l.length) (fun i => rfl) (by decide) l (by omega) (fun x hx => v_MachineOk_1 x l (ho x hx) hl)
  have e1 : (l.any fun x => !stepS x l.length) = !(l.all fun s => stepS s l.length) := by rw [List.not_all_eq_any_not]
  rw [e1] at hc
  unfold machB
  have q := v_in (l.length : Int) 1 900
  cases hi : decide ((l.length : Int) ≥ 1) && decide ((l.length : Int) ≤ 900) with
  | false =>
    rw [hi] at q
    refine cw (keepF Tryz.f36) Tryz.f36 false ?_
    repeat' first | refine ck_intro (by first | exact hc | exact q) ?_ ?_ | refine g0 ?_ | refine d0 ?_ | refine j0 (fun hg hgo => ?_) fun hg hgo => ?_ | refine ek_ret ?_ | refine ek_norm ?_ | refine ⟨by omega, ?_⟩ | rfl | trivial | intro _
  | true =>
    rw [hi] at q
    have hpos : 0 < l.length := by simp at hi; omega
    rw [last_get hpos]
    have hm1 : l.length - 1 < (l.map stF).length := by rw [List.length_map]; omega
    have hcast : (l.length : Int) - 1 = ((l.length - 1 : Nat) : Int) := by omega
    generalize (l.all fun s => stepS s l.length) = u at hc ⊢
    cases u with
    | false => refine cw (keepF Tryz.f36) Tryz.f36 false ?_
               repeat' first | refine ck_intro (by first | exact hc | exact q) ?_ ?_ | refine g0 ?_ | refine d0 ?_ | refine j0 (fun hg hgo => ?_) fun hg hgo => ?_ | refine ek_ret ?_ | refine ek_norm ?_ | refine ⟨by omega, ?_⟩ | rfl | trivial | intro _
    | true =>
      refine cw (keepF Tryz.f36) Tryz.f36 false ?_
      repeat' first | refine ck_intro (by first | exact hc | exact q) ?_ ?_ | refine g1 @hcast ?_ | refine d1 @hcast ?_ | refine j1 @hcast (fun hg hgo => ?_) fun hg hgo => ?_ | refine ek_ret ?_ | refine ek_norm ?_ | refine ⟨by omega, ?_⟩ | rfl | trivial | intro _
      all_goals first | rfl | (simp_all [beqD, ]; done) | ((try simp only []); (repeat' split) <;> first | omega | (simp_all [beqD]; done) | (simp_all [beqD]; omega)) | (simp_all [beqD, ]; (repeat' split) <;> first | rfl | omega | (simp_all; done))
def ordN (f : FnD) : List Nat := (ordL f).map Int.toNat
def codeP (f : FnD) : List StepD := (ordN f).flatMap (codeAt f)
def bgs (f : FnD) : List Int := begins f (ordN f) (List.replicate f.blocks.length 0) 0
def codeE (f : FnD) : List StepD := (codeP f).map (patch (bgs f))
def emitB (f : FnD) : Bool := plainB f && decide (f.values ≤ 40) && machB (codeE f)
structure Em (f : FnD) : Prop where
  len : 0 < f.blocks.length ∧ f.blocks.length ≤ 16
  shp : shapeB f = true
  blk : ∀ b (h : b < f.blocks.length), f.blocks[b].list.length ≤ 24 ∧ f.blocks[b].term.a ≤ 39
  tgt : ∀ b (h : b < f.blocks.length), ∀ s ∈ termL f.blocks[b].term, s.op = 9 ∨ s.op = 10 → 0 ≤ s.n ∧ s.n < (f.blocks.length : Int)
theorem tkL_op {a b : Int} : ∀ s ∈ tkL a b, s.op = 3 := by
  intro s hs; unfold tkL at hs; split at hs
  · cases hs
  · rw [List.mem_singleton] at hs; subst hs; rfl
theorem em_of {f : FnD} (hp : plainB f = true) (hv : f.values ≤ 40) : Em f := by
  have hs : shapeB f = true := by unfold plainB at hp; rw [Bool.and_eq_true] at hp; exact hp.1
  have h := hs
  unfold shapeB rgB at h
  simp only [Bool.and_eq_true, decide_eq_true_eq, List.all_eq_true] at h
  have hb : ∀ b (h : b < f.blocks.length), f.blocks[b].list.length ≤ 24 ∧ termB f.blocks[b].term f.blocks.length f.values = true := by
    intro b hb
    have h1 := h.2 f.blocks[b] (List.getElem_mem hb)
    unfold blockB at h1
    simp only [Bool.and_eq_true, decide_eq_true_eq] at h1
    exact ⟨h1.1.1.1.2, h1.1.1.2⟩
  refine ⟨by omega, hs, fun b hb2 => ⟨(hb b hb2).1, ?_⟩, fun b hb2 s hm ho => ?_⟩
  · have ht := (hb b hb2).2
    unfold termB valB at ht
    split at ht
    · simp only [Bool.and_eq_true, decide_eq_true_eq] at ht; omega
    split at ht
    · simp only [Bool.and_eq_true, decide_eq_true_eq] at ht; omega
    split at ht
    · simp only [Bool.and_eq_true, decide_eq_true_eq] at ht; omega
    · cases ht
  · have ht := (hb b hb2).2
    unfold termB rgB at ht
    unfold termL at hm
    split at hm
    · rename_i hk
      rw [if_pos hk] at ht
      simp only [Bool.and_eq_true, decide_eq_true_eq] at ht
      rw [List.mem_singleton] at hm; subst hm; simp only; omega
    · rename_i hk
      rw [if_neg hk] at ht
      split at hm
      · rename_i hk2
        rw [if_pos hk2] at ht
        simp only [Bool.and_eq_true, decide_eq_true_eq] at ht
        rcases List.mem_append.1 hm with hm | hm
        · have := tkL_op s hm; omega
        · simp only [List.mem_cons, List.not_mem_nil, or_false] at hm
          rcases hm with rfl | rfl
          · simp only; omega
          · simp only; omega
      · rcases List.mem_append.1 hm with hm | hm
        · have := tkL_op s hm; omega
        · rw [List.mem_singleton] at hm; subst hm; simp only at ho; omega
theorem codeAt_at {f : FnD} {b : Nat} (h : b < f.blocks.length) : codeAt f b = blkC f.blocks[b] := by
  unfold codeAt; rw [List.getElem?_eq_getElem h]; rfl
theorem flatE_le : ∀ l : List StepD, (l.flatMap emitL).length ≤ 4 * l.length
  | [] => Nat.le_refl _
  | x :: l => by
    have h1 := emitL_len x
    have h2 := flatE_le l
    rw [List.flatMap_cons, List.length_append, List.length_cons]; omega
theorem blkC_len (b : BlockD) : (blkC b).length ≤ 4 * b.list.length + 3 := by
  have h1 := flatE_le b.list
  have h2 := termL_len b.term
  unfold blkC; rw [List.length_append]; omega
theorem blkC_tgt {f : FnD} (he : Em f) {b : Nat} (h : b < f.blocks.length) : ∀ s ∈ blkC f.blocks[b], s.op = 9 ∨ s.op = 10 → 0 ≤ s.n ∧ s.n < (f.blocks.length : Int) := by
  intro s hs ho
  unfold blkC at hs
  rcases List.mem_append.1 hs with hs | hs
  · obtain ⟨x, -, hx⟩ := List.mem_flatMap.1 hs
    have := emit_nj x s hx
    unfold njS at this; omega
  · exact he.tgt b h s hs ho
theorem ordN_in {f : FnD} (he : Em f) : (ordN f).length ≤ 16 ∧ ∀ b ∈ ordN f, b < f.blocks.length := by
  have h := ord_ok he.shp he.len.1
  refine ⟨by unfold ordN; rw [List.length_map]; have := he.len; omega, fun b hb => ?_⟩
  unfold ordN at hb
  obtain ⟨x, hx, rfl⟩ := List.mem_map.1 hb
  have := h.2 x hx; omega
theorem codeP_tgt {f : FnD} (he : Em f) : ∀ s ∈ codeP f, s.op = 9 ∨ s.op = 10 → 0 ≤ s.n ∧ s.n < (f.blocks.length : Int) := by
  intro s hs ho
  unfold codeP at hs
  obtain ⟨b, hb, hx⟩ := List.mem_flatMap.1 hs
  have hbl := (ordN_in he).2 b hb
  rw [codeAt_at hbl] at hx
  exact blkC_tgt he hbl s hx ho
theorem bgs_len (f : FnD) : (bgs f).length = f.blocks.length := by unfold bgs; rw [begins_len, List.length_replicate]
theorem flatC_le {f : FnD} (he : Em f) : ∀ l : List Nat, (∀ b ∈ l, b < f.blocks.length) → (l.flatMap (codeAt f)).length ≤ 99 * l.length
  | [], _ => Nat.le_refl _
  | b :: l, h => by
    have hb := h b (by simp)
    have h1 := blkC_len f.blocks[b]
    have h2 := (he.blk b hb).1
    have h3 := flatC_le he l fun x hx => h x (by simp [hx])
    rw [List.flatMap_cons, List.length_append, List.length_cons, codeAt_at hb]; omega
theorem codeP_len {f : FnD} (he : Em f) : (codeP f).length ≤ 1584 := by
  have h := ordN_in he
  have h1 := flatC_le he (ordN f) h.2
  unfold codeP; omega
theorem codeE_op {f : FnD} (he : Em f) : ∀ x ∈ codeE f, I64 x.op := by
  have hP : ∀ x ∈ codeP f, 1 ≤ x.op ∧ x.op ≤ 21 := by
    intro s hs
    unfold codeP at hs
    obtain ⟨b, hb, hx⟩ := List.mem_flatMap.1 hs
    have hbl := (ordN_in he).2 b hb
    rw [codeAt_at hbl] at hx
    unfold blkC at hx
    rcases List.mem_append.1 hx with hx | hx
    · obtain ⟨y, -, hy⟩ := List.mem_flatMap.1 hx
      have := emit_ok y s hy; exact ⟨this.1, this.2.1⟩
    · unfold termL at hx
      split at hx
      · rw [List.mem_singleton] at hx; subst hx; simp
      split at hx
      · rcases List.mem_append.1 hx with hx | hx
        · have := tkL_op s hx; omega
        · simp only [List.mem_cons, List.not_mem_nil, or_false] at hx
          rcases hx with rfl | rfl <;> simp
      · rcases List.mem_append.1 hx with hx | hx
        · have := tkL_op s hx; omega
        · rw [List.mem_singleton] at hx; subst hx; simp
  intro x hx
  unfold codeE at hx
  obtain ⟨y, hy, rfl⟩ := List.mem_map.1 hx
  have := hP y hy
  have e : (patch (bgs f) y).op = y.op := by unfold patch; split <;> rfl
  rw [e]; unfold I64; omega
theorem ord_at {f : FnD} {i : Nat} (he : Em f) (hi : i < (ordL f).length) : ∃ b : Nat, (ordL f)[i] = (b : Int) ∧ b < f.blocks.length ∧ (ordN f).drop i = b :: (ordN f).drop (i + 1) := by
  have h := (ord_ok he.shp he.len.1).2 _ (List.getElem_mem hi)
  refine ⟨(ordL f)[i].toNat, by omega, by omega, ?_⟩
  unfold ordN
  rw [List.drop_eq_getElem_cons (by rw [List.length_map]; exact hi), List.getElem_map]
theorem ord_end {f : FnD} {i : Nat} (hi : ¬ i < (ordL f).length) : (ordN f).drop i = [] := by
  unfold ordN; exact List.drop_eq_nil_of_le (by rw [List.length_map]; omega)
theorem v_eqArm (x y : ArmD) : C2 CC F_laws_eqArm [.fv (armF x), .fv (armF y)] (bv (decide (x = y))) [] := by
  obtain ⟨a, b⟩ := x
  obtain ⟨a', b'⟩ := y
  have hd : decide ((⟨a, b⟩ : ArmD) = ⟨a', b'⟩) = (decide (a = a') && decide (b = b')) := by
    rw [Bool.eq_iff_iff]; simp
  rw [hd]
  refine cw (keepF Tryz.f160) Tryz.f160 false ?_
  repeat' first | refine g0 ?_ | refine d0 ?_ | refine j0 (fun hg hgo => ?_) fun hg hgo => ?_ | refine ek_ret ?_ | refine ek_norm ?_ | refine ⟨by omega, ?_⟩ | rfl | trivial | intro _
  all_goals first | rfl | (simp_all [beqD, bneT, bneF]; done) | ((try simp only [bneT, bneF]); (repeat' split) <;> first | omega | (simp_all [beqD]; done) | (simp_all [beqD]; omega)) | (simp_all [beqD, bneT, bneF]; (repeat' split) <;> first | rfl | omega | (simp_all; done))
theorem v_eqIns (x y : StepD) : C2 CC F_laws_eqIns [sF x, sF y] (bv (decide (x = y))) [] := by
  obtain ⟨op, r, a, b, n⟩ := x
  obtain ⟨op', r', a', b', n'⟩ := y
  have hd : decide ((⟨op, r, a, b, n⟩ : StepD) = ⟨op', r', a', b', n'⟩) = (decide (op = op') && decide (r = r') && decide (a = a') && decide (b = b') && decide (n = n')) := by
    rw [Bool.eq_iff_iff]; simp; simp only [and_assoc]
  rw [hd]
  refine cw (keepF Tryz.f150) Tryz.f150 false ?_
  repeat' first | refine g0 ?_ | refine d0 ?_ | refine j0 (fun hg hgo => ?_) fun hg hgo => ?_ | refine ek_ret ?_ | refine ek_norm ?_ | refine ⟨by omega, ?_⟩ | rfl | trivial | intro _
  all_goals first | rfl | (simp_all [beqD, bneT, bneF]; done) | ((try simp only [bneT, bneF]); (repeat' split) <;> first | omega | (simp_all [beqD]; done) | (simp_all [beqD]; omega)) | (simp_all [beqD, bneT, bneF]; (repeat' split) <;> first | rfl | omega | (simp_all; done))
theorem v_eqTerm (x y : TermD) : C2 CC F_laws_eqTerm [.fv (termF x), .fv (termF y)] (bv (decide (x = y))) [] := by
  obtain ⟨r, a, b, n⟩ := x
  obtain ⟨r', a', b', n'⟩ := y
  have hd : decide ((⟨r, a, b, n⟩ : TermD) = ⟨r', a', b', n'⟩) = (decide (r = r') && decide (a = a') && decide (b = b') && decide (n = n')) := by
    rw [Bool.eq_iff_iff]; simp; simp only [and_assoc]
  rw [hd]
  refine cw (keepF Tryz.f126) Tryz.f126 false ?_
  repeat' first | refine g0 ?_ | refine d0 ?_ | refine j0 (fun hg hgo => ?_) fun hg hgo => ?_ | refine ek_ret ?_ | refine ek_norm ?_ | refine ⟨by omega, ?_⟩ | rfl | trivial | intro _
  all_goals first | rfl | (simp_all [beqD, bneT, bneF]; done) | ((try simp only [bneT, bneF]); (repeat' split) <;> first | omega | (simp_all [beqD]; done) | (simp_all [beqD]; omega)) | (simp_all [beqD, bneT, bneF]; (repeat' split) <;> first | rfl | omega | (simp_all; done))
theorem v_eqArmS (l1 l2 : List ArmD) (hn1 : l1.length < 1073741824) (hn2 : l2.length < 1073741824) (hb1 : ∀ x ∈ l1, True) (hb2 : ∀ x ∈ l2, True) : C2 CC F_laws_eqArmS [.fv (.row 2 (l1.map armF)), .fv (.row 2 (l2.map armF))] (bv (decide (l1 = l2))) [] := by
  refine cw (keepF Tryz.f157) Tryz.f157 false ?_
  repeat' first | refine pd3 17 [0, 0, 3, 7, 0, 0, 48, 112, 255, 511] [0, 0, 0, 1, 0, 0, 0, 1, 5, 0] false ?_ | refine g0 ?_ | refine d0 ?_ | refine j0 (fun hg hgo => ?_) fun hg hgo => ?_ | refine ek_ret ?_ | refine ek_norm ?_ | refine ⟨by omega, ?_⟩ | rfl | trivial | intro _
  · have : l1 ≠ l2 := fun e => by subst e; simp at hg
    simp [this]
  · have hlen : l1.length = l2.length := by have := hg; simp at this; omega
    refine pw_loop (fun m st => ∃ j : Nat, j + m = l1.length ∧ (∀ i (h1 : i < l1.length) (h2 : i < l2.length), i < j → l1[i] = l2[i]) ∧ st = [(0, .fv (.row 2 (l1.map armF))), (1, .fv (.row 2 (l2.map armF))), (5, iv j)]) l1.length [(0, .fv (.row 2 (l1.map armF))), (1, .fv (.row 2 (l2.map armF))), (5, iv (0 : Nat))] (sub_of ?_) ⟨0, by omega, fun i _ _ hi => by omega, rfl⟩ ?_
    · exact dn
    · rintro m st ⟨j, hj, hb, rfl⟩
      by_cases hlt : j < l1.length
      · have hd : decide ((j : Int) < (l1.length : Int)) = true := by rw [decide_eq_true_eq]; omega
        have hlt2 : j < l2.length := by omega
        have hm1 : j < (l1.map armF).length := by rw [List.length_map]; exact hlt
        have hm2 : j < (l2.map armF).length := by rw [List.length_map]; exact hlt2
        replace hb : True → _ := fun _ => hb
        have hel := v_eqArm l1[j] l2[j]
        repeat' first | refine ck_intro (by first | exact hel) ?_ ?_ | refine pd3 17 [0, 0, 3, 7, 0, 0, 48, 112, 255, 511] [0, 0, 0, 1, 0, 0, 0, 1, 5, 0] false ?_ | refine g1 @hd ?_ | refine d1 @hd ?_ | refine j1 @hd (fun hg hgo => ?_) fun hg hgo => ?_ | refine ek_ret ?_ | refine ek_norm ?_ | refine ⟨by omega, ?_⟩ | rfl | trivial | intro _
        · simp [list_ne hlt hlt2 hgo]
        · refine rd_norm [(0, .fv (.row 2 (l1.map armF))), (1, .fv (.row 2 (l2.map armF))), (5, iv (j + 1 : Nat))] (sub_of ?_) (m - 1) (by omega) ⟨j + 1, by omega, fun i q1 q2 hi => ?_, rfl⟩
          · exact dn
          · by_cases hij : i = j
            · subst hij; exact hgo
            · exact hb trivial i q1 q2 (by omega)
      · have hd : decide ((j : Int) < (l1.length : Int)) = false := by rw [decide_eq_false_iff_not]; omega
        have hq : decide (l1 = l2) = true := by rw [decide_eq_true_eq]; exact List.ext_getElem hlen fun i q1 q2 => hb i q1 q2 (by omega)
        repeat' first | refine pd3 17 [0, 0, 3, 7, 0, 0, 48, 112, 255, 511] [0, 0, 0, 1, 0, 0, 0, 1, 5, 0] false ?_ | refine g2 @hd @hq ?_ | refine d2 @hd @hq ?_ | refine j2 @hd @hq (fun hg hgo => ?_) fun hg hgo => ?_ | refine ek_ret ?_ | refine ek_norm ?_ | refine ⟨by omega, ?_⟩ | rfl | trivial | intro _
theorem v_eqInsS (l1 l2 : List StepD) (hn1 : l1.length < 1073741824) (hn2 : l2.length < 1073741824) (hb1 : ∀ x ∈ l1, True) (hb2 : ∀ x ∈ l2, True) : C2 CC F_laws_eqInsS [.fv (.row 5 (l1.map stF)), .fv (.row 5 (l2.map stF))] (bv (decide (l1 = l2))) [] := by
  refine cw (keepF Tryz.f125) Tryz.f125 false ?_
  repeat' first | refine pd3 17 [0, 0, 3, 7, 0, 0, 48, 112, 255, 511] [0, 0, 0, 1, 0, 0, 0, 1, 5, 0] false ?_ | refine g0 ?_ | refine d0 ?_ | refine j0 (fun hg hgo => ?_) fun hg hgo => ?_ | refine ek_ret ?_ | refine ek_norm ?_ | refine ⟨by omega, ?_⟩ | rfl | trivial | intro _
  · have : l1 ≠ l2 := fun e => by subst e; simp at hg
    simp [this]
  · have hlen : l1.length = l2.length := by have := hg; simp at this; omega
    refine pw_loop (fun m st => ∃ j : Nat, j + m = l1.length ∧ (∀ i (h1 : i < l1.length) (h2 : i < l2.length), i < j → l1[i] = l2[i]) ∧ st = [(0, .fv (.row 5 (l1.map stF))), (1, .fv (.row 5 (l2.map stF))), (5, iv j)]) l1.length [(0, .fv (.row 5 (l1.map stF))), (1, .fv (.row 5 (l2.map stF))), (5, iv (0 : Nat))] (sub_of ?_) ⟨0, by omega, fun i _ _ hi => by omega, rfl⟩ ?_
    · exact dn
    · rintro m st ⟨j, hj, hb, rfl⟩
      by_cases hlt : j < l1.length
      · have hd : decide ((j : Int) < (l1.length : Int)) = true := by rw [decide_eq_true_eq]; omega
        have hlt2 : j < l2.length := by omega
        have hm1 : j < (l1.map stF).length := by rw [List.length_map]; exact hlt
        have hm2 : j < (l2.map stF).length := by rw [List.length_map]; exact hlt2
        replace hb : True → _ := fun _ => hb
        have hel := v_eqIns l1[j] l2[j]
        repeat' first | refine ck_intro (by first | exact hel) ?_ ?_ | refine pd3 17 [0, 0, 3, 7, 0, 0, 48, 112, 255, 511] [0, 0, 0, 1, 0, 0, 0, 1, 5, 0] false ?_ | refine g1 @hd ?_ | refine d1 @hd ?_ | refine j1 @hd (fun hg hgo => ?_) fun hg hgo => ?_ | refine ek_ret ?_ | refine ek_norm ?_ | refine ⟨by omega, ?_⟩ | rfl | trivial | intro _
        · simp [list_ne hlt hlt2 hgo]
        · refine rd_norm [(0, .fv (.row 5 (l1.map stF))), (1, .fv (.row 5 (l2.map stF))), (5, iv (j + 1 : Nat))] (sub_of ?_) (m - 1) (by omega) ⟨j + 1, by omega, fun i q1 q2 hi => ?_, rfl⟩
          · exact dn
          · by_cases hij : i = j
            · subst hij; exact hgo
            · exact hb trivial i q1 q2 (by omega)
      · have hd : decide ((j : Int) < (l1.length : Int)) = false := by rw [decide_eq_false_iff_not]; omega
        have hq : decide (l1 = l2) = true := by rw [decide_eq_true_eq]; exact List.ext_getElem hlen fun i q1 q2 => hb i q1 q2 (by omega)
        repeat' first | refine pd3 17 [0, 0, 3, 7, 0, 0, 48, 112, 255, 511] [0, 0, 0, 1, 0, 0, 0, 1, 5, 0] false ?_ | refine g2 @hd @hq ?_ | refine d2 @hd @hq ?_ | refine j2 @hd @hq (fun hg hgo => ?_) fun hg hgo => ?_ | refine ek_ret ?_ | refine ek_norm ?_ | refine ⟨by omega, ?_⟩ | rfl | trivial | intro _
theorem v_eqPhi (x y : PhiD) (hx : x.ok) (hy : y.ok) : C2 CC F_laws_eqPhi [.fv (phiF x), .fv (phiF y)] (bv (decide (x = y))) [] := by
  obtain ⟨d, l⟩ := x
  obtain ⟨d', l'⟩ := y
  have hd : decide ((⟨d, l⟩ : PhiD) = ⟨d', l'⟩) = (decide (d = d') && decide (l = l')) := by
    rw [Bool.eq_iff_iff]; simp
  rw [hd]
  have he := v_eqArmS l l' hx hy (fun _ _ => trivial) (fun _ _ => trivial)
  refine cw (keepF Tryz.f149) Tryz.f149 false ?_
  repeat' first | refine ck_intro (by first | exact he) ?_ ?_ | refine g0 ?_ | refine d0 ?_ | refine j0 (fun hg hgo => ?_) fun hg hgo => ?_ | refine ek_ret ?_ | refine ek_norm ?_ | refine ⟨by omega, ?_⟩ | rfl | trivial | intro _
  all_goals first | rfl | (simp_all [beqD, bneT, bneF]; done) | ((try simp only [bneT, bneF]); (repeat' split) <;> first | omega | (simp_all [beqD]; done) | (simp_all [beqD]; omega)) | (simp_all [beqD, bneT, bneF]; (repeat' split) <;> first | rfl | omega | (simp_all; done))
theorem v_eqPhiS (l1 l2 : List PhiD) (hn1 : l1.length < 1073741824) (hn2 : l2.length < 1073741824) (hb1 : ∀ x ∈ l1, x.ok) (hb2 : ∀ x ∈ l2, x.ok) : C2 CC F_laws_eqPhiS [.fv (.row 2 (l1.map phiF)), .fv (.row 2 (l2.map phiF))] (bv (decide (l1 = l2))) [] := by
  refine cw (keepF Tryz.f124) Tryz.f124 false ?_
  repeat' first | refine pd3 17 [0, 0, 3, 7, 0, 0, 48, 112, 255, 511] [0, 0, 0, 1, 0, 0, 0, 1, 5, 0] false ?_ | refine g0 ?_ | refine d0 ?_ | refine j0 (fun hg hgo => ?_) fun hg hgo => ?_ | refine ek_ret ?_ | refine ek_norm ?_ | refine ⟨by omega, ?_⟩ | rfl | trivial | intro _
  · have : l1 ≠ l2 := fun e => by subst e; simp at hg
    simp [this]
  · have hlen : l1.length = l2.length := by have := hg; simp at this; omega
    refine pw_loop (fun m st => ∃ j : Nat, j + m = l1.length ∧ (∀ i (h1 : i < l1.length) (h2 : i < l2.length), i < j → l1[i] = l2[i]) ∧ st = [(0, .fv (.row 2 (l1.map phiF))), (1, .fv (.row 2 (l2.map phiF))), (5, iv j)]) l1.length [(0, .fv (.row 2 (l1.map phiF))), (1, .fv (.row 2 (l2.map phiF))), (5, iv (0 : Nat))] (sub_of ?_) ⟨0, by omega, fun i _ _ hi => by omega, rfl⟩ ?_
    · exact dn
    · rintro m st ⟨j, hj, hb, rfl⟩
      by_cases hlt : j < l1.length
      · have hd : decide ((j : Int) < (l1.length : Int)) = true := by rw [decide_eq_true_eq]; omega
        have hlt2 : j < l2.length := by omega
        have hm1 : j < (l1.map phiF).length := by rw [List.length_map]; exact hlt
        have hm2 : j < (l2.map phiF).length := by rw [List.length_map]; exact hlt2
        replace hb : True → _ := fun _ => hb
        have hel := v_eqPhi l1[j] l2[j] (hb1 _ (List.getElem_mem hlt)) (hb2 _ (List.getElem_mem hlt2))
        repeat' first | refine ck_intro (by first | exact hel) ?_ ?_ | refine pd3 17 [0, 0, 3, 7, 0, 0, 48, 112, 255, 511] [0, 0, 0, 1, 0, 0, 0, 1, 5, 0] false ?_ | refine g1 @hd ?_ | refine d1 @hd ?_ | refine j1 @hd (fun hg hgo => ?_) fun hg hgo => ?_ | refine ek_ret ?_ | refine ek_norm ?_ | refine ⟨by omega, ?_⟩ | rfl | trivial | intro _
        · simp [list_ne hlt hlt2 hgo]
        · refine rd_norm [(0, .fv (.row 2 (l1.map phiF))), (1, .fv (.row 2 (l2.map phiF))), (5, iv (j + 1 : Nat))] (sub_of ?_) (m - 1) (by omega) ⟨j + 1, by omega, fun i q1 q2 hi => ?_, rfl⟩
          · exact dn
          · by_cases hij : i = j
            · subst hij; exact hgo
            · exact hb trivial i q1 q2 (by omega)
      · have hd : decide ((j : Int) < (l1.length : Int)) = false := by rw [decide_eq_false_iff_not]; omega
        have hq : decide (l1 = l2) = true := by rw [decide_eq_true_eq]; exact List.ext_getElem hlen fun i q1 q2 => hb i q1 q2 (by omega)
        repeat' first | refine pd3 17 [0, 0, 3, 7, 0, 0, 48, 112, 255, 511] [0, 0, 0, 1, 0, 0, 0, 1, 5, 0] false ?_ | refine g2 @hd @hq ?_ | refine d2 @hd @hq ?_ | refine j2 @hd @hq (fun hg hgo => ?_) fun hg hgo => ?_ | refine ek_ret ?_ | refine ek_norm ?_ | refine ⟨by omega, ?_⟩ | rfl | trivial | intro _
theorem v_eqBlock (x y : BlockD) (hx : x.ok) (hy : y.ok) : C2 CC F_laws_eqBlock [.fv (blockF x), .fv (blockF y)] (bv (decide (x = y))) [] := by
  obtain ⟨p, l, t⟩ := x
  obtain ⟨p', l', t'⟩ := y
  have hd : decide ((⟨p, l, t⟩ : BlockD) = ⟨p', l', t'⟩) = (decide (p = p') && decide (l = l') && decide (t = t')) := by
    rw [Bool.eq_iff_iff]; simp; simp only [and_assoc]
  rw [hd]
  have he := v_eqPhiS p p' hx.1 hy.1 hx.2.1 hy.2.1
  have he2 := v_eqInsS l l' hx.2.2 hy.2.2 (fun _ _ => trivial) (fun _ _ => trivial)
  have he3 := v_eqTerm t t'
  refine cw (keepF Tryz.f83) Tryz.f83 false ?_
  repeat' first | refine ck_intro (by first | exact he | exact he2 | exact he3) ?_ ?_ | refine g0 ?_ | refine d0 ?_ | refine j0 (fun hg hgo => ?_) fun hg hgo => ?_ | refine ek_ret ?_ | refine ek_norm ?_ | refine ⟨by omega, ?_⟩ | rfl | trivial | intro _
  all_goals first | rfl | (simp_all [beqD, bneT, bneF]; done) | ((try simp only [bneT, bneF]); (repeat' split) <;> first | omega | (simp_all [beqD]; done) | (simp_all [beqD]; omega)) | (simp_all [beqD, bneT, bneF]; (repeat' split) <;> first | rfl | omega | (simp_all; done))
theorem v_eqBlockS (l1 l2 : List BlockD) (hn1 : l1.length < 1073741824) (hn2 : l2.length < 1073741824) (hb1 : ∀ x ∈ l1, x.ok) (hb2 : ∀ x ∈ l2, x.ok) : C2 CC F_laws_eqBlockS [.fv (.row 6 (l1.map blockF)), .fv (.row 6 (l2.map blockF))] (bv (decide (l1 = l2))) [] := by
  refine cw (keepF Tryz.f38) Tryz.f38 false ?_
  repeat' first | refine pd3 17 [0, 0, 3, 7, 0, 0, 48, 112, 255, 511] [0, 0, 0, 1, 0, 0, 0, 1, 5, 0] false ?_ | refine g0 ?_ | refine d0 ?_ | refine j0 (fun hg hgo => ?_) fun hg hgo => ?_ | refine ek_ret ?_ | refine ek_norm ?_ | refine ⟨by omega, ?_⟩ | rfl | trivial | intro _
  · have : l1 ≠ l2 := fun e => by subst e; simp at hg
    simp [this]
  · have hlen : l1.length = l2.length := by have := hg; simp at this; omega
    refine pw_loop (fun m st => ∃ j : Nat, j + m = l1.length ∧ (∀ i (h1 : i < l1.length) (h2 : i < l2.length), i < j → l1[i] = l2[i]) ∧ st = [(0, .fv (.row 6 (l1.map blockF))), (1, .fv (.row 6 (l2.map blockF))), (5, iv j)]) l1.length [(0, .fv (.row 6 (l1.map blockF))), (1, .fv (.row 6 (l2.map blockF))), (5, iv (0 : Nat))] (sub_of ?_) ⟨0, by omega, fun i _ _ hi => by omega, rfl⟩ ?_
    · exact dn
    · rintro m st ⟨j, hj, hb, rfl⟩
      by_cases hlt : j < l1.length
      · have hd : decide ((j : Int) < (l1.length : Int)) = true := by rw [decide_eq_true_eq]; omega
        have hlt2 : j < l2.length := by omega
        have hm1 : j < (l1.map blockF).length := by rw [List.length_map]; exact hlt
        have hm2 : j < (l2.map blockF).length := by rw [List.length_map]; exact hlt2
        replace hb : True → _ := fun _ => hb
        have hel := v_eqBlock l1[j] l2[j] (hb1 _ (List.getElem_mem hlt)) (hb2 _ (List.getElem_mem hlt2))
        repeat' first | refine ck_intro (by first | exact hel) ?_ ?_ | refine pd3 17 [0, 0, 3, 7, 0, 0, 48, 112, 255, 511] [0, 0, 0, 1, 0, 0, 0, 1, 5, 0] false ?_ | refine g1 @hd ?_ | refine d1 @hd ?_ | refine j1 @hd (fun hg hgo => ?_) fun hg hgo => ?_ | refine ek_ret ?_ | refine ek_norm ?_ | refine ⟨by omega, ?_⟩ | rfl | trivial | intro _
        · simp [list_ne hlt hlt2 hgo]
        · refine rd_norm [(0, .fv (.row 6 (l1.map blockF))), (1, .fv (.row 6 (l2.map blockF))), (5, iv (j + 1 : Nat))] (sub_of ?_) (m - 1) (by omega) ⟨j + 1, by omega, fun i q1 q2 hi => ?_, rfl⟩
          · exact dn
          · by_cases hij : i = j
            · subst hij; exact hgo
            · exact hb trivial i q1 q2 (by omega)
      · have hd : decide ((j : Int) < (l1.length : Int)) = false := by rw [decide_eq_false_iff_not]; omega
        have hq : decide (l1 = l2) = true := by rw [decide_eq_true_eq]; exact List.ext_getElem hlen fun i q1 q2 => hb i q1 q2 (by omega)
        repeat' first | refine pd3 17 [0, 0, 3, 7, 0, 0, 48, 112, 255, 511] [0, 0, 0, 1, 0, 0, 0, 1, 5, 0] false ?_ | refine g2 @hd @hq ?_ | refine d2 @hd @hq ?_ | refine j2 @hd @hq (fun hg hgo => ?_) fun hg hgo => ?_ | refine ek_ret ?_ | refine ek_norm ?_ | refine ⟨by omega, ?_⟩ | rfl | trivial | intro _
theorem v_eqFn (x y : FnD) (hx : x.ok) (hy : y.ok) : C2 CC F_laws_eqFn [.fv (fnF x), .fv (fnF y)] (bv (decide (x = y))) [] := by
  obtain ⟨p, t⟩ := x
  obtain ⟨p', t'⟩ := y
  have hd : decide ((⟨p, t⟩ : FnD) = ⟨p', t'⟩) = (decide (p = p') && decide (t = t')) := by
    rw [Bool.eq_iff_iff]; simp
  rw [hd]
  have he := v_eqBlockS p p' hx.1 hy.1 hx.2 hy.2
  refine cw (keepF Tryz.f11) Tryz.f11 false ?_
  repeat' first | refine ck_intro (by first | exact he) ?_ ?_ | refine g0 ?_ | refine d0 ?_ | refine j0 (fun hg hgo => ?_) fun hg hgo => ?_ | refine ek_ret ?_ | refine ek_norm ?_ | refine ⟨by omega, ?_⟩ | rfl | trivial | intro _
  all_goals first | rfl | (simp_all [beqD, bneT, bneF]; done) | ((try simp only [bneT, bneF]); (repeat' split) <;> first | omega | (simp_all [beqD]; done) | (simp_all [beqD]; omega)) | (simp_all [beqD, bneT, bneF]; (repeat' split) <;> first | rfl | omega | (simp_all; done))
theorem ints_set {l : List Int} {i : Nat} {b : Int} : (ints l).set i (.fv (.int .i64 b)) = ints (l.set i b) := by unfold ints; rw [List.map_set]
theorem ints_rep {n : Nat} {b : Int} : List.replicate n (DV.fv (.int .i64 b)) = ints (List.replicate n b) := by unfold ints; simp
theorem ints_at {l : List Int} {i : Nat} (h : i < l.length) : (ints l)[i]? = some (.fv (.int .i64 l[i])) := by unfold ints; simp [h]
theorem drop_suc {f : FnD} {b i : Nat} (hb : b < f.blocks.length) (hi : i < (succL f.blocks[b].term).length) : (sucN f b).drop i = (succL f.blocks[b].term)[i].toNat :: (sucN f b).drop (i + 1) := by
  rw [sucN_at hb, List.drop_eq_getElem_cons (by rw [List.length_map]; exact hi), List.getElem_map]
theorem drop_suc_no {f : FnD} {b i : Nat} (hb : b < f.blocks.length) (hi : ¬ i < (succL f.blocks[b].term).length) : (sucN f b).drop i = [] := by
  rw [sucN_at hb]; exact List.drop_eq_nil_of_le (by rw [List.length_map]; omega)
theorem v_l3Left (f : FnD) (hL : f.blocks.length ≤ 16) (hs : shapeB f = true) : ∀ (n b : Nat) (s : List Bool) (o : List Int), b < f.blocks.length → s.length = f.blocks.length → s[b]? = some false → cf s ≤ n → o.length + cf s ≤ 100 → C2 CC F_spec_l3Left [.fv (fnF f), iv b, .own 1 (bools s), .own 1 (ints o)] (.own 1 (ints (dfs f n b (s, o)).2)) [.junk 1, .junk 1, .own 1 (bools (dfs f n b (s, o)).1), .junk 1] := by
  intro n
  induction n with
  | zero =>
    intro b s o hb hsl hsb hc ho
    have := cf_set hsb
    omega
  | succ n ih =>
    intro b s o hb hsl hsb hc ho
    have k := v_l3Succs f b hb (by omega)
    have hcs := cf_set hsb
    have hbs : b < s.length := by omega
    have hbg : (bools s)[b]? = some (bv false) := by
      rw [bools_get hbs]; rw [List.getElem?_eq_getElem hbs] at hsb; injection hsb with hsb; rw [hsb]
    have hsi := suc_in hs b hb
    have hdk := dk_dfs (suc_inN hs) n
    have h0 : (sucN f b).drop 0 = sucN f b := rfl
    have hK := fun i => @drop_suc f b i hb
    have hK2 := fun i => @drop_suc_no f b i hb
    have hKl : (succL f.blocks[b].term).length ≤ 2 := by
      unfold succL; repeat' split
      all_goals simp
    rw [dfs_succ]
    generalize hR : (sucN f b).foldl (nxt f n) (s.set b true, o) = R
    refine cw (keepF Tryz.f60) Tryz.f60 false ?_
    repeat' first | refine ck_intro (by first | exact k) ?_ ?_ | refine pd3 31 [0, 0, 0, 6, 14, 0, 0, 127, 255] [1, 0, 0, 0, 1, 0, 0, 5, 0] false ?_ | refine g2 @bools_set @hbg ?_ | refine d2 @bools_set @hbg ?_ | refine j2 @bools_set @hbg (fun hg hgo => ?_) fun hg hgo => ?_ | refine ek_ret ?_ | refine ek_norm ?_ | refine ⟨by omega, ?_⟩ | rfl | trivial | intro _
    generalize succL f.blocks[b].term = K at k hsi hK hK2 hKl ⊢
    refine pw_loop (fun m st => ∃ (i : Nat) (t : List Bool × List Int), i + m = K.length ∧ ((sucN f b).drop i).foldl (nxt f n) t = R ∧ t.1.length = f.blocks.length ∧ cf t.1 ≤ n ∧ t.2.length + cf t.1 ≤ 100 ∧ (st = [(4, .box (.fv (fnF f))), (1, iv b), (2, .hdr (1000002, []) 1 t.1.length), (9, .own 1 (ints K)), (10, iv i), (1000002, .own 1 (bools t.1)), (3, .hdr (1000003, []) 1 t.2.length), (1000003, .own 1 (ints t.2))] ∨ st = [(4, .box (.fv (fnF f))), (1, iv b), (2, .hdr (1000002, []) 1 t.1.length), (9, .own 1 (ints K)), (10, iv i), (1000002, .own 1 (bools t.1)), (3, .own 1 (ints t.2))])) K.length [(4, .box (.fv (fnF f))), (1, iv b), (2, .hdr (1000002, []) 1 (s.set b true).length), (9, .own 1 (ints K)), (10, iv (0 : Nat)), (1000002, .own 1 (bools (s.set b true))), (3, .hdr (1000003, []) 1 o.length), (1000003, .own 1 (ints o))] (sub_of ?_) ⟨0, (s.set b true, o), by omega, by rw [h0]; exact hR, by simp only [List.length_set]; exact hsl, by simp only; omega, by simp only; omega, .inl rfl⟩ ?_
    · rw [List.length_set]
      exact dn
    · rintro m st ⟨i, ⟨t1, t2⟩, hi, ht, htl, htc, hto, hst⟩
      simp only at ht htl htc hto hst
      by_cases hlt : i < K.length
      · have hd : decide ((i : Int) < (K.length : Int)) = true := by rw [decide_eq_true_eq]; omega
        have hg := ints_get hlt
        have hx := hsi K[i] (List.getElem_mem hlt)
        have hks := hK i hlt
        obtain ⟨c, hcN⟩ := Int.eq_ofNat_of_zero_le hx.1
        rw [hcN, Int.toNat_natCast] at hks
        rw [hcN] at hg hx
        rw [hks, List.foldl_cons] at ht
        have hc1 : c < t1.length := by omega
        have hgb := bools_get hc1
        cases hb1 : t1[c] with
        | true =>
          have hn1 : nxt f n (t1, t2) c = (t1, t2) := by
            unfold nxt; rw [if_pos (by simp only; rw [List.getD_eq_getElem?_getD, List.getElem?_eq_getElem hc1, hb1]; rfl)]
          rw [hn1] at ht
          rw [hb1] at hgb
          rcases hst with rfl | rfl
          · repeat' first | refine pd3 31 [0, 0, 0, 6, 14, 0, 0, 127, 255] [1, 0, 0, 0, 1, 0, 0, 5, 0] false ?_ | refine g3 @hd @hg @hgb ?_ | refine d3 @hd @hg @hgb ?_ | refine j3 @hd @hg @hgb (fun hg hgo => ?_) fun hg hgo => ?_ | refine ek_ret ?_ | refine ek_norm ?_ | refine ⟨by omega, ?_⟩ | rfl | trivial | intro _
            refine rd_norm [(4, .box (.fv (fnF f))), (1, iv b), (2, .hdr (1000002, []) 1 t1.length), (9, .own 1 (ints K)), (10, iv (i + 1 : Nat)), (1000002, .own 1 (bools t1)), (3, .hdr (1000003, []) 1 t2.length), (1000003, .own 1 (ints t2))] (sub_of ?_) (m - 1) (by omega) ⟨i + 1, (t1, t2), by omega, ht, htl, htc, hto, .inl rfl⟩
            exact dn
          · repeat' first | refine pd3 31 [0, 0, 0, 6, 14, 0, 0, 127, 255] [1, 0, 0, 0, 1, 0, 0, 5, 0] false ?_ | refine g3 @hd @hg @hgb ?_ | refine d3 @hd @hg @hgb ?_ | refine j3 @hd @hg @hgb (fun hg hgo => ?_) fun hg hgo => ?_ | refine ek_ret ?_ | refine ek_norm ?_ | refine ⟨by omega, ?_⟩ | rfl | trivial | intro _
            refine rd_norm [(4, .box (.fv (fnF f))), (1, iv b), (2, .hdr (1000002, []) 1 t1.length), (9, .own 1 (ints K)), (10, iv (i + 1 : Nat)), (1000002, .own 1 (bools t1)), (3, .own 1 (ints t2))] (sub_of ?_) (m - 1) (by omega) ⟨i + 1, (t1, t2), by omega, ht, htl, htc, hto, .inr rfl⟩
            exact dn
        | false =>
          have hn1 : nxt f n (t1, t2) c = dfs f n c (t1, t2) := by
            unfold nxt; rw [if_neg (by simp only; rw [List.getD_eq_getElem?_getD, List.getElem?_eq_getElem hc1, hb1]; simp)]
          have hq1 : t1[c]? = some false := by rw [List.getElem?_eq_getElem hc1, hb1]
          have kr := ih c t1 t2 (by omega) htl hq1 htc hto
          have hD := hdk c (t1, t2) (by omega) htl hq1
          rw [hn1] at ht
          rw [hb1] at hgb
          have ql1 := hD.len
          have ql2 := hD.cnt
          have ql3 := hD.mono
          simp only at ql1 ql2 ql3
          generalize dfs f n c (t1, t2) = t at ht kr hD ql1 ql2 ql3
          obtain ⟨u1, u2⟩ := t
          simp only at ht kr ql1 ql2 ql3
          rcases hst with rfl | rfl
          · repeat' first | refine ck_intro (by first | exact kr) ?_ ?_ | refine pd3 31 [0, 0, 0, 6, 14, 0, 0, 127, 255] [1, 0, 0, 0, 1, 0, 0, 5, 0] false ?_ | refine g3 @hd @hg @hgb ?_ | refine d3 @hd @hg @hgb ?_ | refine j3 @hd @hg @hgb (fun hg hgo => ?_) fun hg hgo => ?_ | refine ek_ret ?_ | refine ek_norm ?_ | refine ⟨by omega, ?_⟩ | rfl | trivial | intro _
            refine rd_norm [(4, .box (.fv (fnF f))), (1, iv b), (2, .hdr (1000002, []) 1 u1.length), (9, .own 1 (ints K)), (10, iv (i + 1 : Nat)), (1000002, .own 1 (bools u1)), (3, .own 1 (ints u2))] (sub_of ?_) (m - 1) (by omega) ⟨i + 1, (u1, u2), by omega, ht, by simp only; omega, by simp only; omega, by simp only; omega, .inr rfl⟩
            rw [ql1]
            exact dn
          · repeat' first | refine ck_intro (by first | exact kr) ?_ ?_ | refine pd3 31 [0, 0, 0, 6, 14, 0, 0, 127, 255] [1, 0, 0, 0, 1, 0, 0, 5, 0] false ?_ | refine g3 @hd @hg @hgb ?_ | refine d3 @hd @hg @hgb ?_ | refine j3 @hd @hg @hgb (fun hg hgo => ?_) fun hg hgo => ?_ | refine ek_ret ?_ | refine ek_norm ?_ | refine ⟨by omega, ?_⟩ | rfl | trivial | intro _
            refine rd_norm [(4, .box (.fv (fnF f))), (1, iv b), (2, .hdr (1000002, []) 1 u1.length), (9, .own 1 (ints K)), (10, iv (i + 1 : Nat)), (1000002, .own 1 (bools u1)), (3, .own 1 (ints u2))] (sub_of ?_) (m - 1) (by omega) ⟨i + 1, (u1, u2), by omega, ht, by simp only; omega, by simp only; omega, by simp only; omega, .inr rfl⟩
            rw [ql1]
            exact dn
      · have hd : decide ((i : Int) < (K.length : Int)) = false := by rw [decide_eq_false_iff_not]; omega
        rw [hK2 i hlt, List.foldl_nil] at ht
        subst ht
        have ha : ints t2 ++ [iv (b : Int)] = ints (t2 ++ [(b : Int)]) := by unfold ints; simp
        rcases hst with rfl | rfl
        · repeat' first | refine pd3 31 [0, 0, 0, 6, 14, 0, 0, 127, 255] [1, 0, 0, 0, 1, 0, 0, 5, 0] false ?_ | refine g2 @hd @ha ?_ | refine d2 @hd @ha ?_ | refine j2 @hd @ha (fun hg hgo => ?_) fun hg hgo => ?_ | refine ek_ret ?_ | refine ek_norm ?_ | refine ⟨by omega, ?_⟩ | rfl | trivial | intro _
        · repeat' first | refine pd3 31 [0, 0, 0, 6, 14, 0, 0, 127, 255] [1, 0, 0, 0, 1, 0, 0, 5, 0] false ?_ | refine g2 @hd @ha ?_ | refine d2 @hd @ha ?_ | refine j2 @hd @ha (fun hg hgo => ?_) fun hg hgo => ?_ | refine ek_ret ?_ | refine ek_norm ?_ | refine ⟨by omega, ?_⟩ | rfl | trivial | intro _
theorem cf_rep (n : Nat) : cf (List.replicate n false) = n := by unfold cf; rw [List.count_replicate_self]
theorem v_l3Order (f : FnD) (hf : f.ok) (hs : shapeB f = true) (hL : 0 < f.blocks.length ∧ f.blocks.length ≤ 16) : C2 CC F_spec_l3Order [.fv (fnF f)] (.own 1 (ints (ordL f))) [] := by
  have hmk : 0 ≤ (f.blocks.length : Int) ∧ (f.blocks.length : Int) < 4294967296 := ⟨by omega, by omega⟩
  have hc := cf_rep f.blocks.length
  have k := v_l3Left f hL.2 hs f.blocks.length 0 (List.replicate f.blocks.length false) [] hL.1 (by simp) (by simp [hL.1]) (by omega) (by simp only [List.length_nil]; omega)
  have hlen := (ord_ok hs hL.1).1
  unfold ordL at *
  rw [← bools_rep, show ints [] = [] from rfl] at k
  rw [List.length_reverse] at hlen
  generalize (dfs f f.blocks.length 0 (List.replicate f.blocks.length false, [])).2 = l at k hlen ⊢
  refine cw (keepF Tryz.f26) Tryz.f26 false ?_
  repeat' first | refine ck_intro (by first | exact k) ?_ ?_ | refine pd3 6 [0, 0, 2, 6, 14, 0, 63, 127] [1, 0, 1, 0, 3, 3, 5, 0] false ?_ | refine g1 @hmk ?_ | refine d1 @hmk ?_ | refine j1 @hmk (fun hg hgo => ?_) fun hg hgo => ?_ | refine ek_ret ?_ | refine ek_norm ?_ | refine ⟨by omega, ?_⟩ | rfl | trivial | intro _
  refine pw_loop (fun m st => ∃ j : Nat, j + m = l.length ∧ st = [(3, .own 1 (ints l)), (4, .own 1 (ints (l.reverse.take j))), (5, iv ((l.length : Int) - 1 - j))]) l.length [(3, .own 1 (ints l)), (4, .own 1 (ints (l.reverse.take 0))), (5, iv ((l.length : Int) - 1 - (0 : Nat)))] (sub_of ?_) ⟨0, by omega, rfl⟩ ?_
  · rw [List.take_zero, show ints [] = [] from rfl, show (l.length : Int) - 1 - ((0 : Nat) : Int) = (l.length : Int) - 1 by omega]
    exact dn
  · rintro m st ⟨j, hj, rfl⟩
    by_cases hlt : j < l.length
    · obtain ⟨i, hi⟩ : ∃ i : Nat, i + j + 1 = l.length := ⟨l.length - 1 - j, by omega⟩
      have he : (l.length : Int) - 1 - (j : Int) = (i : Int) := by omega
      have he2 : (l.length : Int) - 1 - ((j + 1 : Nat) : Int) = (i : Int) - 1 := by omega
      have hd : decide ((i : Int) ≥ 0) = true := by rw [decide_eq_true_eq]; omega
      have hil : i < l.length := by omega
      have hg := ints_get hil
      have ha : ints (l.reverse.take j) ++ [iv l[i]] = ints (l.reverse.take (j + 1)) := by
        rw [List.take_succ_eq_append_getElem (by rw [List.length_reverse]; exact hlt), List.getElem_reverse]
        unfold ints
        simp only [List.map_append, List.map_cons, List.map_nil]
        congr 4; omega
      have htl : (l.reverse.take j).length ≤ 100 := by rw [List.length_take, List.length_reverse]; omega
      rw [he]
      repeat' first | refine g3 @hd @hg @ha ?_ | refine d3 @hd @hg @ha ?_ | refine j3 @hd @hg @ha (fun hg hgo => ?_) fun hg hgo => ?_ | refine ek_ret ?_ | refine ek_norm ?_ | refine ⟨by omega, ?_⟩ | rfl | trivial | intro _
      refine rd_norm [(3, .own 1 (ints l)), (4, .own 1 (ints (l.reverse.take (j + 1)))), (5, iv ((l.length : Int) - 1 - (j + 1 : Nat)))] (sub_of ?_) (m - 1) (by omega) ⟨j + 1, by omega, rfl⟩
      rw [he2]
      exact dn
    · have he : (l.length : Int) - 1 - (j : Int) = -1 := by omega
      have ht : l.reverse.take j = l.reverse := List.take_of_length_le (by rw [List.length_reverse]; omega)
      rw [he, ht]
      exact dn
theorem v_MachineOk_spec (l : List StepD) (hl : l.length < 1073741824) : C2 CC F_spec_MachineOk [.fv (stR l)] (bv (machB l)) [] := by
  unfold machB
  have q := v_l1In (l.length : Int) 1 900
  cases hi : decide ((l.length : Int) ≥ 1) && decide ((l.length : Int) ≤ 900) with
  | false =>
    rw [hi] at q
    refine cw (keepF Tryz.f29) Tryz.f29 false ?_
    repeat' first | refine ck_intro (by first | exact q) ?_ ?_ | refine g0 ?_ | refine d0 ?_ | refine j0 (fun hg hgo => ?_) fun hg hgo => ?_ | refine ek_ret ?_ | refine ek_norm ?_ | refine ⟨by omega, ?_⟩ | rfl | trivial | intro _
  | true =>
    rw [hi] at q
    have hpos : 0 < l.length := by simp at hi; omega
    rw [last_get hpos]
    refine cw (keepF Tryz.f29) Tryz.f29 false ?_
    repeat' first | refine ck_intro (by first | exact q) ?_ ?_ | refine g0 ?_ | refine d0 ?_ | refine j0 (fun hg hgo => ?_) fun hg hgo => ?_ | refine ek_ret ?_ | refine ek_norm ?_ | refine ⟨by omega, ?_⟩ | rfl | trivial | intro _
    have hm2 : l.length - 1 < (l.map stF).length := by rw [List.length_map]; omega
    have hcast : (l.length : Int) - 1 = ((l.length - 1 : Nat) : Int) := by omega
    refine pw_loop (fun m st => ∃ j : Nat, j + m = l.length ∧ (l.take j).all (fun s => stepS s l.length) = true ∧ st = [(0, .fv (stR l)), (3, iv l.length), (4, iv j)]) l.length [(0, .fv (stR l)), (3, iv l.length), (4, iv (0 : Nat))] (sub_of ?_) ⟨0, by omega, rfl, rfl⟩ ?_
    · exact dn
    · rintro m st ⟨j, hj, hb2, rfl⟩
      by_cases hlt : j < l.length
      · have hd : decide ((j : Int) < (l.length : Int)) = true := by rw [decide_eq_true_eq]; omega
        have hml : j < (l.map stF).length := by rw [List.length_map]; exact hlt
        have qs := v_StepOk_spec l[j] l.length
        cases hs : stepS l[j] l.length with
        | false =>
          rw [hs] at qs
          have hq := all_bad (p := fun s => stepS s l.length) hlt hs
          repeat' first | refine ck_intro (by first | exact qs) ?_ ?_ | refine g2 @hd @hq ?_ | refine d2 @hd @hq ?_ | refine j2 @hd @hq (fun hg hgo => ?_) fun hg hgo => ?_ | refine ek_ret ?_ | refine ek_norm ?_ | refine ⟨by omega, ?_⟩ | rfl | trivial | intro _
        | true =>
          rw [hs] at qs
          repeat' first | refine ck_intro (by first | exact qs) ?_ ?_ | refine g1 @hd ?_ | refine d1 @hd ?_ | refine j1 @hd (fun hg hgo => ?_) fun hg hgo => ?_ | refine ek_ret ?_ | refine ek_norm ?_ | refine ⟨by omega, ?_⟩ | rfl | trivial | intro _
          refine rd_norm [(0, .fv (stR l)), (3, iv l.length), (4, iv (j + 1 : Nat))] (sub_of ?_) (m - 1) (by omega) ⟨j + 1, by omega, all_step (p := fun s => stepS s l.length) hb2 hlt hs, rfl⟩
          exact dn
      · have hd : decide ((j : Int) < (l.length : Int)) = false := by rw [decide_eq_false_iff_not]; omega
        have hq := all_end hb2 (by omega)
        repeat' first | refine g3 @hd @hq @hcast ?_ | refine d3 @hd @hq @hcast ?_ | refine j3 @hd @hq @hcast (fun hg hgo => ?_) fun hg hgo => ?_ | refine ek_ret ?_ | refine ek_norm ?_ | refine ⟨by omega, ?_⟩ | rfl | trivial | intro _
        all_goals first | rfl | (simp_all [beqD, ]; done) | ((try simp only []); (repeat' split) <;> first | omega | (simp_all [beqD]; done) | (simp_all [beqD]; omega)) | (simp_all [beqD, ]; (repeat' split) <;> first | rfl | omega | (simp_all; done))
theorem set_nat {s : List Int} {b n : Nat} : (ints s).set b (iv (n : Int)) = ints (s.set b (n : Int)) := ints_set
def pt (f : FnD) (j : Nat) : List StepD := ((codeP f).take j).map (patch (bgs f)) ++ (codeP f).drop j
theorem pt_0 {f : FnD} : pt f 0 = codeP f := by unfold pt; simp
theorem pt_len {f : FnD} {j : Nat} (h : j ≤ (codeP f).length) : (pt f j).length = (codeP f).length := by unfold pt; simp; omega
theorem pt_end {f : FnD} {j : Nat} (h : ¬ j < (codeP f).length) : pt f j = codeE f := by
  unfold pt codeE; rw [List.take_of_length_le (by omega), List.drop_eq_nil_of_le (by omega), List.append_nil]
theorem pt_at {f : FnD} {j : Nat} (h : j < (codeP f).length) (h2 : j < (pt f j).length) : (pt f j)[j] = (codeP f)[j] := by
  have e : (pt f j)[j]? = some (codeP f)[j] := by
    unfold pt
    rw [List.getElem?_append_right (by simp; omega)]
    simp [Nat.min_eq_left (Nat.le_of_lt h)]
  rw [List.getElem?_eq_getElem h2] at e
  injection e
theorem pt_set {f : FnD} {j : Nat} (h : j < (codeP f).length) : (pt f j).set j (patch (bgs f) (codeP f)[j]) = pt f (j + 1) := by
  have h1 : ((codeP f).take j).length = j := by rw [List.length_take]; omega
  unfold pt
  rw [List.set_append_right _ _ (by rw [List.length_map]; omega), List.length_map, h1, Nat.sub_self, List.take_succ_eq_append_getElem h, List.map_append, List.append_assoc, List.drop_eq_getElem_cons h, List.set_cons_zero]
  rfl
theorem pt_same {f : FnD} {j : Nat} (h : j < (codeP f).length) (hn : ¬ ((codeP f)[j].op = 9 ∨ (codeP f)[j].op = 10)) : pt f (j + 1) = pt f j := by
  rw [← pt_set h]
  have h2 : j < (pt f j).length := by rw [pt_len (by omega)]; exact h
  have e : patch (bgs f) (codeP f)[j] = (pt f j)[j] := by rw [pt_at h h2]; unfold patch; rw [if_neg hn]
  rw [e, List.set_getElem_self]
theorem steps_at {l : List StepD} {i : Nat} (h : i < l.length) : (steps l)[i]? = some (.fv (stF l[i])) := by unfold steps; simp [h]
theorem steps_set {l : List StepD} {i : Nat} {s : StepD} : (steps l).set i (.fv (stF s)) = steps (l.set i s) := by unfold steps; rw [List.map_set]
theorem v_Emit_spec (f : FnD) (hf : f.ok) : C2 CC F_spec_Emit [.fv (fnF f)] (.tup [.own 5 (steps (if emitB f = true then codeE f else [])), bv (emitB f)]) [] := by
  have h0 := v_PlainOk_spec f hf
  cases hp : plainB f with
  | false =>
    have he : emitB f = false := by unfold emitB; rw [hp]; rfl
    rw [hp] at h0
    rw [he, if_neg (by decide), steps_nil]
    refine cw (keepF Tryz.f7) Tryz.f7 false ?_
    repeat' first | refine ck_intro (by first | exact h0) ?_ ?_ | refine pd3 33 [0, 1, 0, 0, 12, 28, 63, 127, 0, 511] [0, 1, 0, 0, 0, 1, 0, 1, 3, 5] false ?_ | refine g0 ?_ | refine d0 ?_ | refine j0 (fun hg hgo => ?_) fun hg hgo => ?_ | refine ek_ret ?_ | refine ek_norm ?_ | refine ⟨by omega, ?_⟩ | rfl | trivial | intro _
  | true =>
    rw [hp] at h0
    by_cases hv : f.values ≤ 40
    · have hm := em_of hp hv
      have hvd : decide (f.values > 40) = false := by rw [decide_eq_false_iff_not]; omega
      have ko := v_l3Order f hf hm.shp hm.len
      have hmk : 0 ≤ (f.blocks.length : Int) ∧ (f.blocks.length : Int) < 4294967296 := ⟨by have := hm.len; omega, by have := hm.len; omega⟩
      have hoi := ordN_in hm
      have hol := (ord_ok hm.shp hm.len.1).1
      have hPl := codeP_len hm
      have hL := hm.len
      have hr0 : List.replicate f.blocks.length (DV.fv (.int .i64 0)) = ints (List.replicate f.blocks.length 0) := ints_rep
      have hEl : (codeE f).length = (codeP f).length := by unfold codeE; rw [List.length_map]
      have hM := v_MachineOk_spec (codeE f) (by omega)
      refine cw (keepF Tryz.f7) Tryz.f7 false ?_
      repeat' first | refine ck_intro (by first | exact h0 | exact ko) ?_ ?_ | refine pd3 33 [0, 1, 0, 0, 12, 28, 63, 127, 0, 511] [0, 1, 0, 0, 0, 1, 0, 1, 3, 5] false ?_ | refine g3 @hvd @hmk @hr0 ?_ | refine d3 @hvd @hmk @hr0 ?_ | refine j3 @hvd @hmk @hr0 (fun hg hgo => ?_) fun hg hgo => ?_ | refine ek_ret ?_ | refine ek_norm ?_ | refine ⟨by omega, ?_⟩ | rfl | trivial | intro _
      refine pw_loop (fun m st => ∃ (i : Nat) (o : List StepD) (S : List Int), i + m = (ordL f).length ∧ o ++ ((ordN f).drop i).flatMap (codeAt f) = codeP f ∧ begins f ((ordN f).drop i) S o.length = bgs f ∧ S.length = f.blocks.length ∧ st = [(1, .box (.fv (fnF f))), (4, .own 5 (steps o)), (5, .own 1 (ints (ordL f))), (6, .own 1 (ints S)), (7, iv i)]) (ordL f).length [(1, .box (.fv (fnF f))), (4, .own 5 (steps [])), (5, .own 1 (ints (ordL f))), (6, .own 1 (ints (List.replicate f.blocks.length 0))), (7, iv (0 : Nat))] (sub_of ?_) ⟨0, [], _, by omega, rfl, rfl, by rw [List.length_replicate], rfl⟩ ?_
      · rw [steps_nil]
        exact dn
      · rintro m st ⟨i, o, S, hi, hP, hB, hSl, rfl⟩
        by_cases hlt : i < (ordL f).length
        · have hd : decide ((i : Int) < ((ordL f).length : Int)) = true := by rw [decide_eq_true_eq]; omega
          obtain ⟨b, hb, hbl, hdr⟩ := ord_at hm hlt
          have hg := ints_get hlt
          rw [hb] at hg
          rw [hdr] at hP hB
          rw [List.flatMap_cons, codeAt_at hbl] at hP
          rw [begins, codeAt_at hbl] at hB
          have hml : b < (f.blocks.map blockF).length := by rw [List.length_map]; exact hbl
          have hSb : b < S.length := by omega
          have hSg := ints_at hSb
          have hset : (ints S).set b (iv (o.length : Int)) = ints (S.set b (o.length : Int)) := set_nat
          have hon : o.length ≤ 1584 := by rw [← hP] at hPl; rw [List.length_append] at hPl; omega
          have hblk := hm.blk b hbl
          generalize ordL f = od at *
          repeat' first | refine pd3 33 [0, 1, 0, 0, 12, 28, 63, 127, 0, 511] [0, 1, 0, 0, 0, 1, 0, 1, 3, 5] false ?_ | refine g4 @hd @hg @hSg @hset ?_ | refine d4 @hd @hg @hSg @hset ?_ | refine j4 @hd @hg @hSg @hset (fun hg hgo => ?_) fun hg hgo => ?_ | refine ek_ret ?_ | refine ek_norm ?_ | refine ⟨by omega, ?_⟩ | rfl | trivial | intro _
          generalize hbb : f.blocks[b] = bb at *
          have kt := v_l15Term bb.term hblk.2
          refine pw_loop (fun m st => ∃ k : Nat, k + m = bb.list.length ∧ st = [(1, .box (.fv (fnF f))), (4, .own 5 (steps (o ++ (bb.list.take k).flatMap emitL))), (5, .own 1 (ints od)), (6, .own 1 (ints (S.set b (o.length : Int)))), (7, iv i), (8, .box (.fv (blockF bb))), (9, iv k)]) bb.list.length [(1, .box (.fv (fnF f))), (4, .own 5 (steps (o ++ (bb.list.take 0).flatMap emitL))), (5, .own 1 (ints od)), (6, .own 1 (ints (S.set b (o.length : Int)))), (7, iv i), (8, .box (.fv (blockF bb))), (9, iv (0 : Nat))] (sub_of ?_) ⟨0, by omega, rfl⟩ ?_
          · rw [List.take_zero, List.flatMap_nil, List.append_nil]
            exact dn
          · rintro m1 st ⟨k, hk, rfl⟩
            have hfl := flatE_le (bb.list.take k)
            rw [List.length_take] at hfl
            by_cases hlk : k < bb.list.length
            · have hdk : decide ((k : Int) < (bb.list.length : Int)) = true := by rw [decide_eq_true_eq]; omega
              have hmk2 : k < (bb.list.map stF).length := by rw [List.length_map]; exact hlk
              have ke := v_EmitIns bb.list[k]
              have hel := emitL_len bb.list[k]
              have ha : steps (o ++ (bb.list.take k).flatMap emitL) ++ steps (emitL bb.list[k]) = steps (o ++ (bb.list.take (k + 1)).flatMap emitL) := by
                rw [stepsA, List.take_succ_eq_append_getElem hlk, List.flatMap_append, List.flatMap_cons, List.flatMap_nil, List.append_nil, List.append_assoc]
              have hol2 : (o ++ (bb.list.take k).flatMap emitL).length ≤ 2000 := by rw [List.length_append]; omega
              repeat' first | refine ck_intro (by first | exact ke) ?_ ?_ | refine pd3 33 [0, 1, 0, 0, 12, 28, 63, 127, 0, 511] [0, 1, 0, 0, 0, 1, 0, 1, 3, 5] false ?_ | refine g2 @hdk @ha ?_ | refine d2 @hdk @ha ?_ | refine j2 @hdk @ha (fun hg hgo => ?_) fun hg hgo => ?_ | refine ek_ret ?_ | refine ek_norm ?_ | refine ⟨by omega, ?_⟩ | rfl | trivial | intro _
              refine rd_norm [(1, .box (.fv (fnF f))), (4, .own 5 (steps (o ++ (bb.list.take (k + 1)).flatMap emitL))), (5, .own 1 (ints od)), (6, .own 1 (ints (S.set b (o.length : Int)))), (7, iv i), (8, .box (.fv (blockF bb))), (9, iv (k + 1 : Nat))] (sub_of ?_) (m1 - 1) (by omega) ⟨k + 1, by omega, rfl⟩
              exact dn
            · have hdk : decide ((k : Int) < (bb.list.length : Int)) = false := by rw [decide_eq_false_iff_not]; omega
              rw [List.take_of_length_le (by omega : bb.list.length ≤ k)] at hfl ⊢
              have htl := termL_len bb.term
              have ha : steps (o ++ bb.list.flatMap emitL) ++ steps (termL bb.term) = steps (o ++ blkC bb) := by
                rw [stepsA, blkC, List.append_assoc]
              have hol2 : (o ++ bb.list.flatMap emitL).length ≤ 2000 := by rw [List.length_append]; omega
              repeat' first | refine ck_intro (by first | exact kt) ?_ ?_ | refine pd3 33 [0, 1, 0, 0, 12, 28, 63, 127, 0, 511] [0, 1, 0, 0, 0, 1, 0, 1, 3, 5] false ?_ | refine g2 @hdk @ha ?_ | refine d2 @hdk @ha ?_ | refine j2 @hdk @ha (fun hg hgo => ?_) fun hg hgo => ?_ | refine ek_ret ?_ | refine ek_norm ?_ | refine ⟨by omega, ?_⟩ | rfl | trivial | intro _
              refine rd_norm [(1, .box (.fv (fnF f))), (4, .own 5 (steps (o ++ blkC bb))), (5, .own 1 (ints od)), (6, .own 1 (ints (S.set b (o.length : Int)))), (7, iv (i + 1 : Nat))] (sub_of ?_) (m - 1) (by omega) ⟨i + 1, o ++ blkC bb, S.set b (o.length : Int), by omega, by rw [List.append_assoc]; exact hP, by rw [List.length_append]; exact hB, by rw [List.length_set]; exact hSl, rfl⟩
              exact dn
        · have hd : decide ((i : Int) < ((ordL f).length : Int)) = false := by rw [decide_eq_false_iff_not]; omega
          rw [ord_end hlt, List.flatMap_nil, List.append_nil] at hP
          rw [ord_end hlt, begins] at hB
          subst hP
          subst hB
          repeat' first | refine pd3 33 [0, 1, 0, 0, 12, 28, 63, 127, 0, 511] [0, 1, 0, 0, 0, 1, 0, 1, 3, 5] false ?_ | refine g1 @hd ?_ | refine d1 @hd ?_ | refine j1 @hd (fun hg hgo => ?_) fun hg hgo => ?_ | refine ek_ret ?_ | refine ek_norm ?_ | refine ⟨by omega, ?_⟩ | rfl | trivial | intro _
          refine pw_loop (fun m st => ∃ j : Nat, j + m = (codeP f).length ∧ st = [(4, .own 5 (steps (pt f j))), (6, .own 1 (ints (bgs f))), (10, iv j)]) (codeP f).length [(4, .own 5 (steps (pt f 0))), (6, .own 1 (ints (bgs f))), (10, iv (0 : Nat))] (sub_of ?_) ⟨0, by omega, rfl⟩ ?_
          · rw [pt_0]
            exact dn
          · rintro m2 st ⟨j, hj, rfl⟩
            by_cases hlj : j < (codeP f).length
            · have hln := pt_len (Nat.le_of_lt hlj)
              have hdj : decide ((j : Int) < ((codeP f).length : Int)) = true := by rw [decide_eq_true_eq]; omega
              have hpl : j < (pt f j).length := by omega
              have hat := steps_at hpl
              rw [pt_at hlj hpl] at hat
              have htg := codeP_tgt hm (codeP f)[j] (List.getElem_mem hlj)
              have hps := pt_set hlj
              have hsm := pt_same hlj
              have hst := fun s => @steps_set (pt f j) j s
              have hbl := bgs_len f
              unfold patch at hps
              generalize hx : (codeP f)[j] = x at hat htg hps hsm
              obtain ⟨op, r, a, bq, n⟩ := x
              simp only at hat htg hps hsm
              by_cases h9 : op = 9 ∨ op = 10
              · obtain ⟨t1, t2⟩ := htg h9
                obtain ⟨N, rfl⟩ := Int.eq_ofNat_of_zero_le t1
                have hN : N < (bgs f).length := by omega
                have hNg := ints_at hN
                rw [if_pos h9, Int.toNat_natCast, List.getElem?_eq_getElem hN, Option.getD_some] at hps
                have hst2 := hst ⟨op, r, a, bq, (bgs f)[N]⟩
                rw [hps] at hst2
                rcases h9 with rfl | rfl
                · repeat' first | refine pd3 33 [0, 1, 0, 0, 12, 28, 63, 127, 0, 511] [0, 1, 0, 0, 0, 1, 0, 1, 3, 5] false ?_ | refine g5 @hdj @hln @hat @hNg @hst2 ?_ | refine d5 @hdj @hln @hat @hNg @hst2 ?_ | refine j5 @hdj @hln @hat @hNg @hst2 (fun hg hgo => ?_) fun hg hgo => ?_ | refine ek_ret ?_ | refine ek_norm ?_ | refine ⟨by omega, ?_⟩ | rfl | trivial | intro _
                  refine rd_norm [(4, .own 5 (steps (pt f (j + 1)))), (6, .own 1 (ints (bgs f))), (10, iv (j + 1 : Nat))] (sub_of ?_) (m2 - 1) (by omega) ⟨j + 1, by omega, rfl⟩
                  exact dn
                · repeat' first | refine pd3 33 [0, 1, 0, 0, 12, 28, 63, 127, 0, 511] [0, 1, 0, 0, 0, 1, 0, 1, 3, 5] false ?_ | refine g5 @hdj @hln @hat @hNg @hst2 ?_ | refine d5 @hdj @hln @hat @hNg @hst2 ?_ | refine j5 @hdj @hln @hat @hNg @hst2 (fun hg hgo => ?_) fun hg hgo => ?_ | refine ek_ret ?_ | refine ek_norm ?_ | refine ⟨by omega, ?_⟩ | rfl | trivial | intro _
                  refine rd_norm [(4, .own 5 (steps (pt f (j + 1)))), (6, .own 1 (ints (bgs f))), (10, iv (j + 1 : Nat))] (sub_of ?_) (m2 - 1) (by omega) ⟨j + 1, by omega, rfl⟩
                  exact dn
              · have h9a : (op == 9) = false := by rw [beq_eq_false_iff_ne]; omega
                have h9b : (op == 10) = false := by rw [beq_eq_false_iff_ne]; omega
                repeat' first | refine pd3 33 [0, 1, 0, 0, 12, 28, 63, 127, 0, 511] [0, 1, 0, 0, 0, 1, 0, 1, 3, 5] false ?_ | refine g5 @hdj @hln @hat @h9a @h9b ?_ | refine d5 @hdj @hln @hat @h9a @h9b ?_ | refine j5 @hdj @hln @hat @h9a @h9b (fun hg hgo => ?_) fun hg hgo => ?_ | refine ek_ret ?_ | refine ek_norm ?_ | refine ⟨by omega, ?_⟩ | rfl | trivial | intro _
                refine rd_norm [(4, .own 5 (steps (pt f (j + 1)))), (6, .own 1 (ints (bgs f))), (10, iv (j + 1 : Nat))] (sub_of ?_) (m2 - 1) (by omega) ⟨j + 1, by omega, rfl⟩
                rw [hsm h9]
                exact dn
            · have hln : (pt f j).length = (codeP f).length := pt_len (by omega)
              have hdj : decide ((j : Int) < ((codeP f).length : Int)) = false := by rw [decide_eq_false_iff_not]; omega
              have hpe := pt_end hlj
              rw [hpe] at hln ⊢
              have he : emitB f = machB (codeE f) := by unfold emitB; rw [hp, decide_eq_true hv]; rfl
              rw [he]
              cases hmb : machB (codeE f) with
              | true =>
                rw [hmb] at hM
                rw [if_pos rfl]
                repeat' first | refine ck_intro (by first | exact hM) ?_ ?_ | refine pd3 33 [0, 1, 0, 0, 12, 28, 63, 127, 0, 511] [0, 1, 0, 0, 0, 1, 0, 1, 3, 5] false ?_ | refine g2 @hdj @hln ?_ | refine d2 @hdj @hln ?_ | refine j2 @hdj @hln (fun hg hgo => ?_) fun hg hgo => ?_ | refine ek_ret ?_ | refine ek_norm ?_ | refine ⟨by omega, ?_⟩ | rfl | trivial | intro _
              | false =>
                rw [hmb] at hM
                rw [if_neg (by decide), steps_nil]
                repeat' first | refine ck_intro (by first | exact hM) ?_ ?_ | refine pd3 33 [0, 1, 0, 0, 12, 28, 63, 127, 0, 511] [0, 1, 0, 0, 0, 1, 0, 1, 3, 5] false ?_ | refine g2 @hdj @hln ?_ | refine d2 @hdj @hln ?_ | refine j2 @hdj @hln (fun hg hgo => ?_) fun hg hgo => ?_ | refine ek_ret ?_ | refine ek_norm ?_ | refine ⟨by omega, ?_⟩ | rfl | trivial | intro _
    · have hvd : decide (f.values > 40) = true := by rw [decide_eq_true_eq]; omega
      have he : emitB f = false := by unfold emitB; rw [decide_eq_false hv, Bool.and_false]; rfl
      rw [he, if_neg (by decide), steps_nil]
      refine cw (keepF Tryz.f7) Tryz.f7 false ?_
      repeat' first | refine ck_intro (by first | exact h0) ?_ ?_ | refine pd3 33 [0, 1, 0, 0, 12, 28, 63, 127, 0, 511] [0, 1, 0, 0, 0, 1, 0, 1, 3, 5] false ?_ | refine g1 @hvd ?_ | refine d1 @hvd ?_ | refine j1 @hvd (fun hg hgo => ?_) fun hg hgo => ?_ | refine ek_ret ?_ | refine ek_norm ?_ | refine ⟨by omega, ?_⟩ | rfl | trivial | intro _
theorem v_succs (f : FnD) (b : Nat) (hb : b < f.blocks.length) (hf : f.blocks.length < 1073741824) (h : succL f.blocks[b].term ≠ []) : C2 CC F_impl_succs [.fv (fnF f), iv b] (.own 1 (ints (succL f.blocks[b].term))) [] := by
  have hml : b < (f.blocks.map blockF).length := by rw [List.length_map]; exact hb
  refine cw (keepF Tryz.f133) Tryz.f133 false ?_
  repeat' first | refine g0 ?_ | refine d0 ?_ | refine j0 (fun hg hgo => ?_) fun hg hgo => ?_ | refine ek_ret ?_ | refine ek_norm ?_ | refine ⟨by omega, ?_⟩ | rfl | trivial | intro _
  all_goals (simp_all [succL, ints]; done)
theorem v_succs_none (f : FnD) (b : Nat) (hb : b < f.blocks.length) (hf : f.blocks.length < 1073741824) (h : succL f.blocks[b].term = []) : C2 CC F_impl_succs [.fv (fnF f), iv b] (.fv .nil) [] := by
  have hml : b < (f.blocks.map blockF).length := by rw [List.length_map]; exact hb
  have hk : ¬ f.blocks[b].term.kind = 1 ∧ ¬ f.blocks[b].term.kind = 2 := by
    unfold succL at h
    by_cases h1 : f.blocks[b].term.kind = 1
    · rw [if_pos h1] at h; cases h
    · by_cases h2 : f.blocks[b].term.kind = 2
      · rw [if_neg h1, if_pos h2] at h; split at h <;> cases h
      · exact ⟨h1, h2⟩
  have h2 : (f.blocks[b].term.kind == 1) = false := by simp [hk.1]
  have h3 : (f.blocks[b].term.kind == 2) = false := by simp [hk.2]
  refine cw (keepF Tryz.f133) Tryz.f133 false ?_
  repeat' first | refine g2 @h2 @h3 ?_ | refine d2 @h2 @h3 ?_ | refine j2 @h2 @h3 (fun hg hgo => ?_) fun hg hgo => ?_ | refine ek_ret ?_ | refine ek_norm ?_ | refine ⟨by omega, ?_⟩ | rfl | trivial | intro _
theorem v_walk (f : FnD) (hL : f.blocks.length ≤ 16) (hs : shapeB f = true) : ∀ (n b : Nat) (s : List Bool), b < f.blocks.length → s.length = f.blocks.length → s[b]? = some false → cf s ≤ n → (∀ o : List Int, o.length + cf s ≤ 100 → C2 CC F_impl_walk [.fv (fnF f), iv b, .own 1 (bools s), .own 1 (ints o)] (.own 1 (ints (dfs f n b (s, o)).2)) [.junk 1, .junk 1, .own 1 (bools (dfs f n b (s, o)).1), .junk 1]) ∧ C2 CC F_impl_walk [.fv (fnF f), iv b, .own 1 (bools s), .fv .nil] (.own 1 (ints (dfs f n b (s, [])).2)) [.junk 1, .junk 1, .own 1 (bools (dfs f n b (s, [])).1)] := by
  intro n
  induction n with
  | zero =>
    intro b s hb hsl hsb hc
    have := cf_set hsb
    omega
  | succ n ih =>
    intro b s hb hsl hsb hc
    have hcs := cf_set hsb
    have hcL : cf s ≤ s.length := List.count_le_length
    have hbs : b < s.length := by omega
    have hbg : (bools s)[b]? = some (bv false) := by
      rw [bools_get hbs]; rw [List.getElem?_eq_getElem hbs] at hsb; injection hsb with hsb; rw [hsb]
    have hdk := dk_dfs (suc_inN hs) n
    have h0 : (sucN f b).drop 0 = sucN f b := rfl
    have hKl : (succL f.blocks[b].term).length ≤ 2 := by
      unfold succL; repeat' split
      all_goals simp
    have hsi := suc_in hs b hb
    have hK := fun i => @drop_suc f b i hb
    have hK2 := fun i => @drop_suc_no f b i hb
    refine ⟨fun o ho => ?_, ?_⟩
    · rw [dfs_succ]
      by_cases hKe : succL f.blocks[b].term = []
      · have k := v_succs_none f b hb (by omega) hKe
        have hR : (sucN f b).foldl (nxt f n) (s.set b true, o) = (s.set b true, o) := by rw [sucN_at hb, hKe]; rfl
        have ha : ints o ++ [iv (b : Int)] = ints (o ++ [(b : Int)]) := by unfold ints; simp
        rw [hR]
        refine cw (keepF Tryz.f117) Tryz.f117 false ?_
        repeat' first | refine ck_intro (by first | exact k) ?_ ?_ | refine pw_unroll ?_ | refine g3 @bools_set @hbg @ha ?_ | refine d3 @bools_set @hbg @ha ?_ | refine j3 @bools_set @hbg @ha (fun hg hgo => ?_) fun hg hgo => ?_ | refine ek_ret ?_ | refine ek_norm ?_ | refine ⟨by omega, ?_⟩ | rfl | trivial | intro _
      have k := v_succs f b hb (by omega) hKe
      generalize hR : (sucN f b).foldl (nxt f n) (s.set b true, o) = R
      refine cw (keepF Tryz.f117) Tryz.f117 false ?_
      repeat' first | refine ck_intro (by first | exact k) ?_ ?_ | refine g2 @bools_set @hbg ?_ | refine d2 @bools_set @hbg ?_ | refine j2 @bools_set @hbg (fun hg hgo => ?_) fun hg hgo => ?_ | refine ek_ret ?_ | refine ek_norm ?_ | refine ⟨by omega, ?_⟩ | rfl | trivial | intro _
      generalize succL f.blocks[b].term = K at k hsi hK hK2 hKl hKe ⊢
      refine pw_loop (fun m st => ∃ (i : Nat) (t : List Bool × List Int), i + m = K.length ∧ ((sucN f b).drop i).foldl (nxt f n) t = R ∧ t.1.length = f.blocks.length ∧ cf t.1 ≤ n ∧ t.2.length + cf t.1 ≤ 100 ∧ (st = [(4, .box (.fv (fnF f))), (1, iv b), (2, .hdr (1000002, []) 1 t.1.length), (16, .own 1 (ints K)), (17, iv K.length), (18, iv i), (1000002, .own 1 (bools t.1)), (3, .hdr (1000003, []) 1 t.2.length), (1000003, .own 1 (ints t.2))] ∨ (t.2 = [] ∧ st = [(4, .box (.fv (fnF f))), (1, iv b), (2, .hdr (1000002, []) 1 t.1.length), (16, .own 1 (ints K)), (17, iv K.length), (18, iv i), (1000002, .own 1 (bools t.1)), (3, .fv .nil)]) ∨ st = [(4, .box (.fv (fnF f))), (1, iv b), (2, .hdr (1000002, []) 1 t.1.length), (16, .own 1 (ints K)), (17, iv K.length), (18, iv i), (1000002, .own 1 (bools t.1)), (3, .own 1 (ints t.2))])) K.length [(4, .box (.fv (fnF f))), (1, iv b), (2, .hdr (1000002, []) 1 (s.set b true).length), (16, .own 1 (ints K)), (17, iv K.length), (18, iv (0 : Nat)), (1000002, .own 1 (bools (s.set b true))), (3, .hdr (1000003, []) 1 o.length), (1000003, .own 1 (ints o))] (sub_of ?_) ⟨0, (s.set b true, o), by omega, by rw [h0]; exact hR, by simp only [List.length_set]; exact hsl, by simp only; omega, by simp only [List.length_nil]; omega, .inl rfl⟩ ?_
      · rw [List.length_set]
        exact dn
      · rintro m st ⟨i, ⟨t1, t2⟩, hi, ht, htl, htc, hto, hst⟩
        simp only at ht htl htc hto hst
        by_cases hlt : i < K.length
        · have hd : decide ((i : Int) < (K.length : Int)) = true := by rw [decide_eq_true_eq]; omega
          have hg := ints_get hlt
          have hx := hsi K[i] (List.getElem_mem hlt)
          have hks := hK i hlt
          obtain ⟨c, hcN⟩ := Int.eq_ofNat_of_zero_le hx.1
          rw [hcN, Int.toNat_natCast] at hks
          rw [hcN] at hg hx
          rw [hks, List.foldl_cons] at ht
          have hc1 : c < t1.length := by omega
          have hgb := bools_get hc1
          cases hb1 : t1[c] with
          | true =>
            have hn1 : nxt f n (t1, t2) c = (t1, t2) := by
              unfold nxt; rw [if_pos (by simp only; rw [List.getD_eq_getElem?_getD, List.getElem?_eq_getElem hc1, hb1]; rfl)]
            rw [hn1] at ht
            rw [hb1] at hgb
            rcases hst with rfl | ⟨rfl, rfl⟩ | rfl
            · repeat' first | refine g3 @hd @hg @hgb ?_ | refine d3 @hd @hg @hgb ?_ | refine j3 @hd @hg @hgb (fun hg hgo => ?_) fun hg hgo => ?_ | refine ek_ret ?_ | refine ek_norm ?_ | refine ⟨by omega, ?_⟩ | rfl | trivial | intro _
              refine rd_norm [(4, .box (.fv (fnF f))), (1, iv b), (2, .hdr (1000002, []) 1 t1.length), (16, .own 1 (ints K)), (17, iv K.length), (18, iv (i + 1 : Nat)), (1000002, .own 1 (bools t1)), (3, .hdr (1000003, []) 1 t2.length), (1000003, .own 1 (ints t2))] (sub_of ?_) (m - 1) (by omega) ⟨i + 1, (t1, t2), by omega, ht, htl, htc, hto, .inl rfl⟩
              exact dn
            · repeat' first | refine g3 @hd @hg @hgb ?_ | refine d3 @hd @hg @hgb ?_ | refine j3 @hd @hg @hgb (fun hg hgo => ?_) fun hg hgo => ?_ | refine ek_ret ?_ | refine ek_norm ?_ | refine ⟨by omega, ?_⟩ | rfl | trivial | intro _
              refine rd_norm [(4, .box (.fv (fnF f))), (1, iv b), (2, .hdr (1000002, []) 1 t1.length), (16, .own 1 (ints K)), (17, iv K.length), (18, iv (i + 1 : Nat)), (1000002, .own 1 (bools t1)), (3, .fv .nil)] (sub_of ?_) (m - 1) (by omega) ⟨i + 1, (t1, []), by omega, ht, htl, htc, hto, .inr (.inl ⟨rfl, rfl⟩)⟩
              exact dn
            · repeat' first | refine g3 @hd @hg @hgb ?_ | refine d3 @hd @hg @hgb ?_ | refine j3 @hd @hg @hgb (fun hg hgo => ?_) fun hg hgo => ?_ | refine ek_ret ?_ | refine ek_norm ?_ | refine ⟨by omega, ?_⟩ | rfl | trivial | intro _
              refine rd_norm [(4, .box (.fv (fnF f))), (1, iv b), (2, .hdr (1000002, []) 1 t1.length), (16, .own 1 (ints K)), (17, iv K.length), (18, iv (i + 1 : Nat)), (1000002, .own 1 (bools t1)), (3, .own 1 (ints t2))] (sub_of ?_) (m - 1) (by omega) ⟨i + 1, (t1, t2), by omega, ht, htl, htc, hto, .inr (.inr rfl)⟩
              exact dn
          | false =>
            have hq1 : t1[c]? = some false := by rw [List.getElem?_eq_getElem hc1, hb1]
            have hn1 : nxt f n (t1, t2) c = dfs f n c (t1, t2) := by
              unfold nxt; rw [if_neg (by simp only; rw [List.getD_eq_getElem?_getD, hq1]; simp)]
            have kr := (ih c t1 (by omega) htl hq1 htc).1 t2 hto
            have krn := (ih c t1 (by omega) htl hq1 htc).2
            have hD := hdk c (t1, t2) (by omega) htl hq1
            rw [hn1] at ht
            rw [hb1] at hgb
            have ql1 := hD.len
            have ql2 := hD.cnt
            have ql3 := hD.mono
            simp only at ql1 ql2 ql3
            rcases hst with rfl | ⟨rfl, rfl⟩ | rfl
            · generalize dfs f n c (t1, t2) = t at ht kr krn ql1 ql2 ql3
              obtain ⟨u1, u2⟩ := t
              simp only at ht kr krn ql1 ql2 ql3
              repeat' first | refine ck_intro (by first | exact kr) ?_ ?_ | refine g3 @hd @hg @hgb ?_ | refine d3 @hd @hg @hgb ?_ | refine j3 @hd @hg @hgb (fun hg hgo => ?_) fun hg hgo => ?_ | refine ek_ret ?_ | refine ek_norm ?_ | refine ⟨by omega, ?_⟩ | rfl | trivial | intro _
              refine rd_norm [(4, .box (.fv (fnF f))), (1, iv b), (2, .hdr (1000002, []) 1 u1.length), (16, .own 1 (ints K)), (17, iv K.length), (18, iv (i + 1 : Nat)), (1000002, .own 1 (bools u1)), (3, .own 1 (ints u2))] (sub_of ?_) (m - 1) (by omega) ⟨i + 1, (u1, u2), by omega, ht, by simp only; omega, by simp only; omega, by simp only; omega, .inr (.inr rfl)⟩
              rw [ql1]
              exact dn
            · generalize dfs f n c (t1, []) = t at ht kr krn ql1 ql2 ql3
              obtain ⟨u1, u2⟩ := t
              simp only at ht kr krn ql1 ql2 ql3
              repeat' first | refine ck_intro (by first | exact krn) ?_ ?_ | refine g3 @hd @hg @hgb ?_ | refine d3 @hd @hg @hgb ?_ | refine j3 @hd @hg @hgb (fun hg hgo => ?_) fun hg hgo => ?_ | refine ek_ret ?_ | refine ek_norm ?_ | refine ⟨by omega, ?_⟩ | rfl | trivial | intro _
              refine rd_norm [(4, .box (.fv (fnF f))), (1, iv b), (2, .hdr (1000002, []) 1 u1.length), (16, .own 1 (ints K)), (17, iv K.length), (18, iv (i + 1 : Nat)), (1000002, .own 1 (bools u1)), (3, .own 1 (ints u2))] (sub_of ?_) (m - 1) (by omega) ⟨i + 1, (u1, u2), by omega, ht, by simp only; omega, by simp only; omega, by simp only; omega, .inr (.inr rfl)⟩
              rw [ql1]
              exact dn
            · generalize dfs f n c (t1, t2) = t at ht kr krn ql1 ql2 ql3
              obtain ⟨u1, u2⟩ := t
              simp only at ht kr krn ql1 ql2 ql3
              repeat' first | refine ck_intro (by first | exact kr) ?_ ?_ | refine g3 @hd @hg @hgb ?_ | refine d3 @hd @hg @hgb ?_ | refine j3 @hd @hg @hgb (fun hg hgo => ?_) fun hg hgo => ?_ | refine ek_ret ?_ | refine ek_norm ?_ | refine ⟨by omega, ?_⟩ | rfl | trivial | intro _
              refine rd_norm [(4, .box (.fv (fnF f))), (1, iv b), (2, .hdr (1000002, []) 1 u1.length), (16, .own 1 (ints K)), (17, iv K.length), (18, iv (i + 1 : Nat)), (1000002, .own 1 (bools u1)), (3, .own 1 (ints u2))] (sub_of ?_) (m - 1) (by omega) ⟨i + 1, (u1, u2), by omega, ht, by simp only; omega, by simp only; omega, by simp only; omega, .inr (.inr rfl)⟩
              rw [ql1]
              exact dn
        · have hd : decide ((i : Int) < (K.length : Int)) = false := by rw [decide_eq_false_iff_not]; omega
          rw [hK2 i hlt, List.foldl_nil] at ht
          subst ht
          have ha : ints t2 ++ [iv (b : Int)] = ints (t2 ++ [(b : Int)]) := by unfold ints; simp
          rcases hst with rfl | ⟨rfl, rfl⟩ | rfl
          · repeat' first | refine g2 @hd @ha ?_ | refine d2 @hd @ha ?_ | refine j2 @hd @ha (fun hg hgo => ?_) fun hg hgo => ?_ | refine ek_ret ?_ | refine ek_norm ?_ | refine ⟨by omega, ?_⟩ | rfl | trivial | intro _
          · rw [show ints ([] ++ [(b : Int)]) = [iv (b : Int)] from rfl]
            repeat' first | refine g1 @hd ?_ | refine d1 @hd ?_ | refine j1 @hd (fun hg hgo => ?_) fun hg hgo => ?_ | refine ek_ret ?_ | refine ek_norm ?_ | refine ⟨by omega, ?_⟩ | rfl | trivial | intro _
          · repeat' first | refine g2 @hd @ha ?_ | refine d2 @hd @ha ?_ | refine j2 @hd @ha (fun hg hgo => ?_) fun hg hgo => ?_ | refine ek_ret ?_ | refine ek_norm ?_ | refine ⟨by omega, ?_⟩ | rfl | trivial | intro _
    · rw [dfs_succ]
      by_cases hKe : succL f.blocks[b].term = []
      · have k := v_succs_none f b hb (by omega) hKe
        have hR : (sucN f b).foldl (nxt f n) (s.set b true, []) = (s.set b true, []) := by rw [sucN_at hb, hKe]; rfl
        have ha : [iv (b : Int)] = ints ([] ++ [(b : Int)]) := by unfold ints; simp
        rw [hR]
        simp only
        rw [show ints ([] ++ [(b : Int)]) = [iv (b : Int)] from rfl]
        refine cw (keepF Tryz.f117) Tryz.f117 false ?_
        repeat' first | refine ck_intro (by first | exact k) ?_ ?_ | refine pw_unroll ?_ | refine g2 @bools_set @hbg ?_ | refine d2 @bools_set @hbg ?_ | refine j2 @bools_set @hbg (fun hg hgo => ?_) fun hg hgo => ?_ | refine ek_ret ?_ | refine ek_norm ?_ | refine ⟨by omega, ?_⟩ | rfl | trivial | intro _
      have k := v_succs f b hb (by omega) hKe
      generalize hR : (sucN f b).foldl (nxt f n) (s.set b true, []) = R
      refine cw (keepF Tryz.f117) Tryz.f117 false ?_
      repeat' first | refine ck_intro (by first | exact k) ?_ ?_ | refine g2 @bools_set @hbg ?_ | refine d2 @bools_set @hbg ?_ | refine j2 @bools_set @hbg (fun hg hgo => ?_) fun hg hgo => ?_ | refine ek_ret ?_ | refine ek_norm ?_ | refine ⟨by omega, ?_⟩ | rfl | trivial | intro _
      generalize succL f.blocks[b].term = K at k hsi hK hK2 hKl hKe ⊢
      refine pw_loop (fun m st => ∃ (i : Nat) (t : List Bool × List Int), i + m = K.length ∧ ((sucN f b).drop i).foldl (nxt f n) t = R ∧ t.1.length = f.blocks.length ∧ cf t.1 ≤ n ∧ t.2.length + cf t.1 ≤ 100 ∧ (st = [(4, .box (.fv (fnF f))), (1, iv b), (2, .hdr (1000002, []) 1 t.1.length), (16, .own 1 (ints K)), (17, iv K.length), (18, iv i), (1000002, .own 1 (bools t.1)), (3, .hdr (1000003, []) 1 t.2.length), (1000003, .own 1 (ints t.2))] ∨ (t.2 = [] ∧ st = [(4, .box (.fv (fnF f))), (1, iv b), (2, .hdr (1000002, []) 1 t.1.length), (16, .own 1 (ints K)), (17, iv K.length), (18, iv i), (1000002, .own 1 (bools t.1)), (3, .fv .nil)]) ∨ st = [(4, .box (.fv (fnF f))), (1, iv b), (2, .hdr (1000002, []) 1 t.1.length), (16, .own 1 (ints K)), (17, iv K.length), (18, iv i), (1000002, .own 1 (bools t.1)), (3, .own 1 (ints t.2))])) K.length [(4, .box (.fv (fnF f))), (1, iv b), (2, .hdr (1000002, []) 1 (s.set b true).length), (16, .own 1 (ints K)), (17, iv K.length), (18, iv (0 : Nat)), (1000002, .own 1 (bools (s.set b true))), (3, .fv .nil)] (sub_of ?_) ⟨0, (s.set b true, []), by omega, by rw [h0]; exact hR, by simp only [List.length_set]; exact hsl, by simp only; omega, by simp only [List.length_nil]; omega, .inr (.inl ⟨rfl, rfl⟩)⟩ ?_
      · rw [List.length_set]
        exact dn
      · rintro m st ⟨i, ⟨t1, t2⟩, hi, ht, htl, htc, hto, hst⟩
        simp only at ht htl htc hto hst
        by_cases hlt : i < K.length
        · have hd : decide ((i : Int) < (K.length : Int)) = true := by rw [decide_eq_true_eq]; omega
          have hg := ints_get hlt
          have hx := hsi K[i] (List.getElem_mem hlt)
          have hks := hK i hlt
          obtain ⟨c, hcN⟩ := Int.eq_ofNat_of_zero_le hx.1
          rw [hcN, Int.toNat_natCast] at hks
          rw [hcN] at hg hx
          rw [hks, List.foldl_cons] at ht
          have hc1 : c < t1.length := by omega
          have hgb := bools_get hc1
          cases hb1 : t1[c] with
          | true =>
            have hn1 : nxt f n (t1, t2) c = (t1, t2) := by
              unfold nxt; rw [if_pos (by simp only; rw [List.getD_eq_getElem?_getD, List.getElem?_eq_getElem hc1, hb1]; rfl)]
            rw [hn1] at ht
            rw [hb1] at hgb
            rcases hst with rfl | ⟨rfl, rfl⟩ | rfl
            · repeat' first | refine g3 @hd @hg @hgb ?_ | refine d3 @hd @hg @hgb ?_ | refine j3 @hd @hg @hgb (fun hg hgo => ?_) fun hg hgo => ?_ | refine ek_ret ?_ | refine ek_norm ?_ | refine ⟨by omega, ?_⟩ | rfl | trivial | intro _
              refine rd_norm [(4, .box (.fv (fnF f))), (1, iv b), (2, .hdr (1000002, []) 1 t1.length), (16, .own 1 (ints K)), (17, iv K.length), (18, iv (i + 1 : Nat)), (1000002, .own 1 (bools t1)), (3, .hdr (1000003, []) 1 t2.length), (1000003, .own 1 (ints t2))] (sub_of ?_) (m - 1) (by omega) ⟨i + 1, (t1, t2), by omega, ht, htl, htc, hto, .inl rfl⟩
              exact dn
            · repeat' first | refine g3 @hd @hg @hgb ?_ | refine d3 @hd @hg @hgb ?_ | refine j3 @hd @hg @hgb (fun hg hgo => ?_) fun hg hgo => ?_ | refine ek_ret ?_ | refine ek_norm ?_ | refine ⟨by omega, ?_⟩ | rfl | trivial | intro _
              refine rd_norm [(4, .box (.fv (fnF f))), (1, iv b), (2, .hdr (1000002, []) 1 t1.length), (16, .own 1 (ints K)), (17, iv K.length), (18, iv (i + 1 : Nat)), (1000002, .own 1 (bools t1)), (3, .fv .nil)] (sub_of ?_) (m - 1) (by omega) ⟨i + 1, (t1, []), by omega, ht, htl, htc, hto, .inr (.inl ⟨rfl, rfl⟩)⟩
              exact dn
            · repeat' first | refine g3 @hd @hg @hgb ?_ | refine d3 @hd @hg @hgb ?_ | refine j3 @hd @hg @hgb (fun hg hgo => ?_) fun hg hgo => ?_ | refine ek_ret ?_ | refine ek_norm ?_ | refine ⟨by omega, ?_⟩ | rfl | trivial | intro _
              refine rd_norm [(4, .box (.fv (fnF f))), (1, iv b), (2, .hdr (1000002, []) 1 t1.length), (16, .own 1 (ints K)), (17, iv K.length), (18, iv (i + 1 : Nat)), (1000002, .own 1 (bools t1)), (3, .own 1 (ints t2))] (sub_of ?_) (m - 1) (by omega) ⟨i + 1, (t1, t2), by omega, ht, htl, htc, hto, .inr (.inr rfl)⟩
              exact dn
          | false =>
            have hq1 : t1[c]? = some false := by rw [List.getElem?_eq_getElem hc1, hb1]
            have hn1 : nxt f n (t1, t2) c = dfs f n c (t1, t2) := by
              unfold nxt; rw [if_neg (by simp only; rw [List.getD_eq_getElem?_getD, hq1]; simp)]
            have kr := (ih c t1 (by omega) htl hq1 htc).1 t2 hto
            have krn := (ih c t1 (by omega) htl hq1 htc).2
            have hD := hdk c (t1, t2) (by omega) htl hq1
            rw [hn1] at ht
            rw [hb1] at hgb
            have ql1 := hD.len
            have ql2 := hD.cnt
            have ql3 := hD.mono
            simp only at ql1 ql2 ql3
            rcases hst with rfl | ⟨rfl, rfl⟩ | rfl
            · generalize dfs f n c (t1, t2) = t at ht kr krn ql1 ql2 ql3
              obtain ⟨u1, u2⟩ := t
              simp only at ht kr krn ql1 ql2 ql3
              repeat' first | refine ck_intro (by first | exact kr) ?_ ?_ | refine g3 @hd @hg @hgb ?_ | refine d3 @hd @hg @hgb ?_ | refine j3 @hd @hg @hgb (fun hg hgo => ?_) fun hg hgo => ?_ | refine ek_ret ?_ | refine ek_norm ?_ | refine ⟨by omega, ?_⟩ | rfl | trivial | intro _
              refine rd_norm [(4, .box (.fv (fnF f))), (1, iv b), (2, .hdr (1000002, []) 1 u1.length), (16, .own 1 (ints K)), (17, iv K.length), (18, iv (i + 1 : Nat)), (1000002, .own 1 (bools u1)), (3, .own 1 (ints u2))] (sub_of ?_) (m - 1) (by omega) ⟨i + 1, (u1, u2), by omega, ht, by simp only; omega, by simp only; omega, by simp only; omega, .inr (.inr rfl)⟩
              rw [ql1]
              exact dn
            · generalize dfs f n c (t1, []) = t at ht kr krn ql1 ql2 ql3
              obtain ⟨u1, u2⟩ := t
              simp only at ht kr krn ql1 ql2 ql3
              repeat' first | refine ck_intro (by first | exact krn) ?_ ?_ | refine g3 @hd @hg @hgb ?_ | refine d3 @hd @hg @hgb ?_ | refine j3 @hd @hg @hgb (fun hg hgo => ?_) fun hg hgo => ?_ | refine ek_ret ?_ | refine ek_norm ?_ | refine ⟨by omega, ?_⟩ | rfl | trivial | intro _
              refine rd_norm [(4, .box (.fv (fnF f))), (1, iv b), (2, .hdr (1000002, []) 1 u1.length), (16, .own 1 (ints K)), (17, iv K.length), (18, iv (i + 1 : Nat)), (1000002, .own 1 (bools u1)), (3, .own 1 (ints u2))] (sub_of ?_) (m - 1) (by omega) ⟨i + 1, (u1, u2), by omega, ht, by simp only; omega, by simp only; omega, by simp only; omega, .inr (.inr rfl)⟩
              rw [ql1]
              exact dn
            · generalize dfs f n c (t1, t2) = t at ht kr krn ql1 ql2 ql3
              obtain ⟨u1, u2⟩ := t
              simp only at ht kr krn ql1 ql2 ql3
              repeat' first | refine ck_intro (by first | exact kr) ?_ ?_ | refine g3 @hd @hg @hgb ?_ | refine d3 @hd @hg @hgb ?_ | refine j3 @hd @hg @hgb (fun hg hgo => ?_) fun hg hgo => ?_ | refine ek_ret ?_ | refine ek_norm ?_ | refine ⟨by omega, ?_⟩ | rfl | trivial | intro _
              refine rd_norm [(4, .box (.fv (fnF f))), (1, iv b), (2, .hdr (1000002, []) 1 u1.length), (16, .own 1 (ints K)), (17, iv K.length), (18, iv (i + 1 : Nat)), (1000002, .own 1 (bools u1)), (3, .own 1 (ints u2))] (sub_of ?_) (m - 1) (by omega) ⟨i + 1, (u1, u2), by omega, ht, by simp only; omega, by simp only; omega, by simp only; omega, .inr (.inr rfl)⟩
              rw [ql1]
              exact dn
        · have hd : decide ((i : Int) < (K.length : Int)) = false := by rw [decide_eq_false_iff_not]; omega
          rw [hK2 i hlt, List.foldl_nil] at ht
          subst ht
          have ha : ints t2 ++ [iv (b : Int)] = ints (t2 ++ [(b : Int)]) := by unfold ints; simp
          rcases hst with rfl | ⟨rfl, rfl⟩ | rfl
          · repeat' first | refine g2 @hd @ha ?_ | refine d2 @hd @ha ?_ | refine j2 @hd @ha (fun hg hgo => ?_) fun hg hgo => ?_ | refine ek_ret ?_ | refine ek_norm ?_ | refine ⟨by omega, ?_⟩ | rfl | trivial | intro _
          · rw [show ints ([] ++ [(b : Int)]) = [iv (b : Int)] from rfl]
            repeat' first | refine g1 @hd ?_ | refine d1 @hd ?_ | refine j1 @hd (fun hg hgo => ?_) fun hg hgo => ?_ | refine ek_ret ?_ | refine ek_norm ?_ | refine ⟨by omega, ?_⟩ | rfl | trivial | intro _
          · repeat' first | refine g2 @hd @ha ?_ | refine d2 @hd @ha ?_ | refine j2 @hd @ha (fun hg hgo => ?_) fun hg hgo => ?_ | refine ek_ret ?_ | refine ek_norm ?_ | refine ⟨by omega, ?_⟩ | rfl | trivial | intro _
def swL (l : List Int) (i : Nat) : List Int := (List.range l.length).map fun k => if k < i ∨ l.length ≤ k + i then l.getD (l.length - 1 - k) 0 else l.getD k 0
theorem swL_len {l : List Int} {i : Nat} : (swL l i).length = l.length := by unfold swL; simp
theorem swL_get {l : List Int} {i k : Nat} (h : k < (swL l i).length) : (swL l i)[k] = if k < i ∨ l.length ≤ k + i then l.getD (l.length - 1 - k) 0 else l.getD k 0 := by unfold swL; simp
theorem getD_at {l : List Int} {k : Nat} (h : k < l.length) : l.getD k 0 = l[k] := by rw [List.getD_eq_getElem?_getD, List.getElem?_eq_getElem h]; rfl
theorem swL_0 {l : List Int} : swL l 0 = l := by
  refine List.ext_getElem swL_len fun k h1 h2 => ?_
  rw [swL_get h1, if_neg (by omega), getD_at h2]
theorem swL_all {l : List Int} {i : Nat} (h : l.length ≤ 2 * i + 1) (h2 : 2 * i ≤ l.length + 1) : swL l i = l.reverse := by
  refine List.ext_getElem (by rw [swL_len, List.length_reverse]) fun k h1 h3 => ?_
  rw [swL_len] at h1
  rw [swL_get (by rw [swL_len]; exact h1), List.getElem_reverse]
  split
  · rw [getD_at (by omega)]
  · have : l.length - 1 - k = k := by omega
    rw [getD_at h1]; simp only [this]
theorem swL_step {l : List Int} {i j : Nat} (hij : i + j + 1 = l.length) (hlt : i < j) (hi : i < (swL l i).length) (hj : j < (swL l i).length) : ((swL l i).set i (swL l i)[j]).set j (swL l i)[i] = swL l (i + 1) := by
  refine List.ext_getElem (by rw [List.length_set, List.length_set, swL_len, swL_len]) fun k h1 h2 => ?_
  rw [swL_len] at h2
  rw [List.getElem_set, List.getElem_set]
  simp only [swL_get]
  by_cases hjk : j = k
  · subst hjk
    rw [if_pos rfl, if_neg (by omega), if_pos (by omega), show l.length - 1 - j = i by omega]
  · rw [if_neg hjk]
    by_cases hik : i = k
    · subst hik
      rw [if_pos rfl, if_neg (by omega), if_pos (by omega), show l.length - 1 - i = j by omega]
    · rw [if_neg hik]
      by_cases h : k < i ∨ l.length ≤ k + i
      · rw [if_pos h, if_pos (by omega)]
      · rw [if_neg h, if_neg (by omega)]
theorem v_Reverse (l : List Int) (hl : l.length ≤ 1000000) : C2 CC F_slices_Reverse_int [.own 1 (ints l)] (.tup []) [.own 1 (ints l.reverse)] := by
  refine cw (keepF Tryz.f118) Tryz.f118 false ?_
  repeat' first | refine pd3 14 [0, 0, 0, 0, 0, 0, 48, 112, 0, 0, 768, 1792, 4083, 8179, 16383, 32767] [0, 0, 0, 0, 0, 0, 0, 1, 0, 0, 0, 1, 0, 5, 0, 5] false ?_ | refine g0 ?_ | refine d0 ?_ | refine j0 (fun hg hgo => ?_) fun hg hgo => ?_ | refine ek_ret ?_ | refine ek_norm ?_ | refine ⟨by omega, ?_⟩ | rfl | trivial | intro _
  refine pw_loop (fun m st => ∃ i : Nat, i + m = l.length ∧ 2 * i ≤ l.length + 1 ∧ st = [(0, .hdr (1000000, []) 1 l.length), (2, iv i), (3, iv ((l.length : Int) - 1 - i)), (1000000, .own 1 (ints (swL l i)))]) l.length [(0, .hdr (1000000, []) 1 l.length), (2, iv (0 : Nat)), (3, iv ((l.length : Int) - 1 - (0 : Nat))), (1000000, .own 1 (ints (swL l 0)))] (sub_of ?_) ⟨0, by omega, by omega, rfl⟩ ?_
  · rw [swL_0, show (l.length : Int) - 1 - ((0 : Nat) : Int) = (l.length : Int) - 1 by omega]
    exact dn
  · rintro m st ⟨i, hi, hi2, rfl⟩
    by_cases hlt : 2 * i + 1 < l.length
    · obtain ⟨j, hj⟩ : ∃ j : Nat, i + j + 1 = l.length := ⟨l.length - 1 - i, by omega⟩
      have he : (l.length : Int) - 1 - (i : Int) = (j : Int) := by omega
      have he2 : (l.length : Int) - 1 - ((i + 1 : Nat) : Int) = (j : Int) - 1 := by omega
      have hd : decide ((i : Int) < (j : Int)) = true := by rw [decide_eq_true_eq]; omega
      have hi3 : i < (swL l i).length := by rw [swL_len]; omega
      have hj3 : j < (swL l i).length := by rw [swL_len]; omega
      have hst := swL_step hj (by omega) hi3 hj3
      have hgi := ints_at hi3
      have hgj := ints_at hj3
      have hsl := @swL_len l i
      generalize swL l i = L at hi3 hj3 hst hgi hgj hsl
      have hgi2 : ∀ y : Int, (ints (L.set i y))[j]? = some (iv L[j]) := fun y => by
        rw [ints_at (by rw [List.length_set]; exact hj3), List.getElem_set_ne (by omega)]
      have hs1 : ∀ y : Int, (ints L).set i (.fv (.int .i64 y)) = ints (L.set i y) := fun y => ints_set
      have hs2 : ∀ y z : Int, (ints (L.set i y)).set j (.fv (.int .i64 z)) = ints ((L.set i y).set j z) := fun y z => ints_set
      rw [he]
      repeat' first | refine pd3 14 [0, 0, 0, 0, 0, 0, 48, 112, 0, 0, 768, 1792, 4083, 8179, 16383, 32767] [0, 0, 0, 0, 0, 0, 0, 1, 0, 0, 0, 1, 0, 5, 0, 5] false ?_ | refine g9 @hd @hgi @hgj @hgi2 @hs1 @hs2 @hst @List.length_set.{0} @hsl ?_ | refine d9 @hd @hgi @hgj @hgi2 @hs1 @hs2 @hst @List.length_set.{0} @hsl ?_ | refine j9 @hd @hgi @hgj @hgi2 @hs1 @hs2 @hst @List.length_set.{0} @hsl (fun hg hgo => ?_) fun hg hgo => ?_ | refine ek_ret ?_ | refine ek_norm ?_ | refine ⟨by omega, ?_⟩ | rfl | trivial | intro _
      refine rd_norm [(0, .hdr (1000000, []) 1 l.length), (2, iv (i + 1 : Nat)), (3, iv ((l.length : Int) - 1 - (i + 1 : Nat))), (1000000, .own 1 (ints (swL l (i + 1))))] (sub_of ?_) (m - 1) (by omega) ⟨i + 1, by omega, by omega, rfl⟩
      rw [he2]
      exact dn
    · have hd : decide ((i : Int) < (l.length : Int) - 1 - (i : Int)) = false := by rw [decide_eq_false_iff_not]; omega
      rw [swL_all (by omega) hi2]
      repeat' first | refine g1 @hd ?_ | refine d1 @hd ?_ | refine j1 @hd (fun hg hgo => ?_) fun hg hgo => ?_ | refine ek_ret ?_ | refine ek_norm ?_ | refine ⟨by omega, ?_⟩ | rfl | trivial | intro _
theorem v_order (f : FnD) (hf : f.ok) (hs : shapeB f = true) (hL : 0 < f.blocks.length ∧ f.blocks.length ≤ 16) : C2 CC F_impl_order [.fv (fnF f)] (.tup [.own 1 (ints (ordL f)), .own 1 (bools (dfs f f.blocks.length 0 (List.replicate f.blocks.length false, [])).1)]) [] := by
  have hmk : 0 ≤ (f.blocks.length : Int) ∧ (f.blocks.length : Int) < 4294967296 := ⟨by omega, by omega⟩
  have hc := cf_rep f.blocks.length
  have k := (v_walk f hL.2 hs f.blocks.length 0 (List.replicate f.blocks.length false) hL.1 (by simp) (by simp [hL.1]) (by omega)).2
  have hlen := (ord_ok hs hL.1).1
  unfold ordL at *
  rw [← bools_rep] at k
  rw [List.length_reverse] at hlen
  generalize dfs f f.blocks.length 0 (List.replicate f.blocks.length false, []) = r at k hlen ⊢
  obtain ⟨r1, l⟩ := r
  simp only at k hlen ⊢
  have kr := v_Reverse l (by omega)
  refine cw (keepF Tryz.f73) Tryz.f73 false ?_
  repeat' first | refine ck_intro (by first | exact k | exact kr) ?_ ?_ | refine g1 @hmk ?_ | refine d1 @hmk ?_ | refine j1 @hmk (fun hg hgo => ?_) fun hg hgo => ?_ | refine ek_ret ?_ | refine ek_norm ?_ | refine ⟨by omega, ?_⟩ | rfl | trivial | intro _
theorem v_Order (f : FnD) (hf : f.ok) (hs : shapeB f = true) (hL : 0 < f.blocks.length ∧ f.blocks.length ≤ 16) : C2 CC F_impl_Order [.fv (fnF f)] (.own 1 (ints (ordL f))) [] := by
  have h1 := v_ShapeOk f hf
  rw [hs] at h1
  have k := v_order f hf hs hL
  refine cw (keepF Tryz.f32) Tryz.f32 false ?_
  repeat' first | refine ck_intro (by first | exact h1 | exact k) ?_ ?_ | refine g0 ?_ | refine d0 ?_ | refine j0 (fun hg hgo => ?_) fun hg hgo => ?_ | refine ek_ret ?_ | refine ek_norm ?_ | refine ⟨by omega, ?_⟩ | rfl | trivial | intro _
theorem v_jumps (s : StepD) : C2 CC F_impl_jumps [sF s] (bv (s.op == 9 || s.op == 10)) [] := by
  obtain ⟨op, r, a, b, n⟩ := s
  refine cw (keepF Tryz.f35) Tryz.f35 false ?_
  repeat' first | refine g0 ?_ | refine d0 ?_ | refine j0 (fun hg hgo => ?_) fun hg hgo => ?_ | refine ek_ret ?_ | refine ek_norm ?_ | refine ⟨by omega, ?_⟩ | rfl | trivial | intro _
  all_goals simp_all
theorem v_Emit (f : FnD) (hf : f.ok) : C2 CC F_impl_Emit [.fv (fnF f)] (.tup [if emitB f = true then .own 5 (steps (codeE f)) else .fv .nil, bv (emitB f)]) [] := by
  have h0 := v_PlainOk f hf
  cases hp : plainB f with
  | false =>
    have he : emitB f = false := by unfold emitB; rw [hp]; rfl
    rw [hp] at h0
    rw [he, if_neg (by decide)]
    refine cw (keepF Tryz.f9) Tryz.f9 false ?_
    repeat' first | refine ck_intro (by first | exact h0) ?_ ?_ | refine g0 ?_ | refine d0 ?_ | refine j0 (fun hg hgo => ?_) fun hg hgo => ?_ | refine ek_ret ?_ | refine ek_norm ?_ | refine ⟨by omega, ?_⟩ | rfl | trivial | intro _
  | true =>
    rw [hp] at h0
    by_cases hv : f.values ≤ 40
    · have hm := em_of hp hv
      have hvd : decide (f.values > 40) = false := by rw [decide_eq_false_iff_not]; omega
      have ko := v_Order f hf hm.shp hm.len
      have hmk : 0 ≤ (f.blocks.length : Int) ∧ (f.blocks.length : Int) < 4294967296 := ⟨by have := hm.len; omega, by have := hm.len; omega⟩
      have hoi := ordN_in hm
      have hol := (ord_ok hm.shp hm.len.1).1
      have hPl := codeP_len hm
      have hL := hm.len
      have hr0 : List.replicate f.blocks.length (DV.fv (.int .i64 0)) = ints (List.replicate f.blocks.length 0) := ints_rep
      have hEl : (codeE f).length = (codeP f).length := by unfold codeE; rw [List.length_map]
      have hM := v_MachineOk (codeE f) (codeE_op hm) (by omega)
      refine cw (keepF Tryz.f9) Tryz.f9 false ?_
      repeat' first | refine ck_intro (by first | exact h0 | exact ko) ?_ ?_ | refine g3 @hvd @hmk @hr0 ?_ | refine d3 @hvd @hmk @hr0 ?_ | refine j3 @hvd @hmk @hr0 (fun hg hgo => ?_) fun hg hgo => ?_ | refine ek_ret ?_ | refine ek_norm ?_ | refine ⟨by omega, ?_⟩ | rfl | trivial | intro _
      refine pw_loop (fun m st => ∃ (i : Nat) (o : List StepD) (S : List Int), i + m = (ordL f).length ∧ o ++ ((ordN f).drop i).flatMap (codeAt f) = codeP f ∧ begins f ((ordN f).drop i) S o.length = bgs f ∧ S.length = f.blocks.length ∧ st = [(1, .box (.fv (fnF f))), (4, .own 5 (steps o)), (26, .own 1 (ints (ordL f))), (27, iv (ordL f).length), (5, .own 1 (ints S)), (28, iv i)]) (ordL f).length [(1, .box (.fv (fnF f))), (4, .own 5 (steps [])), (26, .own 1 (ints (ordL f))), (27, iv (ordL f).length), (5, .own 1 (ints (List.replicate f.blocks.length 0))), (28, iv (0 : Nat))] (sub_of ?_) ⟨0, [], _, by omega, rfl, rfl, by rw [List.length_replicate], rfl⟩ ?_
      · rw [steps_nil]
        exact dn
      · rintro m st ⟨i, o, S, hi, hP, hB, hSl, rfl⟩
        by_cases hlt : i < (ordL f).length
        · have hd : decide ((i : Int) < ((ordL f).length : Int)) = true := by rw [decide_eq_true_eq]; omega
          obtain ⟨b, hb, hbl, hdr⟩ := ord_at hm hlt
          have hg := ints_get hlt
          rw [hb] at hg
          rw [hdr] at hP hB
          rw [List.flatMap_cons, codeAt_at hbl] at hP
          rw [begins, codeAt_at hbl] at hB
          have hml : b < (f.blocks.map blockF).length := by rw [List.length_map]; exact hbl
          have hSb : b < S.length := by omega
          have hSg := ints_at hSb
          have hset : (ints S).set b (iv (o.length : Int)) = ints (S.set b (o.length : Int)) := set_nat
          have hon : o.length ≤ 1584 := by rw [← hP] at hPl; rw [List.length_append] at hPl; omega
          have hblk := hm.blk b hbl
          generalize ordL f = od at *
          repeat' first | refine g4 @hd @hg @hSg @hset ?_ | refine d4 @hd @hg @hSg @hset ?_ | refine j4 @hd @hg @hSg @hset (fun hg hgo => ?_) fun hg hgo => ?_ | refine ek_ret ?_ | refine ek_norm ?_ | refine ⟨by omega, ?_⟩ | rfl | trivial | intro _
          have kt := v_emitTerm f.blocks[b].term hblk.2
          refine pw_loop (fun m st => ∃ k : Nat, k + m = f.blocks[b].list.length ∧ st = [(1, .box (.fv (fnF f))), (4, .own 5 (steps (o ++ (f.blocks[b].list.take k).flatMap emitL))), (26, .own 1 (ints od)), (27, iv od.length), (5, .own 1 (ints (S.set b (o.length : Int)))), (28, iv i), (7, iv b), (42, .fv (.row 5 (f.blocks[b].list.map stF))), (43, iv f.blocks[b].list.length), (44, iv k)]) f.blocks[b].list.length [(1, .box (.fv (fnF f))), (4, .own 5 (steps (o ++ (f.blocks[b].list.take 0).flatMap emitL))), (26, .own 1 (ints od)), (27, iv od.length), (5, .own 1 (ints (S.set b (o.length : Int)))), (28, iv i), (7, iv b), (42, .fv (.row 5 (f.blocks[b].list.map stF))), (43, iv f.blocks[b].list.length), (44, iv (0 : Nat))] (sub_of ?_) ⟨0, by omega, rfl⟩ ?_
          · rw [List.take_zero, List.flatMap_nil, List.append_nil]
            exact dn
          · rintro m1 st ⟨k, hk, rfl⟩
            have hfl := flatE_le (f.blocks[b].list.take k)
            rw [List.length_take] at hfl
            by_cases hlk : k < f.blocks[b].list.length
            · have hdk : decide ((k : Int) < (f.blocks[b].list.length : Int)) = true := by rw [decide_eq_true_eq]; omega
              have hmk2 : k < (f.blocks[b].list.map stF).length := by rw [List.length_map]; exact hlk
              have ke := i_EmitIns f.blocks[b].list[k]
              have hel := emitL_len f.blocks[b].list[k]
              have he1 : (f.blocks[b].list.take (k + 1)).flatMap emitL = (f.blocks[b].list.take k).flatMap emitL ++ emitL f.blocks[b].list[k] := by
                rw [List.take_succ_eq_append_getElem hlk, List.flatMap_append, List.flatMap_cons, List.flatMap_nil, List.append_nil]
              have hol2 : (o ++ (f.blocks[b].list.take k).flatMap emitL).length ≤ 2000 := by rw [List.length_append]; omega
              cases hj : homedJ f.blocks[b].list[k] with
              | true =>
                have ha : steps (o ++ (f.blocks[b].list.take k).flatMap emitL) ++ steps (emitL f.blocks[b].list[k]) = steps (o ++ (f.blocks[b].list.take (k + 1)).flatMap emitL) := by
                  rw [stepsA, he1, List.append_assoc]
                rw [hj, if_pos rfl] at ke
                repeat' first | refine ck_intro (by first | exact ke) ?_ ?_ | refine g2 @hdk @ha ?_ | refine d2 @hdk @ha ?_ | refine j2 @hdk @ha (fun hg hgo => ?_) fun hg hgo => ?_ | refine ek_ret ?_ | refine ek_norm ?_ | refine ⟨by omega, ?_⟩ | rfl | trivial | intro _
                refine rd_norm [(1, .box (.fv (fnF f))), (4, .own 5 (steps (o ++ (f.blocks[b].list.take (k + 1)).flatMap emitL))), (26, .own 1 (ints od)), (27, iv od.length), (5, .own 1 (ints (S.set b (o.length : Int)))), (28, iv i), (7, iv b), (42, .fv (.row 5 (f.blocks[b].list.map stF))), (43, iv f.blocks[b].list.length), (44, iv (k + 1 : Nat))] (sub_of ?_) (m1 - 1) (by omega) ⟨k + 1, by omega, rfl⟩
                exact dn
              | false =>
                rw [hj, if_neg (by decide)] at ke
                have he0 := emitL_none _ hj
                have ha : o ++ (f.blocks[b].list.take (k + 1)).flatMap emitL = o ++ (f.blocks[b].list.take k).flatMap emitL := by
                  rw [he1, he0, List.append_nil]
                repeat' first | refine ck_intro (by first | exact ke) ?_ ?_ | refine g1 @hdk ?_ | refine d1 @hdk ?_ | refine j1 @hdk (fun hg hgo => ?_) fun hg hgo => ?_ | refine ek_ret ?_ | refine ek_norm ?_ | refine ⟨by omega, ?_⟩ | rfl | trivial | intro _
                refine rd_norm [(1, .box (.fv (fnF f))), (4, .own 5 (steps (o ++ (f.blocks[b].list.take (k + 1)).flatMap emitL))), (26, .own 1 (ints od)), (27, iv od.length), (5, .own 1 (ints (S.set b (o.length : Int)))), (28, iv i), (7, iv b), (42, .fv (.row 5 (f.blocks[b].list.map stF))), (43, iv f.blocks[b].list.length), (44, iv (k + 1 : Nat))] (sub_of ?_) (m1 - 1) (by omega) ⟨k + 1, by omega, rfl⟩
                rw [ha]
                exact dn
            · have hdk : decide ((k : Int) < (f.blocks[b].list.length : Int)) = false := by rw [decide_eq_false_iff_not]; omega
              rw [List.take_of_length_le (by omega : f.blocks[b].list.length ≤ k)] at hfl ⊢
              have htl := termL_len f.blocks[b].term
              have ha : steps (o ++ f.blocks[b].list.flatMap emitL) ++ steps (termL f.blocks[b].term) = steps (o ++ blkC f.blocks[b]) := by
                rw [stepsA, blkC, List.append_assoc]
              have hol2 : (o ++ f.blocks[b].list.flatMap emitL).length ≤ 2000 := by rw [List.length_append]; omega
              repeat' first | refine ck_intro (by first | exact kt) ?_ ?_ | refine g2 @hdk @ha ?_ | refine d2 @hdk @ha ?_ | refine j2 @hdk @ha (fun hg hgo => ?_) fun hg hgo => ?_ | refine ek_ret ?_ | refine ek_norm ?_ | refine ⟨by omega, ?_⟩ | rfl | trivial | intro _
              refine rd_norm [(1, .box (.fv (fnF f))), (4, .own 5 (steps (o ++ blkC f.blocks[b]))), (26, .own 1 (ints od)), (27, iv od.length), (5, .own 1 (ints (S.set b (o.length : Int)))), (28, iv (i + 1 : Nat))] (sub_of ?_) (m - 1) (by omega) ⟨i + 1, o ++ blkC f.blocks[b], S.set b (o.length : Int), by omega, by rw [List.append_assoc]; exact hP, by rw [List.length_append]; exact hB, by rw [List.length_set]; exact hSl, rfl⟩
              exact dn
        · have hd : decide ((i : Int) < ((ordL f).length : Int)) = false := by rw [decide_eq_false_iff_not]; omega
          rw [ord_end hlt, List.flatMap_nil, List.append_nil] at hP
          rw [ord_end hlt, begins] at hB
          subst hP
          subst hB
          repeat' first | refine g1 @hd ?_ | refine d1 @hd ?_ | refine j1 @hd (fun hg hgo => ?_) fun hg hgo => ?_ | refine ek_ret ?_ | refine ek_norm ?_ | refine ⟨by omega, ?_⟩ | rfl | trivial | intro _
          refine pw_loop (fun m st => ∃ j : Nat, j + m = (codeP f).length ∧ st = [(4, .own 5 (steps (pt f j))), (5, .own 1 (ints (bgs f))), (63, .hdr (4, []) 5 (codeP f).length), (64, iv (codeP f).length), (65, iv j)]) (codeP f).length [(4, .own 5 (steps (pt f 0))), (5, .own 1 (ints (bgs f))), (63, .hdr (4, []) 5 (codeP f).length), (64, iv (codeP f).length), (65, iv (0 : Nat))] (sub_of ?_) ⟨0, by omega, rfl⟩ ?_
          · rw [pt_0]
            exact dn
          · rintro m2 st ⟨j, hj, rfl⟩
            by_cases hlj : j < (codeP f).length
            · have hln := pt_len (Nat.le_of_lt hlj)
              have hdj : decide ((j : Int) < ((codeP f).length : Int)) = true := by rw [decide_eq_true_eq]; omega
              have hpl : j < (pt f j).length := by omega
              have hat := steps_at hpl
              rw [pt_at hlj hpl] at hat
              have htg := codeP_tgt hm (codeP f)[j] (List.getElem_mem hlj)
              have hps := pt_set hlj
              have hsm := pt_same hlj
              have hst := fun s => @steps_set (pt f j) j s
              have hbl := bgs_len f
              have kj := v_jumps (codeP f)[j]
              unfold patch at hps
              generalize hx : (codeP f)[j] = x at hat htg hps hsm kj
              obtain ⟨op, r, a, bq, n⟩ := x
              simp only at hat htg hps hsm kj
              by_cases h9 : op = 9 ∨ op = 10
              · obtain ⟨t1, t2⟩ := htg h9
                obtain ⟨N, rfl⟩ := Int.eq_ofNat_of_zero_le t1
                have hN : N < (bgs f).length := by omega
                have hNg := ints_at hN
                rw [if_pos h9, Int.toNat_natCast, List.getElem?_eq_getElem hN, Option.getD_some] at hps
                have hst2 := hst ⟨op, r, a, bq, (bgs f)[N]⟩
                rw [hps] at hst2
                have hjb : (op == 9 || op == 10) = true := by simpa using h9
                rw [hjb] at kj
                repeat' first | refine ck_intro (by first | exact kj) ?_ ?_ | refine g5 @hdj @hln @hat @hNg @hst2 ?_ | refine d5 @hdj @hln @hat @hNg @hst2 ?_ | refine j5 @hdj @hln @hat @hNg @hst2 (fun hg hgo => ?_) fun hg hgo => ?_ | refine ek_ret ?_ | refine ek_norm ?_ | refine ⟨by omega, ?_⟩ | rfl | trivial | intro _
                refine rd_norm [(4, .own 5 (steps (pt f (j + 1)))), (5, .own 1 (ints (bgs f))), (63, .hdr (4, []) 5 (codeP f).length), (64, iv (codeP f).length), (65, iv (j + 1 : Nat))] (sub_of ?_) (m2 - 1) (by omega) ⟨j + 1, by omega, rfl⟩
                exact dn
              · have hjb : (op == 9 || op == 10) = false := by simpa using h9
                rw [hjb] at kj
                repeat' first | refine ck_intro (by first | exact kj) ?_ ?_ | refine g3 @hdj @hln @hat ?_ | refine d3 @hdj @hln @hat ?_ | refine j3 @hdj @hln @hat (fun hg hgo => ?_) fun hg hgo => ?_ | refine ek_ret ?_ | refine ek_norm ?_ | refine ⟨by omega, ?_⟩ | rfl | trivial | intro _
                refine rd_norm [(4, .own 5 (steps (pt f (j + 1)))), (5, .own 1 (ints (bgs f))), (63, .hdr (4, []) 5 (codeP f).length), (64, iv (codeP f).length), (65, iv (j + 1 : Nat))] (sub_of ?_) (m2 - 1) (by omega) ⟨j + 1, by omega, rfl⟩
                rw [hsm h9]
                exact dn
            · have hln : (pt f j).length = (codeP f).length := pt_len (by omega)
              have hdj : decide ((j : Int) < ((codeP f).length : Int)) = false := by rw [decide_eq_false_iff_not]; omega
              have hpe := pt_end hlj
              rw [hpe] at hln ⊢
              have he : emitB f = machB (codeE f) := by unfold emitB; rw [hp, decide_eq_true hv]; rfl
              rw [he]
              cases hmb : machB (codeE f) with
              | true =>
                rw [hmb] at hM
                rw [if_pos rfl]
                repeat' first | refine ck_intro (by first | exact hM) ?_ ?_ | refine g2 @hdj @hln ?_ | refine d2 @hdj @hln ?_ | refine j2 @hdj @hln (fun hg hgo => ?_) fun hg hgo => ?_ | refine ek_ret ?_ | refine ek_norm ?_ | refine ⟨by omega, ?_⟩ | rfl | trivial | intro _
              | false =>
                rw [hmb] at hM
                rw [if_neg (by decide)]
                repeat' first | refine ck_intro (by first | exact hM) ?_ ?_ | refine g2 @hdj @hln ?_ | refine d2 @hdj @hln ?_ | refine j2 @hdj @hln (fun hg hgo => ?_) fun hg hgo => ?_ | refine ek_ret ?_ | refine ek_norm ?_ | refine ⟨by omega, ?_⟩ | rfl | trivial | intro _
    · have hvd : decide (f.values > 40) = true := by rw [decide_eq_true_eq]; omega
      have he : emitB f = false := by unfold emitB; rw [decide_eq_false hv, Bool.and_false]; rfl
      rw [he, if_neg (by decide)]
      refine cw (keepF Tryz.f9) Tryz.f9 false ?_
      repeat' first | refine ck_intro (by first | exact h0) ?_ ?_ | refine g1 @hvd ?_ | refine d1 @hvd ?_ | refine j1 @hvd (fun hg hgo => ?_) fun hg hgo => ?_ | refine ek_ret ?_ | refine ek_norm ?_ | refine ⟨by omega, ?_⟩ | rfl | trivial | intro _
theorem v_toArmS (l : List ArmD) (hn : l.length < 1073741824) (hb : ∀ x ∈ l, True) : C2 CC F_laws_toArmS [.fv (.row 2 (l.map armF))] (.own 2 (rowD armO l)) [] := by
  have hmk : 0 ≤ (l.length : Int) ∧ (l.length : Int) < 4294967296 := ⟨by omega, by omega⟩
  refine cw (keepF Tryz.f155) Tryz.f155 false ?_
  repeat' first | refine g1 @hmk ?_ | refine d1 @hmk ?_ | refine j1 @hmk (fun hg hgo => ?_) fun hg hgo => ?_ | refine ek_ret ?_ | refine ek_norm ?_ | refine ⟨by omega, ?_⟩ | rfl | trivial | intro _
  refine pw_loop (fun m st => ∃ j : Nat, j + m = l.length ∧ st = [(0, .fv (.row 2 (l.map armF))), (3, .own 2 (bld armO (.fv (.agg [.int .i64 0, .int .i64 0])) j l)), (4, iv j)]) l.length [(0, .fv (.row 2 (l.map armF))), (3, .own 2 (bld armO (.fv (.agg [.int .i64 0, .int .i64 0])) 0 l)), (4, iv (0 : Nat))] (sub_of ?_) ⟨0, by omega, rfl⟩ ?_
  · rw [bld_0]
    exact dn
  · rintro m st ⟨j, hj, rfl⟩
    by_cases hlt : j < l.length
    · have hd : decide ((j : Int) < (l.length : Int)) = true := by rw [decide_eq_true_eq]; omega
      have hm1 : j < (l.map armF).length := by rw [List.length_map]; exact hlt
      have hel := v_toArm l[j]
      have hs : (bld armO (.fv (.agg [.int .i64 0, .int .i64 0])) j l).set j (armO l[j]) = bld armO (.fv (.agg [.int .i64 0, .int .i64 0])) (j + 1) l := bld_set hlt
      have hx : (bld armO (.fv (.agg [.int .i64 0, .int .i64 0])) j l)[j]? = some (.fv (.agg [.int .i64 0, .int .i64 0])) := bld_get hlt
      have hL : (bld armO (.fv (.agg [.int .i64 0, .int .i64 0])) j l).length = l.length := bld_len (by omega)
      have hnr : noRefs (bld armO (.fv (.agg [.int .i64 0, .int .i64 0])) j l) = true := nrs_bld (fun x => rfl) (by rfl)
      generalize bld armO (.fv (.agg [.int .i64 0, .int .i64 0])) j l = L at hs hx hL hnr
      have hjL : j < L.length := by omega
      skip
      repeat' first | refine ck_intro (by first | exact hel) ?_ ?_ | refine g4 @hd @hL @hx @hnr ?_ | refine d4 @hd @hL @hx @hnr ?_ | refine j4 @hd @hL @hx @hnr (fun hg hgo => ?_) fun hg hgo => ?_ | refine ek_ret ?_ | refine ek_norm ?_ | refine ⟨by omega, ?_⟩ | rfl | trivial | intro _
      refine rd_norm [(0, .fv (.row 2 (l.map armF))), (3, .own 2 (bld armO (.fv (.agg [.int .i64 0, .int .i64 0])) (j + 1) l)), (4, iv (j + 1 : Nat))] (sub_of ?_) (m - 1) (by omega) ⟨j + 1, by omega, rfl⟩
      rw [← hs]
      exact dn
      skip
    · have hd : decide ((j : Int) < (l.length : Int)) = false := by rw [decide_eq_false_iff_not]; omega
      have hjn : j = l.length := by omega
      subst hjn
      have h0 : bld armO (.fv (.agg [.int .i64 0, .int .i64 0])) l.length l = rowD armO l := bld_n
      repeat' first | refine g2 @hd @h0 ?_ | refine d2 @hd @h0 ?_ | refine j2 @hd @h0 (fun hg hgo => ?_) fun hg hgo => ?_ | refine ek_ret ?_ | refine ek_norm ?_ | refine ⟨by omega, ?_⟩ | rfl | trivial | intro _
theorem v_toPhi (x : PhiD) (h : x.ok) : C2 CC F_laws_toPhi [.fv (phiF x)] (phiO x) [] := by
  obtain ⟨d, arms⟩ := x
  have he := v_toArmS arms h (fun _ _ => trivial)
  refine cw (keepF Tryz.f140) Tryz.f140 false ?_
  repeat' first | refine ck_intro (by first | exact he) ?_ ?_ | refine g0 ?_ | refine d0 ?_ | refine j0 (fun hg hgo => ?_) fun hg hgo => ?_ | refine ek_ret ?_ | refine ek_norm ?_ | refine ⟨by omega, ?_⟩ | rfl | trivial | intro _
theorem v_toPhiS (l : List PhiD) (hn : l.length < 1073741824) (hb : ∀ x ∈ l, x.ok) : C2 CC F_laws_toPhiS [.fv (.row 2 (l.map phiF))] (.own 2 (rowD phiO l)) [] := by
  have hmk : 0 ≤ (l.length : Int) ∧ (l.length : Int) < 4294967296 := ⟨by omega, by omega⟩
  refine cw (keepF Tryz.f105) Tryz.f105 false ?_
  repeat' first | refine g1 @hmk ?_ | refine d1 @hmk ?_ | refine j1 @hmk (fun hg hgo => ?_) fun hg hgo => ?_ | refine ek_ret ?_ | refine ek_norm ?_ | refine ⟨by omega, ?_⟩ | rfl | trivial | intro _
  refine pw_loop (fun m st => ∃ j : Nat, j + m = l.length ∧ st = [(0, .fv (.row 2 (l.map phiF))), (3, .own 2 (bld phiO (.fv (.agg [.int .i64 0, .nil])) j l)), (4, iv j)]) l.length [(0, .fv (.row 2 (l.map phiF))), (3, .own 2 (bld phiO (.fv (.agg [.int .i64 0, .nil])) 0 l)), (4, iv (0 : Nat))] (sub_of ?_) ⟨0, by omega, rfl⟩ ?_
  · rw [bld_0]
    exact dn
  · rintro m st ⟨j, hj, rfl⟩
    by_cases hlt : j < l.length
    · have hd : decide ((j : Int) < (l.length : Int)) = true := by rw [decide_eq_true_eq]; omega
      have hm1 : j < (l.map phiF).length := by rw [List.length_map]; exact hlt
      have hel := v_toPhi l[j] (hb _ (List.getElem_mem hlt))
      have hs : (bld phiO (.fv (.agg [.int .i64 0, .nil])) j l).set j (phiO l[j]) = bld phiO (.fv (.agg [.int .i64 0, .nil])) (j + 1) l := bld_set hlt
      have hx : (bld phiO (.fv (.agg [.int .i64 0, .nil])) j l)[j]? = some (.fv (.agg [.int .i64 0, .nil])) := bld_get hlt
      have hL : (bld phiO (.fv (.agg [.int .i64 0, .nil])) j l).length = l.length := bld_len (by omega)
      have hnr : noRefs (bld phiO (.fv (.agg [.int .i64 0, .nil])) j l) = true := nrs_bld (fun x => nr_phiO) (by rfl)
      generalize bld phiO (.fv (.agg [.int .i64 0, .nil])) j l = L at hs hx hL hnr
      have hjL : j < L.length := by omega
      skip
      repeat' first | refine ck_intro (by first | exact hel) ?_ ?_ | refine g4 @hd @hL @hx @hnr ?_ | refine d4 @hd @hL @hx @hnr ?_ | refine j4 @hd @hL @hx @hnr (fun hg hgo => ?_) fun hg hgo => ?_ | refine ek_ret ?_ | refine ek_norm ?_ | refine ⟨by omega, ?_⟩ | rfl | trivial | intro _
      refine rd_norm [(0, .fv (.row 2 (l.map phiF))), (3, .own 2 (bld phiO (.fv (.agg [.int .i64 0, .nil])) (j + 1) l)), (4, iv (j + 1 : Nat))] (sub_of ?_) (m - 1) (by omega) ⟨j + 1, by omega, rfl⟩
      rw [← hs]
      exact dn
      skip
    · have hd : decide ((j : Int) < (l.length : Int)) = false := by rw [decide_eq_false_iff_not]; omega
      have hjn : j = l.length := by omega
      subst hjn
      have h0 : bld phiO (.fv (.agg [.int .i64 0, .nil])) l.length l = rowD phiO l := bld_n
      repeat' first | refine g2 @hd @h0 ?_ | refine d2 @hd @h0 ?_ | refine j2 @hd @h0 (fun hg hgo => ?_) fun hg hgo => ?_ | refine ek_ret ?_ | refine ek_norm ?_ | refine ⟨by omega, ?_⟩ | rfl | trivial | intro _
theorem v_toInsS (l : List StepD) (hn : l.length < 1073741824) (hb : ∀ x ∈ l, True) : C2 CC F_laws_toInsS [.fv (.row 5 (l.map stF))] (.own 5 (rowD sF l)) [] := by
  have hmk : 0 ≤ (l.length : Int) ∧ (l.length : Int) < 4294967296 := ⟨by omega, by omega⟩
  refine cw (keepF Tryz.f106) Tryz.f106 false ?_
  repeat' first | refine g1 @hmk ?_ | refine d1 @hmk ?_ | refine j1 @hmk (fun hg hgo => ?_) fun hg hgo => ?_ | refine ek_ret ?_ | refine ek_norm ?_ | refine ⟨by omega, ?_⟩ | rfl | trivial | intro _
  refine pw_loop (fun m st => ∃ j : Nat, j + m = l.length ∧ st = [(0, .fv (.row 5 (l.map stF))), (3, .own 5 (bld sF (.fv (.agg [.int .i64 0, .int .i64 0, .int .i64 0, .int .i64 0, .int .i64 0])) j l)), (4, iv j)]) l.length [(0, .fv (.row 5 (l.map stF))), (3, .own 5 (bld sF (.fv (.agg [.int .i64 0, .int .i64 0, .int .i64 0, .int .i64 0, .int .i64 0])) 0 l)), (4, iv (0 : Nat))] (sub_of ?_) ⟨0, by omega, rfl⟩ ?_
  · rw [bld_0]
    exact dn
  · rintro m st ⟨j, hj, rfl⟩
    by_cases hlt : j < l.length
    · have hd : decide ((j : Int) < (l.length : Int)) = true := by rw [decide_eq_true_eq]; omega
      have hm1 : j < (l.map stF).length := by rw [List.length_map]; exact hlt
      have hel := v_toIns l[j]
      have hs : (bld sF (.fv (.agg [.int .i64 0, .int .i64 0, .int .i64 0, .int .i64 0, .int .i64 0])) j l).set j (sF l[j]) = bld sF (.fv (.agg [.int .i64 0, .int .i64 0, .int .i64 0, .int .i64 0, .int .i64 0])) (j + 1) l := bld_set hlt
      have hx : (bld sF (.fv (.agg [.int .i64 0, .int .i64 0, .int .i64 0, .int .i64 0, .int .i64 0])) j l)[j]? = some (.fv (.agg [.int .i64 0, .int .i64 0, .int .i64 0, .int .i64 0, .int .i64 0])) := bld_get hlt
      have hL : (bld sF (.fv (.agg [.int .i64 0, .int .i64 0, .int .i64 0, .int .i64 0, .int .i64 0])) j l).length = l.length := bld_len (by omega)
      have hnr : noRefs (bld sF (.fv (.agg [.int .i64 0, .int .i64 0, .int .i64 0, .int .i64 0, .int .i64 0])) j l) = true := nrs_bld (fun x => rfl) (by rfl)
      generalize bld sF (.fv (.agg [.int .i64 0, .int .i64 0, .int .i64 0, .int .i64 0, .int .i64 0])) j l = L at hs hx hL hnr
      have hjL : j < L.length := by omega
      skip
      repeat' first | refine ck_intro (by first | exact hel) ?_ ?_ | refine g4 @hd @hL @hx @hnr ?_ | refine d4 @hd @hL @hx @hnr ?_ | refine j4 @hd @hL @hx @hnr (fun hg hgo => ?_) fun hg hgo => ?_ | refine ek_ret ?_ | refine ek_norm ?_ | refine ⟨by omega, ?_⟩ | rfl | trivial | intro _
      refine rd_norm [(0, .fv (.row 5 (l.map stF))), (3, .own 5 (bld sF (.fv (.agg [.int .i64 0, .int .i64 0, .int .i64 0, .int .i64 0, .int .i64 0])) (j + 1) l)), (4, iv (j + 1 : Nat))] (sub_of ?_) (m - 1) (by omega) ⟨j + 1, by omega, rfl⟩
      rw [← hs]
      exact dn
      skip
    · have hd : decide ((j : Int) < (l.length : Int)) = false := by rw [decide_eq_false_iff_not]; omega
      have hjn : j = l.length := by omega
      subst hjn
      have h0 : bld sF (.fv (.agg [.int .i64 0, .int .i64 0, .int .i64 0, .int .i64 0, .int .i64 0])) l.length l = rowD sF l := bld_n
      repeat' first | refine g2 @hd @h0 ?_ | refine d2 @hd @h0 ?_ | refine j2 @hd @h0 (fun hg hgo => ?_) fun hg hgo => ?_ | refine ek_ret ?_ | refine ek_norm ?_ | refine ⟨by omega, ?_⟩ | rfl | trivial | intro _
theorem v_toBlock (x : BlockD) (h : x.ok) : C2 CC F_laws_toBlock [.fv (blockF x)] (blockO x) [] := by
  obtain ⟨phis, list, term⟩ := x
  have he := v_toPhiS phis h.1 h.2.1
  have he2 := v_toInsS list h.2.2 (fun _ _ => trivial)
  have he3 := v_toTerm term
  refine cw (keepF Tryz.f69) Tryz.f69 false ?_
  repeat' first | refine ck_intro (by first | exact he | exact he2 | exact he3) ?_ ?_ | refine g0 ?_ | refine d0 ?_ | refine j0 (fun hg hgo => ?_) fun hg hgo => ?_ | refine ek_ret ?_ | refine ek_norm ?_ | refine ⟨by omega, ?_⟩ | rfl | trivial | intro _
theorem v_toBlockS (l : List BlockD) (hn : l.length < 1073741824) (hb : ∀ x ∈ l, x.ok) : C2 CC F_laws_toBlockS [.fv (.row 6 (l.map blockF))] (.own 6 (rowD blockO l)) [] := by
  have hmk : 0 ≤ (l.length : Int) ∧ (l.length : Int) < 4294967296 := ⟨by omega, by omega⟩
  refine cw (keepF Tryz.f30) Tryz.f30 false ?_
  repeat' first | refine g1 @hmk ?_ | refine d1 @hmk ?_ | refine j1 @hmk (fun hg hgo => ?_) fun hg hgo => ?_ | refine ek_ret ?_ | refine ek_norm ?_ | refine ⟨by omega, ?_⟩ | rfl | trivial | intro _
  refine pw_loop (fun m st => ∃ j : Nat, j + m = l.length ∧ st = [(0, .fv (.row 6 (l.map blockF))), (3, .own 6 (bld blockO (.fv (.agg [.nil, .nil, .agg [.int .i64 0, .int .i64 0, .int .i64 0, .int .i64 0]])) j l)), (4, iv j)]) l.length [(0, .fv (.row 6 (l.map blockF))), (3, .own 6 (bld blockO (.fv (.agg [.nil, .nil, .agg [.int .i64 0, .int .i64 0, .int .i64 0, .int .i64 0]])) 0 l)), (4, iv (0 : Nat))] (sub_of ?_) ⟨0, by omega, rfl⟩ ?_
  · rw [bld_0]
    exact dn
  · rintro m st ⟨j, hj, rfl⟩
    by_cases hlt : j < l.length
    · have hd : decide ((j : Int) < (l.length : Int)) = true := by rw [decide_eq_true_eq]; omega
      have hm1 : j < (l.map blockF).length := by rw [List.length_map]; exact hlt
      have hel := v_toBlock l[j] (hb _ (List.getElem_mem hlt))
      have hs : (bld blockO (.fv (.agg [.nil, .nil, .agg [.int .i64 0, .int .i64 0, .int .i64 0, .int .i64 0]])) j l).set j (blockO l[j]) = bld blockO (.fv (.agg [.nil, .nil, .agg [.int .i64 0, .int .i64 0, .int .i64 0, .int .i64 0]])) (j + 1) l := bld_set hlt
      have hx : (bld blockO (.fv (.agg [.nil, .nil, .agg [.int .i64 0, .int .i64 0, .int .i64 0, .int .i64 0]])) j l)[j]? = some (.fv (.agg [.nil, .nil, .agg [.int .i64 0, .int .i64 0, .int .i64 0, .int .i64 0]])) := bld_get hlt
      have hL : (bld blockO (.fv (.agg [.nil, .nil, .agg [.int .i64 0, .int .i64 0, .int .i64 0, .int .i64 0]])) j l).length = l.length := bld_len (by omega)
      have hnr : noRefs (bld blockO (.fv (.agg [.nil, .nil, .agg [.int .i64 0, .int .i64 0, .int .i64 0, .int .i64 0]])) j l) = true := nrs_bld (fun x => nr_blockO) (by rfl)
      generalize bld blockO (.fv (.agg [.nil, .nil, .agg [.int .i64 0, .int .i64 0, .int .i64 0, .int .i64 0]])) j l = L at hs hx hL hnr
      have hjL : j < L.length := by omega
      skip
      repeat' first | refine ck_intro (by first | exact hel) ?_ ?_ | refine g4 @hd @hL @hx @hnr ?_ | refine d4 @hd @hL @hx @hnr ?_ | refine j4 @hd @hL @hx @hnr (fun hg hgo => ?_) fun hg hgo => ?_ | refine ek_ret ?_ | refine ek_norm ?_ | refine ⟨by omega, ?_⟩ | rfl | trivial | intro _
      refine rd_norm [(0, .fv (.row 6 (l.map blockF))), (3, .own 6 (bld blockO (.fv (.agg [.nil, .nil, .agg [.int .i64 0, .int .i64 0, .int .i64 0, .int .i64 0]])) (j + 1) l)), (4, iv (j + 1 : Nat))] (sub_of ?_) (m - 1) (by omega) ⟨j + 1, by omega, rfl⟩
      rw [← hs]
      exact dn
      skip
    · have hd : decide ((j : Int) < (l.length : Int)) = false := by rw [decide_eq_false_iff_not]; omega
      have hjn : j = l.length := by omega
      subst hjn
      have h0 : bld blockO (.fv (.agg [.nil, .nil, .agg [.int .i64 0, .int .i64 0, .int .i64 0, .int .i64 0]])) l.length l = rowD blockO l := bld_n
      repeat' first | refine g2 @hd @h0 ?_ | refine d2 @hd @h0 ?_ | refine j2 @hd @h0 (fun hg hgo => ?_) fun hg hgo => ?_ | refine ek_ret ?_ | refine ek_norm ?_ | refine ⟨by omega, ?_⟩ | rfl | trivial | intro _
theorem v_toFn (x : FnD) (h : x.ok) : C2 CC F_laws_toFn [.fv (fnF x)] (fnO x) [] := by
  obtain ⟨blocks, values⟩ := x
  have he := v_toBlockS blocks h.1 h.2
  refine cw (keepF Tryz.f8) Tryz.f8 false ?_
  repeat' first | refine ck_intro (by first | exact he) ?_ ?_ | refine g0 ?_ | refine d0 ?_ | refine j0 (fun hg hgo => ?_) fun hg hgo => ?_ | refine ek_ret ?_ | refine ek_norm ?_ | refine ⟨by omega, ?_⟩ | rfl | trivial | intro _
def sub1 (left : Int) (n : Nat) : Int := if left - n < 0 then -1 else left - n
def szL {α : Type} (e : α → Int → Int) : List α → Int → Int
  | [], left => left
  | x :: l, left => if e x left < 0 then -1 else szL e l (e x left)
def szRow {α : Type} (e : α → Int → Int) (l : List α) (left : Int) : Int := if left - l.length < 0 then -1 else szL e l (left - l.length)
def szP (x : PhiD) (left : Int) : Int := sub1 left x.arms.length
def szB (x : BlockD) (left : Int) : Int := if szRow szP x.phis left < 0 then -1 else sub1 (szRow szP x.phis left) x.list.length
def szFn (x : FnD) (left : Int) : Int := if szRow szB x.blocks left < 0 then -1 else szRow szB x.blocks left
theorem sub1_le (left : Int) (n : Nat) (h : 0 ≤ left) : sub1 left n ≤ left ∧ -1 ≤ sub1 left n := by unfold sub1; split <;> omega
theorem szL_le {α : Type} {e : α → Int → Int} (he : ∀ x left, 0 ≤ left ∧ left ≤ 1048576 → e x left ≤ left ∧ -1 ≤ e x left) : ∀ (l : List α) (left : Int), 0 ≤ left ∧ left ≤ 1048576 → szL e l left ≤ left ∧ -1 ≤ szL e l left
  | [], left, h => by unfold szL; omega
  | x :: l, left, h => by
    unfold szL
    have h1 := he x left h
    split
    · omega
    · have := szL_le he l (e x left) (by omega); omega
theorem szRow_le {α : Type} {e : α → Int → Int} (he : ∀ x left, 0 ≤ left ∧ left ≤ 1048576 → e x left ≤ left ∧ -1 ≤ e x left) (l : List α) (left : Int) (h : 0 ≤ left ∧ left ≤ 1048576) : szRow e l left ≤ left ∧ -1 ≤ szRow e l left := by
  unfold szRow
  split
  · omega
  · have := szL_le he l (left - l.length) (by omega); omega
theorem szP_le (x : PhiD) (left : Int) (h : 0 ≤ left ∧ left ≤ 1048576) : szP x left ≤ left ∧ -1 ≤ szP x left := sub1_le _ _ h.1
theorem szB_le (x : BlockD) (left : Int) (h : 0 ≤ left ∧ left ≤ 1048576) : szB x left ≤ left ∧ -1 ≤ szB x left := by
  unfold szB
  have h1 := szRow_le szP_le x.phis left h
  split
  · omega
  · have := sub1_le (szRow szP x.phis left) x.list.length (by omega); omega
theorem szL_ok {α : Type} {e : α → Int → Int} {P : α → Prop} (he : ∀ x left, 0 ≤ left ∧ left ≤ 1048576 → e x left ≤ left ∧ (0 ≤ e x left → P x)) : ∀ (l : List α) (left : Int), 0 ≤ left ∧ left ≤ 1048576 → 0 ≤ szL e l left → ∀ x ∈ l, P x
  | [], left, h, hz => fun x hx => by simp at hx
  | x :: l, left, h, hz => by
    unfold szL at hz
    have h1 := he x left h
    split at hz
    · omega
    · intro y hy
      rcases List.mem_cons.1 hy with rfl | hy
      · exact h1.2 (by omega)
      · exact szL_ok he l (e x left) (by omega) hz y hy
theorem szRow_ok {α : Type} {e : α → Int → Int} {P : α → Prop} (he : ∀ x left, 0 ≤ left ∧ left ≤ 1048576 → e x left ≤ left ∧ (0 ≤ e x left → P x)) (l : List α) (left : Int) (h : 0 ≤ left ∧ left ≤ 1048576) (hz : 0 ≤ szRow e l left) : l.length ≤ 1048576 ∧ ∀ x ∈ l, P x := by
  unfold szRow at hz
  split at hz
  · omega
  · exact ⟨by omega, szL_ok he l _ (by omega) hz⟩
theorem szP_ok (x : PhiD) (left : Int) (h : 0 ≤ left ∧ left ≤ 1048576) (hz : 0 ≤ szP x left) : x.arms.length ≤ 1048576 := by unfold szP sub1 at hz; split at hz <;> omega
theorem szB_ok (x : BlockD) (left : Int) (h : 0 ≤ left ∧ left ≤ 1048576) (hz : 0 ≤ szB x left) : x.phis.length ≤ 1048576 ∧ (∀ p ∈ x.phis, p.arms.length ≤ 1048576) ∧ x.list.length ≤ 1048576 := by
  unfold szB at hz
  have h1 := szRow_le szP_le x.phis left h
  split at hz
  · omega
  · have h2 := szRow_ok (P := fun p => p.arms.length ≤ 1048576) (fun x left h => ⟨(szP_le x left h).1, szP_ok x left h⟩) x.phis left h (by omega)
    refine ⟨h2.1, h2.2, ?_⟩
    unfold sub1 at hz; split at hz <;> omega
theorem szFn_ok (x : FnD) (hz : 0 ≤ szFn x 1048576) : x.blocks.length ≤ 1048576 ∧ (∀ b ∈ x.blocks, b.phis.length ≤ 1048576 ∧ (∀ p ∈ b.phis, p.arms.length ≤ 1048576) ∧ b.list.length ≤ 1048576) ∧ x.ok := by
  unfold szFn at hz
  split at hz
  · omega
  · have h2 := szRow_ok (P := fun b : BlockD => b.phis.length ≤ 1048576 ∧ (∀ p ∈ b.phis, p.arms.length ≤ 1048576) ∧ b.list.length ≤ 1048576) (fun x left h => ⟨(szB_le x left h).1, szB_ok x left h⟩) x.blocks 1048576 (by omega) hz
    refine ⟨h2.1, h2.2, ?_, fun b hb => ?_⟩
    · have := h2.1; omega
    · obtain ⟨a, b1, c⟩ := h2.2 b hb
      exact ⟨by omega, fun p hp => by have := b1 p hp; unfold PhiD.ok; omega, by omega⟩
def PhiD.ln (p : PhiD) : Prop := p.arms.length ≤ 9223372036854775807
def BlockD.ln (b : BlockD) : Prop := b.phis.length ≤ 9223372036854775807 ∧ (∀ p ∈ b.phis, p.ln) ∧ b.list.length ≤ 9223372036854775807
def FnD.ln (f : FnD) : Prop := f.blocks.length ≤ 9223372036854775807 ∧ ∀ b ∈ f.blocks, b.ln
theorem v_szArmS (l : List ArmD) (left : Int) (h0 : 0 ≤ left ∧ left ≤ 1048576) (hn : l.length ≤ 9223372036854775807) : C2 CC F_laws_szArmS [.fv (.row 2 (l.map armF)), iv left] (iv (sub1 left l.length)) [] := by
  refine cw (keepF Tryz.f154) Tryz.f154 false ?_
  repeat' first | refine g0 ?_ | refine d0 ?_ | refine j0 (fun hg hgo => ?_) fun hg hgo => ?_ | refine ek_ret ?_ | refine ek_norm ?_ | refine ⟨by omega, ?_⟩ | rfl | trivial | intro _
  all_goals first | rfl | (simp_all [beqD, sub1]; done) | ((try simp only [sub1]); (repeat' split) <;> first | omega | (simp_all [beqD]; done) | (simp_all [beqD]; omega)) | (simp_all [beqD, sub1]; (repeat' split) <;> first | rfl | omega | (simp_all; done))
theorem v_szInsS (l : List StepD) (left : Int) (h0 : 0 ≤ left ∧ left ≤ 1048576) (hn : l.length ≤ 9223372036854775807) : C2 CC F_laws_szInsS [.fv (.row 5 (l.map stF)), iv left] (iv (sub1 left l.length)) [] := by
  refine cw (keepF Tryz.f99) Tryz.f99 false ?_
  repeat' first | refine g0 ?_ | refine d0 ?_ | refine j0 (fun hg hgo => ?_) fun hg hgo => ?_ | refine ek_ret ?_ | refine ek_norm ?_ | refine ⟨by omega, ?_⟩ | rfl | trivial | intro _
  all_goals first | rfl | (simp_all [beqD, sub1]; done) | ((try simp only [sub1]); (repeat' split) <;> first | omega | (simp_all [beqD]; done) | (simp_all [beqD]; omega)) | (simp_all [beqD, sub1]; (repeat' split) <;> first | rfl | omega | (simp_all; done))
theorem v_szPhi (x : PhiD) (left : Int) (h0 : 0 ≤ left ∧ left ≤ 1048576) (hx : x.ln) : C2 CC F_laws_szPhi [.fv (phiF x), iv left] (iv (szP x left)) [] := by
  obtain ⟨d, arms⟩ := x
  have he := v_szArmS arms left h0 hx
  refine cw (keepF Tryz.f138) Tryz.f138 false ?_
  repeat' first | refine ck_intro (by first | exact he) ?_ ?_ | refine g0 ?_ | refine d0 ?_ | refine j0 (fun hg hgo => ?_) fun hg hgo => ?_ | refine ek_ret ?_ | refine ek_norm ?_ | refine ⟨by omega, ?_⟩ | rfl | trivial | intro _
  all_goals first | rfl | (simp_all [beqD, szP, sub1]; done) | ((try simp only [szP, sub1]); (repeat' split) <;> first | omega | (simp_all [beqD]; done) | (simp_all [beqD]; omega)) | (simp_all [beqD, szP, sub1]; (repeat' split) <;> first | rfl | omega | (simp_all; done))
theorem v_szPhiS (l : List PhiD) (left : Int) (h0 : 0 ≤ left ∧ left ≤ 1048576) (hn : l.length ≤ 9223372036854775807) (hb : ∀ x ∈ l, x.ln) : C2 CC F_laws_szPhiS [.fv (.row 2 (l.map phiF)), iv left] (iv (szRow szP l left)) [] := by
  unfold szRow
  refine cw (keepF Tryz.f98) Tryz.f98 false ?_
  repeat' first | refine g0 ?_ | refine d0 ?_ | refine j0 (fun hg hgo => ?_) fun hg hgo => ?_ | refine ek_ret ?_ | refine ek_norm ?_ | refine ⟨by omega, ?_⟩ | rfl | trivial | intro _
  · refine pw_loop (fun m st => ∃ (j : Nat) (lf : Int), j + m = l.length ∧ szL szP l (left - l.length) = szL szP (l.drop j) lf ∧ 0 ≤ lf ∧ lf ≤ 1048576 ∧ st = [(0, .fv (.row 2 (l.map phiF))), (1, iv lf), (5, iv j)]) l.length [(0, .fv (.row 2 (l.map phiF))), (1, iv (left - l.length)), (5, iv (0 : Nat))] (sub_of ?_) ⟨0, _, by omega, by rw [List.drop_zero], by omega, by omega, rfl⟩ ?_
    · exact dn
    · rintro m st ⟨j, lf, hj, hz, hl0, hl1, rfl⟩
      rw [hz]
      by_cases hlt : j < l.length
      · have hd : decide ((j : Int) < (l.length : Int)) = true := by rw [decide_eq_true_eq]; omega
        have hm1 : j < (l.map phiF).length := by rw [List.length_map]; exact hlt
        have hel := v_szPhi l[j] lf ⟨hl0, hl1⟩ (hb _ (List.getElem_mem hlt))
        have hle := szP_le l[j] lf ⟨hl0, hl1⟩
        rw [List.drop_eq_getElem_cons hlt, szL] at hz ⊢
        repeat' first | refine ck_intro (by first | exact hel) ?_ ?_ | refine g1 @hd ?_ | refine d1 @hd ?_ | refine j1 @hd (fun hg hgo => ?_) fun hg hgo => ?_ | refine ek_ret ?_ | refine ek_norm ?_ | refine ⟨by omega, ?_⟩ | rfl | trivial | intro _
        · rw [if_neg (by omega)] at hz
          refine rd_norm [(0, .fv (.row 2 (l.map phiF))), (1, iv (szP l[j] lf)), (5, iv (j + 1 : Nat))] (sub_of ?_) (m - 1) (by omega) ⟨j + 1, _, by omega, rfl, by omega, by omega, rfl⟩
          exact dn
      · have hd : decide ((j : Int) < (l.length : Int)) = false := by rw [decide_eq_false_iff_not]; omega
        rw [List.drop_eq_nil_of_le (by omega), szL]
        repeat' first | refine g1 @hd ?_ | refine d1 @hd ?_ | refine j1 @hd (fun hg hgo => ?_) fun hg hgo => ?_ | refine ek_ret ?_ | refine ek_norm ?_ | refine ⟨by omega, ?_⟩ | rfl | trivial | intro _
theorem v_szBlock (x : BlockD) (left : Int) (h0 : 0 ≤ left ∧ left ≤ 1048576) (hx : x.ln) : C2 CC F_laws_szBlock [.fv (blockF x), iv left] (iv (szB x left)) [] := by
  obtain ⟨phis, list, term⟩ := x
  have he := v_szPhiS phis left h0 hx.1 hx.2.1
  have hle := szRow_le szP_le phis left h0
  have hll := hx.2.2
  unfold szB
  refine cw (keepF Tryz.f58) Tryz.f58 false ?_
  repeat' first | refine ck_intro (by first | exact he | exact v_szInsS _ _ (by omega) hll) ?_ ?_ | refine g0 ?_ | refine d0 ?_ | refine j0 (fun hg hgo => ?_) fun hg hgo => ?_ | refine ek_ret ?_ | refine ek_norm ?_ | refine ⟨by omega, ?_⟩ | rfl | trivial | intro _
  all_goals first | rfl | (simp_all [beqD, sub1]; done) | ((try simp only [sub1]); (repeat' split) <;> first | omega | (simp_all [beqD]; done) | (simp_all [beqD]; omega)) | (simp_all [beqD, sub1]; (repeat' split) <;> first | rfl | omega | (simp_all; done))
theorem v_szBlockS (l : List BlockD) (left : Int) (h0 : 0 ≤ left ∧ left ≤ 1048576) (hn : l.length ≤ 9223372036854775807) (hb : ∀ x ∈ l, x.ln) : C2 CC F_laws_szBlockS [.fv (.row 6 (l.map blockF)), iv left] (iv (szRow szB l left)) [] := by
  unfold szRow
  refine cw (keepF Tryz.f24) Tryz.f24 false ?_
  repeat' first | refine g0 ?_ | refine d0 ?_ | refine j0 (fun hg hgo => ?_) fun hg hgo => ?_ | refine ek_ret ?_ | refine ek_norm ?_ | refine ⟨by omega, ?_⟩ | rfl | trivial | intro _
  · refine pw_loop (fun m st => ∃ (j : Nat) (lf : Int), j + m = l.length ∧ szL szB l (left - l.length) = szL szB (l.drop j) lf ∧ 0 ≤ lf ∧ lf ≤ 1048576 ∧ st = [(0, .fv (.row 6 (l.map blockF))), (1, iv lf), (5, iv j)]) l.length [(0, .fv (.row 6 (l.map blockF))), (1, iv (left - l.length)), (5, iv (0 : Nat))] (sub_of ?_) ⟨0, _, by omega, by rw [List.drop_zero], by omega, by omega, rfl⟩ ?_
    · exact dn
    · rintro m st ⟨j, lf, hj, hz, hl0, hl1, rfl⟩
      rw [hz]
      by_cases hlt : j < l.length
      · have hd : decide ((j : Int) < (l.length : Int)) = true := by rw [decide_eq_true_eq]; omega
        have hm1 : j < (l.map blockF).length := by rw [List.length_map]; exact hlt
        have hel := v_szBlock l[j] lf ⟨hl0, hl1⟩ (hb _ (List.getElem_mem hlt))
        have hle := szB_le l[j] lf ⟨hl0, hl1⟩
        rw [List.drop_eq_getElem_cons hlt, szL] at hz ⊢
        repeat' first | refine ck_intro (by first | exact hel) ?_ ?_ | refine g1 @hd ?_ | refine d1 @hd ?_ | refine j1 @hd (fun hg hgo => ?_) fun hg hgo => ?_ | refine ek_ret ?_ | refine ek_norm ?_ | refine ⟨by omega, ?_⟩ | rfl | trivial | intro _
        · rw [if_neg (by omega)] at hz
          refine rd_norm [(0, .fv (.row 6 (l.map blockF))), (1, iv (szB l[j] lf)), (5, iv (j + 1 : Nat))] (sub_of ?_) (m - 1) (by omega) ⟨j + 1, _, by omega, rfl, by omega, by omega, rfl⟩
          exact dn
      · have hd : decide ((j : Int) < (l.length : Int)) = false := by rw [decide_eq_false_iff_not]; omega
        rw [List.drop_eq_nil_of_le (by omega), szL]
        repeat' first | refine g1 @hd ?_ | refine d1 @hd ?_ | refine j1 @hd (fun hg hgo => ?_) fun hg hgo => ?_ | refine ek_ret ?_ | refine ek_norm ?_ | refine ⟨by omega, ?_⟩ | rfl | trivial | intro _
theorem v_szFn (x : FnD) (left : Int) (h0 : 0 ≤ left ∧ left ≤ 1048576) (hx : x.ln) : C2 CC F_laws_szFn [.fv (fnF x), iv left] (iv (szFn x left)) [] := by
  obtain ⟨blocks, values⟩ := x
  have he := v_szBlockS blocks left h0 hx.1 hx.2
  unfold szFn
  refine cw (keepF Tryz.f6) Tryz.f6 false ?_
  repeat' first | refine ck_intro (by first | exact he) ?_ ?_ | refine g0 ?_ | refine d0 ?_ | refine j0 (fun hg hgo => ?_) fun hg hgo => ?_ | refine ek_ret ?_ | refine ek_norm ?_ | refine ⟨by omega, ?_⟩ | rfl | trivial | intro _
  all_goals first | rfl | (simp_all [beqD, sub1]; done) | ((try simp only [sub1]); (repeat' split) <;> first | omega | (simp_all [beqD]; done) | (simp_all [beqD]; omega)) | (simp_all [beqD, sub1]; (repeat' split) <;> first | rfl | omega | (simp_all; done))
theorem fzL_rowD {α : Type} {o : α → DV} {g : α → FV} (h : ∀ x, fzD (o x) = some (g x)) : ∀ (l : List α), fzL (rowD o l) = some (l.map g)
  | [] => rfl
  | a :: l => by
    have ih := fzL_rowD h l
    unfold rowD at ih ⊢
    rw [List.map_cons, fzL_cons, h a, ih]; rfl
@[go_sem] theorem fzL_arms {l : List ArmD} : fzL (rowD armO l) = some (l.map armF) := fzL_rowD (fun _ => rfl) l
@[go_sem] theorem fzD_phiO {x : PhiD} : fzD (phiO x) = some (phiF x) := by
  show fzD (.agg _) = _; rw [fzD_agg, fzL_cons, fzD_fv, fzL_cons, fzD_own, fzL_arms]; rfl
@[go_sem] theorem fzL_phis {l : List PhiD} : fzL (rowD phiO l) = some (l.map phiF) := fzL_rowD (fun _ => fzD_phiO) l
@[go_sem] theorem fzL_ins {l : List StepD} : fzL (rowD sF l) = some (l.map stF) := fzL_rowD (fun _ => rfl) l
@[go_sem] theorem fzD_blockO {x : BlockD} : fzD (blockO x) = some (blockF x) := by
  show fzD (.agg _) = _; rw [fzD_agg, fzL_cons, fzD_own, fzL_phis, fzL_cons, fzD_own, fzL_ins]; rfl
@[go_sem] theorem fzL_blocks {l : List BlockD} : fzL (rowD blockO l) = some (l.map blockF) := fzL_rowD (fun _ => fzD_blockO) l
def ctL {α : Type} (c : α → Nat) (l : List α) : Nat := (l.map c).sum
def mkL {α : Type} (c : α → Nat) (e : Int → α → α) : Int → List α → List α
  | _, [] => []
  | k, x :: l => e k x :: mkL c e (k + c x) l
section
variable {α : Type} {c : α → Nat} {e : Int → α → α} {l : List α} {j : Nat} {k : Int}
theorem ct_app {a b : List α} : ctL c (a ++ b) = ctL c a + ctL c b := by unfold ctL; rw [List.map_append, List.sum_append]
theorem mk_app : ∀ (k : Int) (a b : List α), mkL c e k (a ++ b) = mkL c e k a ++ mkL c e (k + ctL c a) b
  | k, [], b => by simp [mkL, ctL]
  | k, x :: a, b => by
    rw [List.cons_append, mkL, mkL, mk_app, List.cons_append, show k + (c x : Int) + (ctL c a : Int) = k + (ctL c (x :: a) : Int) by unfold ctL; rw [List.map_cons, List.sum_cons]; omega]
theorem mk_len : ∀ (k : Int) (l : List α), (mkL c e k l).length = l.length
  | _, [] => rfl
  | k, x :: l => by rw [mkL, List.length_cons, mk_len, List.length_cons]
theorem ct_take (h : j < l.length) : (ctL c (l.take (j + 1)) : Int) = (ctL c (l.take j) : Int) + (c l[j] : Int) := by
  rw [List.take_succ_eq_append_getElem h, ct_app]
  unfold ctL; simp
theorem ct_le (n : Nat) : (ctL c (l.take n) : Int) ≤ (ctL c l : Int) := by
  have h := ct_app (c := c) (a := l.take n) (b := l.drop n)
  rw [List.take_append_drop] at h
  omega
theorem mk_take (k : Int) (h : j < l.length) : mkL c e k (l.take (j + 1)) = mkL c e k (l.take j) ++ [e (k + (ctL c (l.take j) : Int)) l[j]] := by
  rw [List.take_succ_eq_append_getElem h, mk_app]; rfl
theorem mk_take_len (h : j < l.length) : (mkL c e k (l.take j)).length = j := by rw [mk_len, List.length_take]; omega
theorem row_set {o : α → DV} {a : List α} (ha : a.length = j) (h : j < l.length) (y : α) : (rowD o (a ++ l.drop j)).set j (o y) = rowD o (a ++ y :: l.drop (j + 1)) := by
  unfold rowD
  rw [List.drop_eq_getElem_cons h, List.map_append, List.map_append, List.set_append_right _ _ (by rw [List.length_map]; omega), List.length_map, ha, Nat.sub_self, List.map_cons, List.set_cons_zero, List.map_cons]
theorem row_get {o : α → DV} {a : List α} (ha : a.length = j) (h : j < l.length) : (rowD o (a ++ l.drop j))[j]? = some (o l[j]) := by
  unfold rowD
  rw [List.drop_eq_getElem_cons h, List.map_append, List.getElem?_append_right (by rw [List.length_map]; omega), List.length_map, ha, Nat.sub_self, List.map_cons, List.getElem?_cons_zero]
end
def ctA (_ : ArmD) : Nat := 2
def mkA1 (k : Int) (_ : ArmD) : ArmD := ⟨k, k + 1⟩
theorem v_markArmS (k : Int) (l : List ArmD) (hk : 0 ≤ k ∧ k + ctL ctA l < 1099511627776) (hn : l.length < 1073741824) (hb : ∀ x ∈ l, True) : C2 CC F_laws_markArmS [.own 2 (rowD armO l), iv k] (iv (k + ctL ctA l)) [.own 2 (rowD armO (mkL ctA mkA1 k l))] := by
  refine cw (keepF Tryz.f127) Tryz.f127 false ?_
  repeat' first | refine g0 ?_ | refine d0 ?_ | refine j0 (fun hg hgo => ?_) fun hg hgo => ?_ | refine ek_ret ?_ | refine ek_norm ?_ | refine ⟨by omega, ?_⟩ | rfl | trivial | intro _
  refine pw_loop (fun m st => ∃ j : Nat, j + m = l.length ∧ st = [(0, .hdr (1000000, []) 2 l.length), (1, iv (k + ctL ctA (l.take j))), (5, iv j), (1000000, .own 2 (rowD armO (mkL ctA mkA1 k (l.take j) ++ l.drop j)))]) l.length [(0, .hdr (1000000, []) 2 l.length), (1, iv (k + ctL ctA (l.take 0))), (5, iv (0 : Nat)), (1000000, .own 2 (rowD armO (mkL ctA mkA1 k (l.take 0) ++ l.drop 0)))] (sub_of ?_) ⟨0, by omega, rfl⟩ ?_
  · have h0 : k + (ctL ctA (l.take 0) : Int) = k := by rw [List.take_zero]; exact Int.add_zero k
    rw [h0, List.take_zero, mkL, List.drop_zero, List.nil_append]
    exact dn
  · rintro m st ⟨j, hj, rfl⟩
    by_cases hlt : j < l.length
    · have hd : decide ((j : Int) < (l.length : Int)) = true := by rw [decide_eq_true_eq]; omega
      have hx := hb l[j] (List.getElem_mem hlt)
      have hct := ct_take (c := ctA) hlt
      have hcl := ct_le (c := ctA) (l := l) (j + 1)
      have hm := mk_take (c := ctA) (e := mkA1) k hlt
      have hs : ∀ y : ArmD, (rowD armO (mkL ctA mkA1 k (l.take j) ++ l.drop j)).set j (armO y) = rowD armO (mkL ctA mkA1 k (l.take j) ++ y :: l.drop (j + 1)) := fun y => row_set (mk_take_len hlt) hlt y
      have hg := row_get (o := armO) (mk_take_len (c := ctA) (e := mkA1) (k := k) hlt) hlt
      have hL : (rowD armO (mkL ctA mkA1 k (l.take j) ++ l.drop j)).length = l.length := by rw [rowD_len, List.length_append, mk_take_len hlt, List.length_drop]; omega
      have hnr : noRefs (rowD armO (mkL ctA mkA1 k (l.take j) ++ l.drop j)) = true := nrs_rowD fun x => rfl
      have hm1 : rowD armO (mkL ctA mkA1 k (l.take (j + 1)) ++ l.drop (j + 1)) = (rowD armO (mkL ctA mkA1 k (l.take j) ++ l.drop j)).set j (armO (mkA1 (k + (ctL ctA (l.take j) : Int)) l[j])) := by rw [hm, List.append_assoc, List.singleton_append, ← hs]
      clear hm
      generalize rowD armO (mkL ctA mkA1 k (l.take j) ++ l.drop j) = L at hs hg hL hnr hm1
      rw [hct] at hcl
      have hk2 : k + (ctL ctA (l.take (j + 1)) : Int) = k + (ctL ctA (l.take j) : Int) + (ctA l[j] : Int) := by omega
      clear hct
      generalize hT : (ctL ctA (l.take j) : Int) = t at hcl hk2 hm1 ⊢
      skip
      have hjL : j < L.length := by omega
      have hss : ∀ d, (L.set j d)[j]? = some d := fun d => List.getElem?_set_self hjL
      repeat' first | refine g7 @hd @hL @hg @hnr @hss @List.set_set.{0} @List.length_set.{0} ?_ | refine d7 @hd @hL @hg @hnr @hss @List.set_set.{0} @List.length_set.{0} ?_ | refine j7 @hd @hL @hg @hnr @hss @List.set_set.{0} @List.length_set.{0} (fun hg hgo => ?_) fun hg hgo => ?_ | refine ek_ret ?_ | refine ek_norm ?_ | refine ⟨by omega, ?_⟩ | rfl | trivial | intro _
      refine rd_norm [(0, .hdr (1000000, []) 2 l.length), (1, iv (k + ctL ctA (l.take (j + 1)))), (5, iv (j + 1 : Nat)), (1000000, .own 2 (rowD armO (mkL ctA mkA1 k (l.take (j + 1)) ++ l.drop (j + 1))))] (sub_of ?_) (m - 1) (by omega) ⟨j + 1, by omega, rfl⟩
      rw [hk2, hm1]
      rw [show k + t + (ctA l[j] : Int) = k + t + 1 + 1 by unfold ctA; omega]
      exact dn
    · have hd : decide ((j : Int) < (l.length : Int)) = false := by rw [decide_eq_false_iff_not]; omega
      have hjn : j = l.length := by omega
      subst hjn
      rw [List.take_length]
      have h0 : rowD armO (mkL ctA mkA1 k l ++ l.drop l.length) = rowD armO (mkL ctA mkA1 k l) := by simp
      repeat' first | refine g2 @hd @h0 ?_ | refine d2 @hd @h0 ?_ | refine j2 @hd @h0 (fun hg hgo => ?_) fun hg hgo => ?_ | refine ek_ret ?_ | refine ek_norm ?_ | refine ⟨by omega, ?_⟩ | rfl | trivial | intro _
def ctP (x : PhiD) : Nat := 1 + ctL ctA x.arms
def mkP (k : Int) (x : PhiD) : PhiD := ⟨k, mkL ctA mkA1 (k + 1) x.arms⟩
theorem v_markPhiS (k : Int) (l : List PhiD) (hk : 0 ≤ k ∧ k + ctL ctP l < 1099511627776) (hn : l.length < 1073741824) (hb : ∀ x ∈ l, x.arms.length < 1073741824) : C2 CC F_laws_markPhiS [.own 2 (rowD phiO l), iv k] (iv (k + ctL ctP l)) [.own 2 (rowD phiO (mkL ctP mkP k l))] := by
  refine cw (keepF Tryz.f84) Tryz.f84 false ?_
  repeat' first | refine g0 ?_ | refine d0 ?_ | refine j0 (fun hg hgo => ?_) fun hg hgo => ?_ | refine ek_ret ?_ | refine ek_norm ?_ | refine ⟨by omega, ?_⟩ | rfl | trivial | intro _
  refine pw_loop (fun m st => ∃ j : Nat, j + m = l.length ∧ st = [(0, .hdr (1000000, []) 2 l.length), (1, iv (k + ctL ctP (l.take j))), (5, iv j), (1000000, .own 2 (rowD phiO (mkL ctP mkP k (l.take j) ++ l.drop j)))]) l.length [(0, .hdr (1000000, []) 2 l.length), (1, iv (k + ctL ctP (l.take 0))), (5, iv (0 : Nat)), (1000000, .own 2 (rowD phiO (mkL ctP mkP k (l.take 0) ++ l.drop 0)))] (sub_of ?_) ⟨0, by omega, rfl⟩ ?_
  · have h0 : k + (ctL ctP (l.take 0) : Int) = k := by rw [List.take_zero]; exact Int.add_zero k
    rw [h0, List.take_zero, mkL, List.drop_zero, List.nil_append]
    exact dn
  · rintro m st ⟨j, hj, rfl⟩
    by_cases hlt : j < l.length
    · have hd : decide ((j : Int) < (l.length : Int)) = true := by rw [decide_eq_true_eq]; omega
      have hx := hb l[j] (List.getElem_mem hlt)
      have hct := ct_take (c := ctP) hlt
      have hcl := ct_le (c := ctP) (l := l) (j + 1)
      have hm := mk_take (c := ctP) (e := mkP) k hlt
      have hs : ∀ y : PhiD, (rowD phiO (mkL ctP mkP k (l.take j) ++ l.drop j)).set j (phiO y) = rowD phiO (mkL ctP mkP k (l.take j) ++ y :: l.drop (j + 1)) := fun y => row_set (mk_take_len hlt) hlt y
      have hg := row_get (o := phiO) (mk_take_len (c := ctP) (e := mkP) (k := k) hlt) hlt
      have hL : (rowD phiO (mkL ctP mkP k (l.take j) ++ l.drop j)).length = l.length := by rw [rowD_len, List.length_append, mk_take_len hlt, List.length_drop]; omega
      have hnr : noRefs (rowD phiO (mkL ctP mkP k (l.take j) ++ l.drop j)) = true := nrs_rowD fun x => nr_phiO
      have hm1 : rowD phiO (mkL ctP mkP k (l.take (j + 1)) ++ l.drop (j + 1)) = (rowD phiO (mkL ctP mkP k (l.take j) ++ l.drop j)).set j (phiO (mkP (k + (ctL ctP (l.take j) : Int)) l[j])) := by rw [hm, List.append_assoc, List.singleton_append, ← hs]
      clear hm
      generalize rowD phiO (mkL ctP mkP k (l.take j) ++ l.drop j) = L at hs hg hL hnr hm1
      rw [hct] at hcl
      have hk2 : k + (ctL ctP (l.take (j + 1)) : Int) = k + (ctL ctP (l.take j) : Int) + (ctP l[j] : Int) := by omega
      clear hct
      generalize hT : (ctL ctP (l.take j) : Int) = t at hcl hk2 hm1 ⊢
      have hcc : (ctP l[j] : Int) = 1 + (ctL ctA l[j].arms : Int) := by unfold ctP; omega
      have hjL : j < L.length := by omega
      have hss : ∀ d, (L.set j d)[j]? = some d := fun d => List.getElem?_set_self hjL
      repeat' first | refine ck_intro (by first | exact v_markArmS _ _ (by omega) hx (fun _ _ => trivial)) ?_ ?_ | refine g7 @hd @hL @hg @hnr @hss @List.set_set.{0} @List.length_set.{0} ?_ | refine d7 @hd @hL @hg @hnr @hss @List.set_set.{0} @List.length_set.{0} ?_ | refine j7 @hd @hL @hg @hnr @hss @List.set_set.{0} @List.length_set.{0} (fun hg hgo => ?_) fun hg hgo => ?_ | refine ek_ret ?_ | refine ek_norm ?_ | refine ⟨by omega, ?_⟩ | rfl | trivial | intro _
      refine rd_norm [(0, .hdr (1000000, []) 2 l.length), (1, iv (k + ctL ctP (l.take (j + 1)))), (5, iv (j + 1 : Nat)), (1000000, .own 2 (rowD phiO (mkL ctP mkP k (l.take (j + 1)) ++ l.drop (j + 1))))] (sub_of ?_) (m - 1) (by omega) ⟨j + 1, by omega, rfl⟩
      rw [hk2, hm1]
      rw [show k + t + (ctP l[j] : Int) = k + t + 1 + (ctL ctA l[j].arms : Int) by omega]
      exact dn
    · have hd : decide ((j : Int) < (l.length : Int)) = false := by rw [decide_eq_false_iff_not]; omega
      have hjn : j = l.length := by omega
      subst hjn
      rw [List.take_length]
      have h0 : rowD phiO (mkL ctP mkP k l ++ l.drop l.length) = rowD phiO (mkL ctP mkP k l) := by simp
      repeat' first | refine g2 @hd @h0 ?_ | refine d2 @hd @h0 ?_ | refine j2 @hd @h0 (fun hg hgo => ?_) fun hg hgo => ?_ | refine ek_ret ?_ | refine ek_norm ?_ | refine ⟨by omega, ?_⟩ | rfl | trivial | intro _
def ctS (_ : StepD) : Nat := 5
def mkS5 (k : Int) (_ : StepD) : StepD := ⟨k, k + 1, k + 1 + 1, k + 1 + 1 + 1, k + 1 + 1 + 1 + 1⟩
theorem v_markInsS (k : Int) (l : List StepD) (hk : 0 ≤ k ∧ k + ctL ctS l < 1099511627776) (hn : l.length < 1073741824) (hb : ∀ x ∈ l, True) : C2 CC F_laws_markInsS [.own 5 (rowD sF l), iv k] (iv (k + ctL ctS l)) [.own 5 (rowD sF (mkL ctS mkS5 k l))] := by
  refine cw (keepF Tryz.f85) Tryz.f85 false ?_
  repeat' first | refine g0 ?_ | refine d0 ?_ | refine j0 (fun hg hgo => ?_) fun hg hgo => ?_ | refine ek_ret ?_ | refine ek_norm ?_ | refine ⟨by omega, ?_⟩ | rfl | trivial | intro _
  refine pw_loop (fun m st => ∃ j : Nat, j + m = l.length ∧ st = [(0, .hdr (1000000, []) 5 l.length), (1, iv (k + ctL ctS (l.take j))), (5, iv j), (1000000, .own 5 (rowD sF (mkL ctS mkS5 k (l.take j) ++ l.drop j)))]) l.length [(0, .hdr (1000000, []) 5 l.length), (1, iv (k + ctL ctS (l.take 0))), (5, iv (0 : Nat)), (1000000, .own 5 (rowD sF (mkL ctS mkS5 k (l.take 0) ++ l.drop 0)))] (sub_of ?_) ⟨0, by omega, rfl⟩ ?_
  · have h0 : k + (ctL ctS (l.take 0) : Int) = k := by rw [List.take_zero]; exact Int.add_zero k
    rw [h0, List.take_zero, mkL, List.drop_zero, List.nil_append]
    exact dn
  · rintro m st ⟨j, hj, rfl⟩
    by_cases hlt : j < l.length
    · have hd : decide ((j : Int) < (l.length : Int)) = true := by rw [decide_eq_true_eq]; omega
      have hx := hb l[j] (List.getElem_mem hlt)
      have hct := ct_take (c := ctS) hlt
      have hcl := ct_le (c := ctS) (l := l) (j + 1)
      have hm := mk_take (c := ctS) (e := mkS5) k hlt
      have hs : ∀ y : StepD, (rowD sF (mkL ctS mkS5 k (l.take j) ++ l.drop j)).set j (sF y) = rowD sF (mkL ctS mkS5 k (l.take j) ++ y :: l.drop (j + 1)) := fun y => row_set (mk_take_len hlt) hlt y
      have hg := row_get (o := sF) (mk_take_len (c := ctS) (e := mkS5) (k := k) hlt) hlt
      have hL : (rowD sF (mkL ctS mkS5 k (l.take j) ++ l.drop j)).length = l.length := by rw [rowD_len, List.length_append, mk_take_len hlt, List.length_drop]; omega
      have hnr : noRefs (rowD sF (mkL ctS mkS5 k (l.take j) ++ l.drop j)) = true := nrs_rowD fun x => rfl
      have hm1 : rowD sF (mkL ctS mkS5 k (l.take (j + 1)) ++ l.drop (j + 1)) = (rowD sF (mkL ctS mkS5 k (l.take j) ++ l.drop j)).set j (sF (mkS5 (k + (ctL ctS (l.take j) : Int)) l[j])) := by rw [hm, List.append_assoc, List.singleton_append, ← hs]
      clear hm
      generalize rowD sF (mkL ctS mkS5 k (l.take j) ++ l.drop j) = L at hs hg hL hnr hm1
      rw [hct] at hcl
      have hk2 : k + (ctL ctS (l.take (j + 1)) : Int) = k + (ctL ctS (l.take j) : Int) + (ctS l[j] : Int) := by omega
      clear hct
      generalize hT : (ctL ctS (l.take j) : Int) = t at hcl hk2 hm1 ⊢
      skip
      have hjL : j < L.length := by omega
      have hss : ∀ d, (L.set j d)[j]? = some d := fun d => List.getElem?_set_self hjL
      repeat' first | refine g7 @hd @hL @hg @hnr @hss @List.set_set.{0} @List.length_set.{0} ?_ | refine d7 @hd @hL @hg @hnr @hss @List.set_set.{0} @List.length_set.{0} ?_ | refine j7 @hd @hL @hg @hnr @hss @List.set_set.{0} @List.length_set.{0} (fun hg hgo => ?_) fun hg hgo => ?_ | refine ek_ret ?_ | refine ek_norm ?_ | refine ⟨by omega, ?_⟩ | rfl | trivial | intro _
      refine rd_norm [(0, .hdr (1000000, []) 5 l.length), (1, iv (k + ctL ctS (l.take (j + 1)))), (5, iv (j + 1 : Nat)), (1000000, .own 5 (rowD sF (mkL ctS mkS5 k (l.take (j + 1)) ++ l.drop (j + 1))))] (sub_of ?_) (m - 1) (by omega) ⟨j + 1, by omega, rfl⟩
      rw [hk2, hm1]
      rw [show k + t + (ctS l[j] : Int) = k + t + 1 + 1 + 1 + 1 + 1 by unfold ctS; omega]
      exact dn
    · have hd : decide ((j : Int) < (l.length : Int)) = false := by rw [decide_eq_false_iff_not]; omega
      have hjn : j = l.length := by omega
      subst hjn
      rw [List.take_length]
      have h0 : rowD sF (mkL ctS mkS5 k l ++ l.drop l.length) = rowD sF (mkL ctS mkS5 k l) := by simp
      repeat' first | refine g2 @hd @h0 ?_ | refine d2 @hd @h0 ?_ | refine j2 @hd @h0 (fun hg hgo => ?_) fun hg hgo => ?_ | refine ek_ret ?_ | refine ek_norm ?_ | refine ⟨by omega, ?_⟩ | rfl | trivial | intro _
def ctB (x : BlockD) : Nat := ctL ctP x.phis + ctL ctS x.list + 4
def mkT (k : Int) : TermD := ⟨k, k + 1, k + 1 + 1, k + 1 + 1 + 1⟩
def mkBk (k : Int) (x : BlockD) : BlockD := ⟨mkL ctP mkP k x.phis, mkL ctS mkS5 (k + ctL ctP x.phis) x.list, mkT (k + ctL ctP x.phis + ctL ctS x.list)⟩
theorem v_markBlockS (k : Int) (l : List BlockD) (hk : 0 ≤ k ∧ k + ctL ctB l < 1099511627776) (hn : l.length < 1073741824) (hb : ∀ x ∈ l, x.ok) : C2 CC F_laws_markBlockS [.own 6 (rowD blockO l), iv k] (iv (k + ctL ctB l)) [.own 6 (rowD blockO (mkL ctB mkBk k l))] := by
  refine cw (keepF Tryz.f39) Tryz.f39 false ?_
  repeat' first | refine g0 ?_ | refine d0 ?_ | refine j0 (fun hg hgo => ?_) fun hg hgo => ?_ | refine ek_ret ?_ | refine ek_norm ?_ | refine ⟨by omega, ?_⟩ | rfl | trivial | intro _
  refine pw_loop (fun m st => ∃ j : Nat, j + m = l.length ∧ st = [(0, .hdr (1000000, []) 6 l.length), (1, iv (k + ctL ctB (l.take j))), (5, iv j), (1000000, .own 6 (rowD blockO (mkL ctB mkBk k (l.take j) ++ l.drop j)))]) l.length [(0, .hdr (1000000, []) 6 l.length), (1, iv (k + ctL ctB (l.take 0))), (5, iv (0 : Nat)), (1000000, .own 6 (rowD blockO (mkL ctB mkBk k (l.take 0) ++ l.drop 0)))] (sub_of ?_) ⟨0, by omega, rfl⟩ ?_
  · have h0 : k + (ctL ctB (l.take 0) : Int) = k := by rw [List.take_zero]; exact Int.add_zero k
    rw [h0, List.take_zero, mkL, List.drop_zero, List.nil_append]
    exact dn
  · rintro m st ⟨j, hj, rfl⟩
    by_cases hlt : j < l.length
    · have hd : decide ((j : Int) < (l.length : Int)) = true := by rw [decide_eq_true_eq]; omega
      have hx := hb l[j] (List.getElem_mem hlt)
      have hct := ct_take (c := ctB) hlt
      have hcl := ct_le (c := ctB) (l := l) (j + 1)
      have hm := mk_take (c := ctB) (e := mkBk) k hlt
      have hs : ∀ y : BlockD, (rowD blockO (mkL ctB mkBk k (l.take j) ++ l.drop j)).set j (blockO y) = rowD blockO (mkL ctB mkBk k (l.take j) ++ y :: l.drop (j + 1)) := fun y => row_set (mk_take_len hlt) hlt y
      have hg := row_get (o := blockO) (mk_take_len (c := ctB) (e := mkBk) (k := k) hlt) hlt
      have hL : (rowD blockO (mkL ctB mkBk k (l.take j) ++ l.drop j)).length = l.length := by rw [rowD_len, List.length_append, mk_take_len hlt, List.length_drop]; omega
      have hnr : noRefs (rowD blockO (mkL ctB mkBk k (l.take j) ++ l.drop j)) = true := nrs_rowD fun x => nr_blockO
      have hm1 : rowD blockO (mkL ctB mkBk k (l.take (j + 1)) ++ l.drop (j + 1)) = (rowD blockO (mkL ctB mkBk k (l.take j) ++ l.drop j)).set j (blockO (mkBk (k + (ctL ctB (l.take j) : Int)) l[j])) := by rw [hm, List.append_assoc, List.singleton_append, ← hs]
      clear hm
      generalize rowD blockO (mkL ctB mkBk k (l.take j) ++ l.drop j) = L at hs hg hL hnr hm1
      rw [hct] at hcl
      have hk2 : k + (ctL ctB (l.take (j + 1)) : Int) = k + (ctL ctB (l.take j) : Int) + (ctB l[j] : Int) := by omega
      clear hct
      generalize hT : (ctL ctB (l.take j) : Int) = t at hcl hk2 hm1 ⊢
      have hcc : (ctB l[j] : Int) = (ctL ctP l[j].phis : Int) + (ctL ctS l[j].list : Int) + 4 := by unfold ctB; omega
      have hjL : j < L.length := by omega
      have hss : ∀ d, (L.set j d)[j]? = some d := fun d => List.getElem?_set_self hjL
      repeat' first | refine ck_intro (by first | exact v_markPhiS _ _ (by omega) hx.1 hx.2.1 | exact v_markInsS _ _ (by omega) hx.2.2 (fun _ _ => trivial)) ?_ ?_ | refine g7 @hd @hL @hg @hnr @hss @List.set_set.{0} @List.length_set.{0} ?_ | refine d7 @hd @hL @hg @hnr @hss @List.set_set.{0} @List.length_set.{0} ?_ | refine j7 @hd @hL @hg @hnr @hss @List.set_set.{0} @List.length_set.{0} (fun hg hgo => ?_) fun hg hgo => ?_ | refine ek_ret ?_ | refine ek_norm ?_ | refine ⟨by omega, ?_⟩ | rfl | trivial | intro _
      refine rd_norm [(0, .hdr (1000000, []) 6 l.length), (1, iv (k + ctL ctB (l.take (j + 1)))), (5, iv (j + 1 : Nat)), (1000000, .own 6 (rowD blockO (mkL ctB mkBk k (l.take (j + 1)) ++ l.drop (j + 1))))] (sub_of ?_) (m - 1) (by omega) ⟨j + 1, by omega, rfl⟩
      rw [hk2, hm1]
      rw [show k + t + (ctB l[j] : Int) = k + t + (ctL ctP l[j].phis : Int) + (ctL ctS l[j].list : Int) + 1 + 1 + 1 + 1 by omega]
      exact dn
    · have hd : decide ((j : Int) < (l.length : Int)) = false := by rw [decide_eq_false_iff_not]; omega
      have hjn : j = l.length := by omega
      subst hjn
      rw [List.take_length]
      have h0 : rowD blockO (mkL ctB mkBk k l ++ l.drop l.length) = rowD blockO (mkL ctB mkBk k l) := by simp
      repeat' first | refine g2 @hd @h0 ?_ | refine d2 @hd @h0 ?_ | refine j2 @hd @h0 (fun hg hgo => ?_) fun hg hgo => ?_ | refine ek_ret ?_ | refine ek_norm ?_ | refine ⟨by omega, ?_⟩ | rfl | trivial | intro _
def ctF (x : FnD) : Nat := ctL ctB x.blocks
theorem v_markFn (k : Int) (x : FnD) (hk : 0 ≤ k ∧ k + ctF x < 1099511627776) (hx : x.ok) : C2 CC F_laws_markFn [fnO x, iv k] (iv (k + ctF x)) [.junk 1] := by
  have h1 := v_markBlockS k x.blocks hk hx.1 hx.2
  obtain ⟨blocks, values⟩ := x
  unfold ctF at *
  refine cw (keepF Tryz.f12) Tryz.f12 false ?_
  repeat' first | refine ck_intro (by first | exact h1) ?_ ?_ | refine g0 ?_ | refine d0 ?_ | refine j0 (fun hg hgo => ?_) fun hg hgo => ?_ | refine ek_ret ?_ | refine ek_norm ?_ | refine ⟨by omega, ?_⟩ | rfl | trivial | intro _
theorem szL_ct {α : Type} {e : α → Int → Int} {c : α → Nat} (he : ∀ x left, 0 ≤ left ∧ left ≤ 1048576 → e x left ≤ left ∧ (0 ≤ e x left → (c x : Int) + 5 * e x left ≤ 5 * left + 5)) : ∀ (l : List α) (left : Int), 0 ≤ left ∧ left ≤ 1048576 → 0 ≤ szL e l left → (ctL c l : Int) + 5 * szL e l left ≤ 5 * left + 5 * (l.length : Int)
  | [], left, h, hz => by unfold szL ctL; simp
  | x :: l, left, h, hz => by
    have h1 := he x left h
    unfold szL at hz ⊢
    split at hz
    · omega
    · rename_i hn
      rw [if_neg hn]
      have h2 := szL_ct he l (e x left) (by omega) hz
      have h3 : (ctL c (x :: l) : Int) = (c x : Int) + (ctL c l : Int) := by unfold ctL; rw [List.map_cons, List.sum_cons]; omega
      have h4 := h1.2 (by omega)
      rw [h3, List.length_cons]
      omega
theorem szRow_ct {α : Type} {e : α → Int → Int} {c : α → Nat} (he : ∀ x left, 0 ≤ left ∧ left ≤ 1048576 → e x left ≤ left ∧ (0 ≤ e x left → (c x : Int) + 5 * e x left ≤ 5 * left + 5)) (l : List α) (left : Int) (h : 0 ≤ left ∧ left ≤ 1048576) (hz : 0 ≤ szRow e l left) : (ctL c l : Int) + 5 * szRow e l left ≤ 5 * left := by
  unfold szRow at hz ⊢
  split at hz
  · omega
  · rename_i hn
    rw [if_neg hn]
    have := szL_ct he l (left - l.length) (by omega) hz
    omega
theorem szP_ct (x : PhiD) (left : Int) (h : 0 ≤ left ∧ left ≤ 1048576) : szP x left ≤ left ∧ (0 ≤ szP x left → (ctP x : Int) + 5 * szP x left ≤ 5 * left + 5) := by
  refine ⟨(szP_le x left h).1, fun hz => ?_⟩
  have hc : (ctL ctA x.arms : Int) = 2 * (x.arms.length : Int) := by
    unfold ctL
    generalize x.arms = l
    induction l with
    | nil => rfl
    | cons a l ih => rw [List.map_cons, List.sum_cons, List.length_cons, show ctA a = 2 from rfl]; omega
  unfold szP sub1 at hz ⊢
  unfold ctP
  split at hz
  · omega
  · rename_i hn; rw [if_neg hn]; omega
theorem szB_ct (x : BlockD) (left : Int) (h : 0 ≤ left ∧ left ≤ 1048576) : szB x left ≤ left ∧ (0 ≤ szB x left → (ctB x : Int) + 5 * szB x left ≤ 5 * left + 5) := by
  refine ⟨(szB_le x left h).1, fun hz => ?_⟩
  have hc : (ctL ctS x.list : Int) = 5 * (x.list.length : Int) := by
    unfold ctL
    generalize x.list = l
    induction l with
    | nil => rfl
    | cons a l ih => rw [List.map_cons, List.sum_cons, List.length_cons, show ctS a = 5 from rfl]; omega
  unfold szB at hz ⊢
  unfold ctB
  split at hz
  · omega
  · rename_i hn
    rw [if_neg hn]
    have h1 := szRow_ct (c := ctP) szP_ct x.phis left h (by omega)
    unfold sub1 at hz ⊢
    split at hz
    · omega
    · rename_i hm; rw [if_neg hm]; omega
theorem ctF_le (x : FnD) (hz : 0 ≤ szFn x 1048576) : (ctF x : Int) ≤ 5242880 := by
  unfold szFn at hz
  split at hz
  · omega
  · have := szRow_ct (c := ctB) szB_ct x.blocks 1048576 (by omega) hz
    unfold ctF
    omega
theorem maxLen_eq : maxLen = 9223372036854775807 := by decide
theorem ty_fn {Γ : TypeId → Option TI} {g : Nat} {t ti tb eb tp tl tt ep ta ea ei : TypeId} {v : FV} {a0 b0 a1 b1 b2 a3 b3 b4 a5 b5 b6 a7 b7 : Nat} {zi z0 z1 z2 z3 z4 z5 z6 z7 z8 z9 : List Value} {m n1 n2 n3 n4 : Nat}
    (hv : TyF Γ g t v) (ht : Γ t = some ⟨.struct [(0, tb), (1, ti)], a0, b0, z0⟩) (hi : Γ ti = some ⟨.int .i64, m, n1, zi⟩)
    (hb : Γ tb = some ⟨.slice eb, a1, b1, z1⟩) (heb : Γ eb = some ⟨.struct [(0, tp), (1, tl), (2, tt)], 6, b2, z2⟩)
    (hp : Γ tp = some ⟨.slice ep, a3, b3, z3⟩) (hep : Γ ep = some ⟨.struct [(0, ti), (1, ta)], 2, b4, z4⟩)
    (hta : Γ ta = some ⟨.slice ea, a5, b5, z5⟩) (hea : Γ ea = some ⟨.struct [(0, ti), (1, ti)], 2, b6, z6⟩)
    (hl : Γ tl = some ⟨.slice ei, a7, b7, z7⟩) (hei : Γ ei = some ⟨.struct [(0, ti), (1, ti), (2, ti), (3, ti), (4, ti)], 5, n2, z8⟩)
    (htt : Γ tt = some ⟨.struct [(0, ti), (1, ti), (2, ti), (3, ti)], n3, n4, z9⟩) : ∃ x : FnD, v = fnF x ∧ x.ln := by
  obtain ⟨x0, x1, g', rfl, h0, h1⟩ := tyF_struct2 hv ht
  obtain ⟨n, rfl, -⟩ := ty_int h1 hi
  have arm : ∀ g x, TyF Γ g ea x → ∃ a : ArmD, x = armF a ∧ True := fun g x hx => by
    obtain ⟨y0, y1, g', rfl, k0, k1⟩ := tyF_struct2 hx hea
    obtain ⟨n0, rfl, -⟩ := ty_int k0 hi
    obtain ⟨n1, rfl, -⟩ := ty_int k1 hi
    exact ⟨⟨n0, n1⟩, rfl, trivial⟩
  have phi : ∀ g x, TyF Γ g ep x → ∃ a : PhiD, x = phiF a ∧ a.ln := fun g x hx => by
    obtain ⟨y0, y1, g', rfl, k0, k1⟩ := tyF_struct2 hx hep
    obtain ⟨n0, rfl, -⟩ := ty_int k0 hi
    obtain ⟨l, rfl, -, hl⟩ := tyF_row k1 hta hea arm
    exact ⟨⟨n0, l⟩, rfl, by rw [maxLen_eq] at hl; exact hl⟩
  have ins : ∀ g x, TyF Γ g ei x → ∃ a : StepD, x = stF a ∧ True := fun g x hx => by
    obtain ⟨a, rfl, -⟩ := ty_step hx hei hi
    exact ⟨a, rfl, trivial⟩
  have blk : ∀ g x, TyF Γ g eb x → ∃ a : BlockD, x = blockF a ∧ a.ln := fun g x hx => by
    obtain ⟨y0, y1, y2, g', rfl, k0, k1, k2⟩ := tyF_struct3 hx heb
    obtain ⟨l0, rfl, q0, m0⟩ := tyF_row k0 hp hep phi
    obtain ⟨l1, rfl, -, m1⟩ := tyF_row k1 hl hei ins
    obtain ⟨w0, w1, w2, w3, g2, rfl, e0, e1, e2, e3⟩ := tyF_struct4 k2 htt
    obtain ⟨n0, rfl, -⟩ := ty_int e0 hi
    obtain ⟨n1, rfl, -⟩ := ty_int e1 hi
    obtain ⟨n2, rfl, -⟩ := ty_int e2 hi
    obtain ⟨n3, rfl, -⟩ := ty_int e3 hi
    exact ⟨⟨l0, l1, ⟨n0, n1, n2, n3⟩⟩, rfl, by rw [maxLen_eq] at m0; exact m0, q0, by rw [maxLen_eq] at m1; exact m1⟩
  obtain ⟨l, rfl, q, m⟩ := tyF_row h0 hb heb blk
  exact ⟨⟨l, n⟩, rfl, by rw [maxLen_eq] at m; exact m, q⟩
theorem mach_len {l : List StepD} (h : machB l = true) : l.length ≤ 900 := by
  unfold machB at h; simp only [Bool.and_eq_true, decide_eq_true_eq] at h; omega
theorem v_FnExactEmit (x : FnD) (hx : x.ln) : C2 CC F_laws_FnExactEmit [.fv (fnF x)] (bv true) [] := by
  have hz := v_szFn x 1048576 (by omega) hx
  by_cases h0 : szFn x 1048576 < 0
  · have hd : decide (szFn x 1048576 < 0) = true := by rw [decide_eq_true_eq]; exact h0
    refine cw (keepF Tryz.f3) Tryz.f3 false ?_
    repeat' first | refine ck_intro (by first | exact hz) ?_ ?_ | refine pdx 41 [0, 0, 2, 7, 15] [2, 1, 6, 5, 0] ?_ | refine g1 @hd ?_ | refine d1 @hd ?_ | refine j1 @hd (fun hg hgo => ?_) fun hg hgo => ?_ | refine ek_ret ?_ | refine ek_norm ?_ | refine ⟨by omega, ?_⟩ | rfl | trivial | intro _
  · have hd : decide (szFn x 1048576 < 0) = false := by rw [decide_eq_false_iff_not]; exact h0
    obtain ⟨-, -, hok⟩ := szFn_ok x (by omega)
    have ht := v_toFn x hok
    have hcF := ctF_le x (by omega)
    have he := v_eqFn x x hok hok
    rw [decide_eq_true (rfl : x = x)] at he
    have hm := v_markFn 1 x ⟨by omega, by omega⟩ hok
    have hkm : decide ((1 : Int) + (ctF x : Int) < 0) = false := by rw [decide_eq_false_iff_not]; omega
    have hs := v_Emit_spec x hok
    have hi := v_Emit x hok
    cases hp : emitB x with
    | false =>
      rw [hp, if_neg (by decide)] at hs hi
      rw [steps_nil] at hs
      refine cw (keepF Tryz.f3) Tryz.f3 false ?_
      repeat' first | refine ck_intro (by first | exact hz | exact ht | exact hs | exact hi | exact he | exact hm | exact eqNil | exact markNil | exact heldNil) ?_ ?_ | refine pdx 41 [0, 0, 2, 7, 15] [2, 1, 6, 5, 0] ?_ | refine g2 @hd @hkm ?_ | refine d2 @hd @hkm ?_ | refine j2 @hd @hkm (fun hg hgo => ?_) fun hg hgo => ?_ | refine ek_ret ?_ | refine ek_norm ?_ | refine ⟨by omega, ?_⟩ | rfl | trivial | intro _
      all_goals (exfalso; omega)
    | true =>
      rw [hp, if_pos rfl] at hs hi
      have hb : (codeE x).length ≤ 900 := mach_len (by unfold emitB at hp; simp only [Bool.and_eq_true] at hp; exact hp.2)
      generalize codeE x = r at hs hi hb
      have hq := v_eqStepS r r (by omega) (by omega)
      rw [decide_eq_true (rfl : r = r)] at hq
      have hmr := v_markStepS 1 r (by decide) (by omega)
      have hhr := v_heldStepS 1 r.length (by decide) (by omega)
      have hml := markL_len 1 r.length
      have hkr : decide ((1 : Int) + 5 * (r.length : Int) < 0) = false := by rw [decide_eq_false_iff_not]; omega
      refine cw (keepF Tryz.f3) Tryz.f3 false ?_
      repeat' first | refine ck_intro (by first | exact hz | exact ht | exact hs | exact hi | exact he | exact hm | exact hq | exact hmr | exact hhr) ?_ ?_ | refine pdx 41 [0, 0, 2, 7, 15] [2, 1, 6, 5, 0] ?_ | refine g3 @hd @hkm @hkr ?_ | refine d3 @hd @hkm @hkr ?_ | refine j3 @hd @hkm @hkr (fun hg hgo => ?_) fun hg hgo => ?_ | refine ek_ret ?_ | refine ek_norm ?_ | refine ⟨by omega, ?_⟩ | rfl | trivial | intro _
      all_goals (exfalso; omega)
end Go.Proofs.YtbfphlaeiahljaaGreatM
