import Derived.Test.YtpinapckafbkiaaVBS1
import Derived.Test.YtpinapckafbkiaaVBMvm
namespace Go.Proofs.YtpinapckafbkiaaM
open Go
set_option linter.unusedVariables false
set_option linter.unusedSimpArgs false
set_option maxRecDepth 100000
set_option maxHeartbeats 4000000
attribute [local irreducible] PW CK EK C2 PXM XK LX axK rdK thK blK FK SK LK AK GK CD unK TT keK
theorem v_put2 (L l : List Int) (hl : l.length ≤ 1000) (hL : L.length ≤ 1000000) : C2 CC F_impl_packer_put [.box (.agg [.own 1 (bys (pkL L)), bv (!L.all numOk)]), .fv (.row 1 (l.map (.int .i64)))] (.tup []) [.box (.agg [.own 1 (bys (pkL (L ++ l))), bv (!(L ++ l).all numOk)])] := by
  have h1 := pkL_len L
  have h := v_put (pkL L) (!L.all numOk) l hl (by omega)
  have e : (!(L ++ l).all numOk) = (!L.all numOk || !l.all numOk) := by rw [List.all_append, Bool.not_and]
  rw [pkL_app, e]
  exact h
theorem v_put0 (l : List Int) (hl : l.length ≤ 1000) (h0 : 0 < l.length) (hok : l.all numOk = true) : C2 CC F_impl_packer_put [.box (.fv (.agg [.nil, .bool false])), .fv (.row 1 (l.map (.int .i64)))] (.tup []) [.box (.agg [.own 1 (bys (pkL l)), bv (!l.all numOk)])] := by
  rw [hok]
  show C2 CC F_impl_packer_put _ _ [.box (.agg [.own 1 (bys (pkL l)), bv false])]
  refine cw (keepF Try.f39) Try.f39 false ?_
  repeat' first | refine g0 ?_ | refine d0 ?_ | refine j0 (fun hg hgo => ?_) fun hg hgo => ?_ | refine ek_ret ?_ | refine ek_norm ?_ | refine ⟨by omega, ?_⟩ | rfl | trivial | intro _
  refine pw_loop (fun m st => ∃ j : Nat, j + m = l.length ∧ ((j = 0 ∧ st = [(0, .ptr (1000000, []) [0] 0), (7, .fv (.row 1 (l.map (.int .i64)))), (8, iv l.length), (9, iv (0 : Nat)), (1000000, .box (.fv (.agg [.nil, .bool false])))]) ∨ (0 < j ∧ st = [(0, .ptr (1000000, []) [0] 0), (7, .fv (.row 1 (l.map (.int .i64)))), (8, iv l.length), (9, iv j), (1000000, .box (.agg [.own 1 (bys (pkL (l.take j))), bv false]))]))) l.length [(0, .ptr (1000000, []) [0] 0), (7, .fv (.row 1 (l.map (.int .i64)))), (8, iv l.length), (9, iv (0 : Nat)), (1000000, .box (.fv (.agg [.nil, .bool false])))] (sub_of ?_) ⟨0, by omega, .inl ⟨rfl, rfl⟩⟩ ?_
  · exact dn
  · rintro m st ⟨j, hj, hst⟩
    by_cases hlt : j < l.length
    · have hd : decide ((j : Int) < (l.length : Int)) = true := by rw [decide_eq_true_eq]; omega
      have hml : j < (l.map (FV.int .i64)).length := by rw [List.length_map]; exact hlt
      have hn := all_at hok hlt
      have k := v_PackNum l[j] hn
      have hlen := pkL_len (l.take j)
      rw [List.length_take] at hlen
      have e1 : l.take (j + 1) = l.take j ++ [l[j]] := List.take_succ_eq_append_getElem hlt
      have hp := (packI_ok hn).1
      have hap : bys (pkL (l.take j)) ++ bys (packI l[j]) = bys (pkL (l.take (j + 1))) := by
        rw [e1, pkL_app, pkL_cons, pkL_nil, List.append_nil, pk1, if_pos hn]; unfold bys; simp
      rcases hst with ⟨rfl, rfl⟩ | ⟨hj0, rfl⟩
      · have hap0 : bys (packI l[0]) = bys (pkL (l.take 1)) := by rw [← hap]; rfl
        have hem : (bys (pkL (l.take 1))).isEmpty = false := by
          rw [← hap0]; have := (packI_ok hn).2.1
          cases hq : packI l[0] with
          | nil => rw [hq] at this; cases this
          | cons a t => rfl
        have hl1 := pkL_len (l.take 1)
        rw [List.length_take] at hl1
        have hd0 : decide (((0 : Nat) : Int) < (l.length : Int)) = true := hd
        repeat' first | refine ck_intro (by first | exact k) ?_ ?_ | refine g3 @hd0 @hap0 @hem ?_ | refine d3 @hd0 @hap0 @hem ?_ | refine j3 @hd0 @hap0 @hem (fun hg hgo => ?_) fun hg hgo => ?_ | refine ek_ret ?_ | refine ek_norm ?_ | refine ⟨by omega, ?_⟩ | rfl | trivial | intro _
        refine rd_norm [(0, .ptr (1000000, []) [0] 0), (7, .fv (.row 1 (l.map (.int .i64)))), (8, iv l.length), (9, iv (1 : Nat)), (1000000, .box (.agg [.own 1 (bys (pkL (l.take 1))), bv false]))] (sub_of ?_) (m - 1) (by omega) ⟨(0 + 1 : Nat), (by omega : 0 + 1 + (m - 1) = l.length), Or.inr ⟨(by decide : 0 < 0 + 1), rfl⟩⟩
        · exact dn
        · exfalso; omega
      · repeat' first | refine ck_intro (by first | exact k) ?_ ?_ | refine g2 @hd @hap ?_ | refine d2 @hd @hap ?_ | refine j2 @hd @hap (fun hg hgo => ?_) fun hg hgo => ?_ | refine ek_ret ?_ | refine ek_norm ?_ | refine ⟨by omega, ?_⟩ | rfl | trivial | intro _
        refine rd_norm [(0, .ptr (1000000, []) [0] 0), (7, .fv (.row 1 (l.map (.int .i64)))), (8, iv l.length), (9, iv (j + 1 : Nat)), (1000000, .box (.agg [.own 1 (bys (pkL (l.take (j + 1)))), bv false]))] (sub_of ?_) (m - 1) (by omega) ⟨j + 1, by omega, .inr ⟨by omega, rfl⟩⟩
        exact dn
    · have hd : decide ((j : Int) < (l.length : Int)) = false := by rw [decide_eq_false_iff_not]; omega
      rcases hst with ⟨rfl, rfl⟩ | ⟨hj0, rfl⟩
      · exfalso; omega
      · rw [List.take_of_length_le (by omega : l.length ≤ j)]
        repeat' first | refine g1 @hd ?_ | refine d1 @hd ?_ | refine j1 @hd (fun hg hgo => ?_) fun hg hgo => ?_ | refine ek_ret ?_ | refine ek_norm ?_ | refine ⟨by omega, ?_⟩ | rfl | trivial | intro _
theorem v_PackFn (f : FnD) (hf : f.ok) (hs : shapeB f = true) : C2 CC F_impl_PackFn [.fv (fnF f)] (.tup [if nsOk f = true then .own 1 (bys (pkL (numsF f))) else .fv .nil, bv (nsOk f)]) [] := by
  have h1 := v_ShapeOk f hf
  have hsb : f.blocks.all (fun b => blockB b f.blocks.length f.values) = true := by
    unfold shapeB at hs; rw [Bool.and_eq_true] at hs; exact hs.2
  rw [hs] at h1
  have hvb : (0 ≤ f.values ∧ f.values ≤ 80) ∧ f.blocks.length ≤ 16 := by
    unfold shapeB rgB at hs; simp only [Bool.and_eq_true, decide_eq_true_eq] at hs; omega
  have k0 := v_put0 [f.values, (f.blocks.length : Int)] (by simp) (by simp) (small_all fun x hx => by simp at hx; omega)
  refine cw (keepF Try.f10) Try.f10 false ?_
  repeat' first | refine ck_intro (by first | exact h1 | exact k0) ?_ ?_ | refine g2 @ints_cons @ints_nil ?_ | refine d2 @ints_cons @ints_nil ?_ | refine j2 @ints_cons @ints_nil (fun hg hgo => ?_) fun hg hgo => ?_ | refine ek_ret ?_ | refine ek_norm ?_ | refine ⟨by omega, ?_⟩ | rfl | trivial | intro _
  refine pw_loop (fun m st => ∃ j : Nat, j + m = f.blocks.length ∧ st = [(4, .box (.agg [.own 1 (bys (pkL ([f.values, (f.blocks.length : Int)] ++ (f.blocks.take j).flatMap numsB))), bv (!([f.values, (f.blocks.length : Int)] ++ (f.blocks.take j).flatMap numsB).all numOk)])), (27, .fv (.row 6 (f.blocks.map blockF))), (28, iv f.blocks.length), (29, iv j)]) f.blocks.length [(4, .box (.agg [.own 1 (bys (pkL ([f.values, (f.blocks.length : Int)] ++ (f.blocks.take 0).flatMap numsB))), bv (!([f.values, (f.blocks.length : Int)] ++ (f.blocks.take 0).flatMap numsB).all numOk)])), (27, .fv (.row 6 (f.blocks.map blockF))), (28, iv f.blocks.length), (29, iv (0 : Nat))] (sub_of ?_) ⟨0, by omega, rfl⟩ ?_
  · rw [List.take_zero, List.flatMap_nil, List.append_nil]
    exact dn
  · rintro m st ⟨j, hj, rfl⟩
    by_cases hlt : j < f.blocks.length
    · have hd : decide ((j : Int) < (f.blocks.length : Int)) = true := by rw [decide_eq_true_eq]; omega
      have hml : j < (f.blocks.map blockF).length := by rw [List.length_map]; exact hlt
      have hblk := all_at hsb hlt
      have hPl : ([f.values, (f.blocks.length : Int)] ++ (f.blocks.take j).flatMap numsB).length ≤ 20000 := by
        have := flat_le (g := numsB) (c := 1000) (l := f.blocks.take j) fun b hb => numsB_len (n := f.blocks.length) (v := f.values) (all_mem (p := fun b => blockB b f.blocks.length f.values) (x := b) hsb (List.mem_of_mem_take hb))
        have h16 := shape_len hs
        rw [List.length_take] at this
        simp only [List.length_append, List.length_cons, List.length_nil]; omega
      have eB : [f.values, (f.blocks.length : Int)] ++ (f.blocks.take (j + 1)).flatMap numsB = [f.values, (f.blocks.length : Int)] ++ (f.blocks.take j).flatMap numsB ++ numsB f.blocks[j] := by
        rw [List.take_succ_eq_append_getElem hlt, List.flatMap_append, List.flatMap_cons, List.flatMap_nil, List.append_nil, List.append_assoc]
      generalize hPP : [f.values, (f.blocks.length : Int)] ++ (f.blocks.take j).flatMap numsB = P at hPl eB ⊢
      have k0 := v_put2 P [(f.blocks[j].phis.length : Int)] (by simp) (by omega)
      repeat' first | refine ck_intro (by first | exact k0) ?_ ?_ | refine g3 @hd @ints_cons @ints_nil ?_ | refine d3 @hd @ints_cons @ints_nil ?_ | refine j3 @hd @ints_cons @ints_nil (fun hg hgo => ?_) fun hg hgo => ?_ | refine ek_ret ?_ | refine ek_norm ?_ | refine ⟨by omega, ?_⟩ | rfl | trivial | intro _
      clear k0
      generalize f.blocks[j] = b at hblk eB ⊢
      refine pw_loop (fun m st => ∃ i : Nat, i + m = b.phis.length ∧ st = [(4, .box (.agg [.own 1 (bys (pkL (P ++ [(b.phis.length : Int)] ++ (b.phis.take i).flatMap numsP))), bv (!(P ++ [(b.phis.length : Int)] ++ (b.phis.take i).flatMap numsP).all numOk)])), (27, .fv (.row 6 (f.blocks.map blockF))), (28, iv f.blocks.length), (29, iv j), (6, .box (.fv (blockF b))), (40, .fv (.row 2 (b.phis.map phiF))), (41, iv b.phis.length), (42, iv i)]) b.phis.length [(4, .box (.agg [.own 1 (bys (pkL (P ++ [(b.phis.length : Int)] ++ (b.phis.take 0).flatMap numsP))), bv (!(P ++ [(b.phis.length : Int)] ++ (b.phis.take 0).flatMap numsP).all numOk)])), (27, .fv (.row 6 (f.blocks.map blockF))), (28, iv f.blocks.length), (29, iv j), (6, .box (.fv (blockF b))), (40, .fv (.row 2 (b.phis.map phiF))), (41, iv b.phis.length), (42, iv (0 : Nat))] (sub_of ?_) ⟨0, by omega, rfl⟩ ?_
      · rw [List.take_zero, List.flatMap_nil, List.append_nil]
        exact dn
      · rintro m1 st ⟨i, hi, rfl⟩
        by_cases hlti : i < b.phis.length
        · have hdi : decide ((i : Int) < (b.phis.length : Int)) = true := by rw [decide_eq_true_eq]; omega
          have hmli : i < (b.phis.map phiF).length := by rw [List.length_map]; exact hlti
          have hphi := all_at (blk_phis hblk) hlti
          have h16 := phi_len hphi
          have h24 := blk_len hblk
          have hQl : (P ++ [(b.phis.length : Int)] ++ (b.phis.take i).flatMap numsP).length ≤ 21000 := by
            have := flat_le (g := numsP) (c := 34) (l := b.phis.take i) fun p hp => numsP_len (n := f.blocks.length) (v := f.values) (all_mem (p := fun p => phiB p f.blocks.length f.values) (x := p) (blk_phis hblk) (List.mem_of_mem_take hp))
            rw [List.length_take] at this
            simp only [List.length_append, List.length_cons, List.length_nil]; omega
          have eP : P ++ [(b.phis.length : Int)] ++ (b.phis.take (i + 1)).flatMap numsP = P ++ [(b.phis.length : Int)] ++ (b.phis.take i).flatMap numsP ++ [b.phis[i].d, (b.phis[i].arms.length : Int)] ++ b.phis[i].arms.flatMap numsA := by
            rw [List.take_succ_eq_append_getElem hlti, List.flatMap_append, List.flatMap_cons, List.flatMap_nil, List.append_nil, numsP]; simp only [List.append_assoc]
          generalize hQ : P ++ [(b.phis.length : Int)] ++ (b.phis.take i).flatMap numsP = Q at hQl eP ⊢
          have kn := v_put2 Q [b.phis[i].d, (b.phis[i].arms.length : Int)] (by simp) (by omega)
          repeat' first | refine ck_intro (by first | exact kn) ?_ ?_ | refine g3 @hdi @ints_cons @ints_nil ?_ | refine d3 @hdi @ints_cons @ints_nil ?_ | refine j3 @hdi @ints_cons @ints_nil (fun hg hgo => ?_) fun hg hgo => ?_ | refine ek_ret ?_ | refine ek_norm ?_ | refine ⟨by omega, ?_⟩ | rfl | trivial | intro _
          clear kn
          refine pw_loop (fun m st => ∃ a : Nat, a + m = b.phis[i].arms.length ∧ st = [(4, .box (.agg [.own 1 (bys (pkL (Q ++ [b.phis[i].d, (b.phis[i].arms.length : Int)] ++ (b.phis[i].arms.take a).flatMap numsA))), bv (!(Q ++ [b.phis[i].d, (b.phis[i].arms.length : Int)] ++ (b.phis[i].arms.take a).flatMap numsA).all numOk)])), (27, .fv (.row 6 (f.blocks.map blockF))), (28, iv f.blocks.length), (29, iv j), (6, .box (.fv (blockF b))), (40, .fv (.row 2 (b.phis.map phiF))), (41, iv b.phis.length), (42, iv i), (55, .fv (.row 2 (b.phis[i].arms.map armF))), (56, iv b.phis[i].arms.length), (57, iv a)]) b.phis[i].arms.length [(4, .box (.agg [.own 1 (bys (pkL (Q ++ [b.phis[i].d, (b.phis[i].arms.length : Int)] ++ (b.phis[i].arms.take 0).flatMap numsA))), bv (!(Q ++ [b.phis[i].d, (b.phis[i].arms.length : Int)] ++ (b.phis[i].arms.take 0).flatMap numsA).all numOk)])), (27, .fv (.row 6 (f.blocks.map blockF))), (28, iv f.blocks.length), (29, iv j), (6, .box (.fv (blockF b))), (40, .fv (.row 2 (b.phis.map phiF))), (41, iv b.phis.length), (42, iv i), (55, .fv (.row 2 (b.phis[i].arms.map armF))), (56, iv b.phis[i].arms.length), (57, iv (0 : Nat))] (sub_of ?_) ⟨0, by omega, rfl⟩ ?_
          · rw [List.take_zero, List.flatMap_nil, List.append_nil]
            exact dn
          · rintro m st ⟨a, ha, rfl⟩
            by_cases hlta : a < b.phis[i].arms.length
            · have hda : decide ((a : Int) < (b.phis[i].arms.length : Int)) = true := by rw [decide_eq_true_eq]; omega
              have hmla : a < (b.phis[i].arms.map armF).length := by rw [List.length_map]; exact hlta
              have e1 : (b.phis[i].arms.take (a + 1)).flatMap numsA = (b.phis[i].arms.take a).flatMap numsA ++ [b.phis[i].arms[a].fr, b.phis[i].arms[a].v] := by
                rw [List.take_succ_eq_append_getElem hlta, List.flatMap_append, List.flatMap_cons, List.flatMap_nil, List.append_nil]; rfl
              have hRl : (Q ++ [b.phis[i].d, (b.phis[i].arms.length : Int)] ++ (b.phis[i].arms.take a).flatMap numsA).length ≤ 22000 := by
                have := flat_le (g := numsA) (c := 2) (l := b.phis[i].arms.take a) fun p _ => by simp [numsA]
                rw [List.length_take] at this
                simp only [List.length_append, List.length_cons, List.length_nil]; omega
              have kn := v_put2 (Q ++ [b.phis[i].d, (b.phis[i].arms.length : Int)] ++ (b.phis[i].arms.take a).flatMap numsA) [b.phis[i].arms[a].fr, b.phis[i].arms[a].v] (by simp) (by omega)
              rw [List.append_assoc _ _ [b.phis[i].arms[a].fr, b.phis[i].arms[a].v], ← e1] at kn
              repeat' first | refine ck_intro (by first | exact kn) ?_ ?_ | refine g3 @hda @ints_cons @ints_nil ?_ | refine d3 @hda @ints_cons @ints_nil ?_ | refine j3 @hda @ints_cons @ints_nil (fun hg hgo => ?_) fun hg hgo => ?_ | refine ek_ret ?_ | refine ek_norm ?_ | refine ⟨by omega, ?_⟩ | rfl | trivial | intro _
              refine rd_norm [(4, .box (.agg [.own 1 (bys (pkL (Q ++ [b.phis[i].d, (b.phis[i].arms.length : Int)] ++ (b.phis[i].arms.take (a + 1)).flatMap numsA))), bv (!(Q ++ [b.phis[i].d, (b.phis[i].arms.length : Int)] ++ (b.phis[i].arms.take (a + 1)).flatMap numsA).all numOk)])), (27, .fv (.row 6 (f.blocks.map blockF))), (28, iv f.blocks.length), (29, iv j), (6, .box (.fv (blockF b))), (40, .fv (.row 2 (b.phis.map phiF))), (41, iv b.phis.length), (42, iv i), (55, .fv (.row 2 (b.phis[i].arms.map armF))), (56, iv b.phis[i].arms.length), (57, iv (a + 1 : Nat))] (sub_of ?_) (m - 1) (by omega) ⟨a + 1, by omega, rfl⟩
              exact dn
            · have hda : decide ((a : Int) < (b.phis[i].arms.length : Int)) = false := by rw [decide_eq_false_iff_not]; omega
              rw [List.take_of_length_le (by omega : b.phis[i].arms.length ≤ a), ← eP]
              repeat' first | refine g1 @hda ?_ | refine d1 @hda ?_ | refine j1 @hda (fun hg hgo => ?_) fun hg hgo => ?_ | refine ek_ret ?_ | refine ek_norm ?_ | refine ⟨by omega, ?_⟩ | rfl | trivial | intro _
              refine rd_norm [(4, .box (.agg [.own 1 (bys (pkL (P ++ [(b.phis.length : Int)] ++ (b.phis.take (i + 1)).flatMap numsP))), bv (!(P ++ [(b.phis.length : Int)] ++ (b.phis.take (i + 1)).flatMap numsP).all numOk)])), (27, .fv (.row 6 (f.blocks.map blockF))), (28, iv f.blocks.length), (29, iv j), (6, .box (.fv (blockF b))), (40, .fv (.row 2 (b.phis.map phiF))), (41, iv b.phis.length), (42, iv (i + 1 : Nat))] (sub_of ?_) (m1 - 1) (by omega) ⟨i + 1, by omega, rfl⟩
              exact dn
        · have hdi : decide ((i : Int) < (b.phis.length : Int)) = false := by rw [decide_eq_false_iff_not]; omega
          have h24 := blk_len hblk
          have hQl : (P ++ [(b.phis.length : Int)] ++ b.phis.flatMap numsP).length ≤ 21000 := by
            have := flat_le (g := numsP) (c := 34) (l := b.phis) fun p hp => numsP_len (n := f.blocks.length) (v := f.values) (all_mem (p := fun p => phiB p f.blocks.length f.values) (x := p) (blk_phis hblk) hp)
            simp only [List.length_append, List.length_cons, List.length_nil]; omega
          rw [List.take_of_length_le (by omega : b.phis.length ≤ i)]
          generalize hQ : P ++ [(b.phis.length : Int)] ++ b.phis.flatMap numsP = Q at hQl ⊢
          have kl := v_put2 Q [(b.list.length : Int)] (by simp) (by omega)
          repeat' first | refine ck_intro (by first | exact kl) ?_ ?_ | refine g3 @hdi @ints_cons @ints_nil ?_ | refine d3 @hdi @ints_cons @ints_nil ?_ | refine j3 @hdi @ints_cons @ints_nil (fun hg hgo => ?_) fun hg hgo => ?_ | refine ek_ret ?_ | refine ek_norm ?_ | refine ⟨by omega, ?_⟩ | rfl | trivial | intro _
          clear kl
          refine pw_loop (fun m st => ∃ c : Nat, c + m = b.list.length ∧ st = [(4, .box (.agg [.own 1 (bys (pkL (Q ++ [(b.list.length : Int)] ++ (b.list.take c).flatMap numsI))), bv (!(Q ++ [(b.list.length : Int)] ++ (b.list.take c).flatMap numsI).all numOk)])), (27, .fv (.row 6 (f.blocks.map blockF))), (28, iv f.blocks.length), (29, iv j), (6, .box (.fv (blockF b))), (77, .fv (.row 5 (b.list.map stF))), (78, iv b.list.length), (79, iv c)]) b.list.length [(4, .box (.agg [.own 1 (bys (pkL (Q ++ [(b.list.length : Int)] ++ (b.list.take 0).flatMap numsI))), bv (!(Q ++ [(b.list.length : Int)] ++ (b.list.take 0).flatMap numsI).all numOk)])), (27, .fv (.row 6 (f.blocks.map blockF))), (28, iv f.blocks.length), (29, iv j), (6, .box (.fv (blockF b))), (77, .fv (.row 5 (b.list.map stF))), (78, iv b.list.length), (79, iv (0 : Nat))] (sub_of ?_) ⟨0, by omega, rfl⟩ ?_
          · rw [List.take_zero, List.flatMap_nil, List.append_nil]
            exact dn
          · rintro m2 st ⟨c, hc, rfl⟩
            by_cases hltc : c < b.list.length
            · have hdc : decide ((c : Int) < (b.list.length : Int)) = true := by rw [decide_eq_true_eq]; omega
              have hmlc : c < (b.list.map stF).length := by rw [List.length_map]; exact hltc
              have e1 : (b.list.take (c + 1)).flatMap numsI = (b.list.take c).flatMap numsI ++ [b.list[c].op, b.list[c].r, b.list[c].a, b.list[c].b, b.list[c].n] := by
                rw [List.take_succ_eq_append_getElem hltc, List.flatMap_append, List.flatMap_cons, List.flatMap_nil, List.append_nil]; rfl
              have hRl : (Q ++ [(b.list.length : Int)] ++ (b.list.take c).flatMap numsI).length ≤ 22000 := by
                have := flat_le (g := numsI) (c := 5) (l := b.list.take c) fun p _ => by simp [numsI]
                rw [List.length_take] at this
                simp only [List.length_append, List.length_cons, List.length_nil]; omega
              have kn := v_put2 (Q ++ [(b.list.length : Int)] ++ (b.list.take c).flatMap numsI) [b.list[c].op, b.list[c].r, b.list[c].a, b.list[c].b, b.list[c].n] (by simp) (by omega)
              rw [List.append_assoc _ _ [b.list[c].op, b.list[c].r, b.list[c].a, b.list[c].b, b.list[c].n], ← e1] at kn
              repeat' first | refine ck_intro (by first | exact kn) ?_ ?_ | refine g3 @hdc @ints_cons @ints_nil ?_ | refine d3 @hdc @ints_cons @ints_nil ?_ | refine j3 @hdc @ints_cons @ints_nil (fun hg hgo => ?_) fun hg hgo => ?_ | refine ek_ret ?_ | refine ek_norm ?_ | refine ⟨by omega, ?_⟩ | rfl | trivial | intro _
              refine rd_norm [(4, .box (.agg [.own 1 (bys (pkL (Q ++ [(b.list.length : Int)] ++ (b.list.take (c + 1)).flatMap numsI))), bv (!(Q ++ [(b.list.length : Int)] ++ (b.list.take (c + 1)).flatMap numsI).all numOk)])), (27, .fv (.row 6 (f.blocks.map blockF))), (28, iv f.blocks.length), (29, iv j), (6, .box (.fv (blockF b))), (77, .fv (.row 5 (b.list.map stF))), (78, iv b.list.length), (79, iv (c + 1 : Nat))] (sub_of ?_) (m2 - 1) (by omega) ⟨c + 1, by omega, rfl⟩
              exact dn
            · have hdc : decide ((c : Int) < (b.list.length : Int)) = false := by rw [decide_eq_false_iff_not]; omega
              rw [List.take_of_length_le (by omega : b.list.length ≤ c)]
              have hj16 := shape_len hs
              have hRl : (Q ++ [(b.list.length : Int)] ++ b.list.flatMap numsI).length ≤ 22000 := by
                have := flat_le (g := numsI) (c := 5) (l := b.list) fun p _ => by simp [numsI]
                simp only [List.length_append, List.length_cons, List.length_nil]; omega
              have kn := v_put2 (Q ++ [(b.list.length : Int)] ++ b.list.flatMap numsI) [b.term.kind, b.term.a, b.term.to, b.term.els] (by simp) (by omega)
              have eQ : P ++ numsB b = Q ++ [(b.list.length : Int)] ++ b.list.flatMap numsI ++ [b.term.kind, b.term.a, b.term.to, b.term.els] := by
                rw [← hQ, numsB, numsT]; simp only [List.append_assoc]
              rw [← eQ, ← eB] at kn
              repeat' first | refine ck_intro (by first | exact kn) ?_ ?_ | refine g3 @hdc @ints_cons @ints_nil ?_ | refine d3 @hdc @ints_cons @ints_nil ?_ | refine j3 @hdc @ints_cons @ints_nil (fun hg hgo => ?_) fun hg hgo => ?_ | refine ek_ret ?_ | refine ek_norm ?_ | refine ⟨by omega, ?_⟩ | rfl | trivial | intro _
              refine rd_norm [(4, .box (.agg [.own 1 (bys (pkL ([f.values, (f.blocks.length : Int)] ++ (f.blocks.take (j + 1)).flatMap numsB))), bv (!([f.values, (f.blocks.length : Int)] ++ (f.blocks.take (j + 1)).flatMap numsB).all numOk)])), (27, .fv (.row 6 (f.blocks.map blockF))), (28, iv f.blocks.length), (29, iv (j + 1 : Nat))] (sub_of ?_) (m - 1) (by omega) ⟨j + 1, by omega, rfl⟩
              exact dn
    · have hd : decide ((j : Int) < (f.blocks.length : Int)) = false := by rw [decide_eq_false_iff_not]; omega
      have hnn : [f.values, (f.blocks.length : Int)] ++ f.blocks.flatMap numsB = numsF f := rfl
      rw [List.take_of_length_le (by omega : f.blocks.length ≤ j), hnn, fn_nums hs]
      cases hn : nsOk f with
      | true =>
        rw [if_pos rfl]
        repeat' first | refine g1 @hd ?_ | refine d1 @hd ?_ | refine j1 @hd (fun hg hgo => ?_) fun hg hgo => ?_ | refine ek_ret ?_ | refine ek_norm ?_ | refine ⟨by omega, ?_⟩ | rfl | trivial | intro _
      | false =>
        rw [if_neg (by decide)]
        repeat' first | refine g1 @hd ?_ | refine d1 @hd ?_ | refine j1 @hd (fun hg hgo => ?_) fun hg hgo => ?_ | refine ek_ret ?_ | refine ek_norm ?_ | refine ⟨by omega, ?_⟩ | rfl | trivial | intro _
theorem v_PackFn_no (f : FnD) (hf : f.ok) (hs : shapeB f = false) : C2 CC F_impl_PackFn [.fv (fnF f)] (.tup [.fv .nil, bv false]) [] := by
  have h1 := v_ShapeOk f hf
  rw [hs] at h1
  refine cw (keepF Try.f10) Try.f10 false ?_
  repeat' first | refine ck_intro (by first | exact h1) ?_ ?_ | refine g0 ?_ | refine d0 ?_ | refine j0 (fun hg hgo => ?_) fun hg hgo => ?_ | refine ek_ret ?_ | refine ek_norm ?_ | refine ⟨by omega, ?_⟩ | rfl | trivial | intro _
theorem v_PackFn_spec_no (f : FnD) (hf : f.ok) (hs : shapeB f = false) : C2 CC F_spec_PackFn [.fv (fnF f)] (.tup [.own 1 [], bv false]) [] := by
  have h1 := v_ShapeOk_spec f hf
  rw [hs] at h1
  refine cw (keepF Try.f8) Try.f8 false ?_
  repeat' first | refine ck_intro (by first | exact h1) ?_ ?_ | refine pd3 47 [0, 0, 2, 0, 14, 30, 62, 0, 128, 0, 896, 1920, 3968, 8064, 16382, 32766, 65535, 131071] [0, 0, 1, 0, 0, 0, 1, 0, 1, 0, 0, 0, 1, 0, 3, 5, 5, 0] false ?_ | refine pd3 75 [0, 0, 2, 0, 14, 30, 62, 0, 254, 510, 1022, 0, 2048, 0, 14336, 30720, 63488, 0, 260096, 522240, 1046528, 2097150, 4194302, 8388607, 16777215] [0, 0, 1, 0, 0, 0, 1, 0, 0, 0, 1, 0, 1, 0, 0, 0, 1, 0, 0, 0, 1, 3, 5, 5, 0] false ?_ | refine g0 ?_ | refine d0 ?_ | refine j0 (fun hg hgo => ?_) fun hg hgo => ?_ | refine ek_ret ?_ | refine ek_norm ?_ | refine ⟨by omega, ?_⟩ | rfl | trivial | intro _
theorem list_ne {α : Type} {l1 l2 : List α} {j : Nat} (h1 : j < l1.length) (h2 : j < l2.length) (h : l1[j] ≠ l2[j]) : l1 ≠ l2 := fun e => by subst e; exact h rfl
theorem v_eqArm (x y : ArmD) : C2 CC F_laws_eqArm [.fv (armF x), .fv (armF y)] (bv (decide (x = y))) [] := by
  obtain ⟨a, b⟩ := x
  obtain ⟨a', b'⟩ := y
  have hd : decide ((⟨a, b⟩ : ArmD) = ⟨a', b'⟩) = (decide (a = a') && decide (b = b')) := by
    rw [Bool.eq_iff_iff]; simp
  rw [hd]
  refine cw (keepF Try.f161) Try.f161 false ?_
  repeat' first | refine g0 ?_ | refine d0 ?_ | refine j0 (fun hg hgo => ?_) fun hg hgo => ?_ | refine ek_ret ?_ | refine ek_norm ?_ | refine ⟨by omega, ?_⟩ | rfl | trivial | intro _
  all_goals first | rfl | (simp_all [beqD, bneT, bneF]; done) | ((try simp only [bneT, bneF]); (repeat' split) <;> first | omega | (simp_all [beqD]; done) | (simp_all [beqD]; omega)) | (simp_all [beqD, bneT, bneF]; (repeat' split) <;> first | rfl | omega | (simp_all; done))
theorem v_eqIns (x y : StepD) : C2 CC F_laws_eqIns [sF x, sF y] (bv (decide (x = y))) [] := by
  obtain ⟨op, r, a, b, n⟩ := x
  obtain ⟨op', r', a', b', n'⟩ := y
  have hd : decide ((⟨op, r, a, b, n⟩ : StepD) = ⟨op', r', a', b', n'⟩) = (decide (op = op') && decide (r = r') && decide (a = a') && decide (b = b') && decide (n = n')) := by
    rw [Bool.eq_iff_iff]; simp; simp only [and_assoc]
  rw [hd]
  refine cw (keepF Try.f147) Try.f147 false ?_
  repeat' first | refine g0 ?_ | refine d0 ?_ | refine j0 (fun hg hgo => ?_) fun hg hgo => ?_ | refine ek_ret ?_ | refine ek_norm ?_ | refine ⟨by omega, ?_⟩ | rfl | trivial | intro _
  all_goals first | rfl | (simp_all [beqD, bneT, bneF]; done) | ((try simp only [bneT, bneF]); (repeat' split) <;> first | omega | (simp_all [beqD]; done) | (simp_all [beqD]; omega)) | (simp_all [beqD, bneT, bneF]; (repeat' split) <;> first | rfl | omega | (simp_all; done))
theorem v_eqTerm (x y : TermD) : C2 CC F_laws_eqTerm [.fv (termF x), .fv (termF y)] (bv (decide (x = y))) [] := by
  obtain ⟨r, a, b, n⟩ := x
  obtain ⟨r', a', b', n'⟩ := y
  have hd : decide ((⟨r, a, b, n⟩ : TermD) = ⟨r', a', b', n'⟩) = (decide (r = r') && decide (a = a') && decide (b = b') && decide (n = n')) := by
    rw [Bool.eq_iff_iff]; simp; simp only [and_assoc]
  rw [hd]
  refine cw (keepF Try.f117) Try.f117 false ?_
  repeat' first | refine g0 ?_ | refine d0 ?_ | refine j0 (fun hg hgo => ?_) fun hg hgo => ?_ | refine ek_ret ?_ | refine ek_norm ?_ | refine ⟨by omega, ?_⟩ | rfl | trivial | intro _
  all_goals first | rfl | (simp_all [beqD, bneT, bneF]; done) | ((try simp only [bneT, bneF]); (repeat' split) <;> first | omega | (simp_all [beqD]; done) | (simp_all [beqD]; omega)) | (simp_all [beqD, bneT, bneF]; (repeat' split) <;> first | rfl | omega | (simp_all; done))
theorem v_eqArmS (l1 l2 : List ArmD) (hn1 : l1.length < 1073741824) (hn2 : l2.length < 1073741824) (hb1 : ∀ x ∈ l1, True) (hb2 : ∀ x ∈ l2, True) : C2 CC F_laws_eqArmS [.fv (.row 2 (l1.map armF)), .fv (.row 2 (l2.map armF))] (bv (decide (l1 = l2))) [] := by
  refine cw (keepF Try.f158) Try.f158 false ?_
  repeat' first | refine pd3 17 [0, 0, 3, 7, 0, 0, 48, 112, 255, 511] [0, 0, 0, 1, 0, 0, 0, 1, 5, 0] false ?_ | refine g0 ?_ | refine d0 ?_ | refine j0 (fun hg hgo => ?_) fun hg hgo => ?_ | refine ek_ret ?_ | refine ek_norm ?_ | refine ⟨by omega, ?_⟩ | rfl | trivial | intro _
  · have : l1 ≠ l2 := fun e => by subst e; simp at hg
    simp [this]
  · have hlen : l1.length = l2.length := by have := hg; simp at this; omega
    refine pw_loop (fun m st => ∃ j : Nat, j + m = l1.length ∧ (∀ i (h1 : i < l1.length) (h2 : i < l2.length), i < j → l1[i] = l2[i]) ∧ st = [(0, .fv (.row 2 (l1.map armF))), (1, .fv (.row 2 (l2.map armF))), (5, iv j)]) l1.length [(0, .fv (.row 2 (l1.map armF))), (1, .fv (.row 2 (l2.map armF))), (5, iv (0 : Nat))] (sub_of ?_) ⟨0, by omega, fun i _ _ hi => by omega, rfl⟩ ?_
    · exact dn
    · rintro m st ⟨j, hj, hb, rfl⟩
      by_cases hlt : j < l1.length
      · have hd : decide ((j : Int) < (l1.length : Int)) = true := by rw [decide_eq_true_eq]; omega
        have hlt2 : j < l2.length := by omega
        have hm1 : j < (l1.map armF).length := by rw [List.length_map]; exact hlt
        have hm2 : j < (l2.map armF).length := by rw [List.length_map]; exact hlt2
        replace hb : True → _ := fun _ => hb
        have hel := v_eqArm l1[j] l2[j]
        repeat' first | refine ck_intro (by first | exact hel) ?_ ?_ | refine pd3 17 [0, 0, 3, 7, 0, 0, 48, 112, 255, 511] [0, 0, 0, 1, 0, 0, 0, 1, 5, 0] false ?_ | refine g1 @hd ?_ | refine d1 @hd ?_ | refine j1 @hd (fun hg hgo => ?_) fun hg hgo => ?_ | refine ek_ret ?_ | refine ek_norm ?_ | refine ⟨by omega, ?_⟩ | rfl | trivial | intro _
        · simp [list_ne hlt hlt2 hgo]
        · refine rd_norm [(0, .fv (.row 2 (l1.map armF))), (1, .fv (.row 2 (l2.map armF))), (5, iv (j + 1 : Nat))] (sub_of ?_) (m - 1) (by omega) ⟨j + 1, by omega, fun i q1 q2 hi => ?_, rfl⟩
          · exact dn
          · by_cases hij : i = j
            · subst hij; exact hgo
            · exact hb trivial i q1 q2 (by omega)
      · have hd : decide ((j : Int) < (l1.length : Int)) = false := by rw [decide_eq_false_iff_not]; omega
        have hq : decide (l1 = l2) = true := by rw [decide_eq_true_eq]; exact List.ext_getElem hlen fun i q1 q2 => hb i q1 q2 (by omega)
        repeat' first | refine pd3 17 [0, 0, 3, 7, 0, 0, 48, 112, 255, 511] [0, 0, 0, 1, 0, 0, 0, 1, 5, 0] false ?_ | refine g2 @hd @hq ?_ | refine d2 @hd @hq ?_ | refine j2 @hd @hq (fun hg hgo => ?_) fun hg hgo => ?_ | refine ek_ret ?_ | refine ek_norm ?_ | refine ⟨by omega, ?_⟩ | rfl | trivial | intro _
theorem v_eqInsS (l1 l2 : List StepD) (hn1 : l1.length < 1073741824) (hn2 : l2.length < 1073741824) (hb1 : ∀ x ∈ l1, True) (hb2 : ∀ x ∈ l2, True) : C2 CC F_laws_eqInsS [.fv (.row 5 (l1.map stF)), .fv (.row 5 (l2.map stF))] (bv (decide (l1 = l2))) [] := by
  refine cw (keepF Try.f116) Try.f116 false ?_
  repeat' first | refine pd3 17 [0, 0, 3, 7, 0, 0, 48, 112, 255, 511] [0, 0, 0, 1, 0, 0, 0, 1, 5, 0] false ?_ | refine g0 ?_ | refine d0 ?_ | refine j0 (fun hg hgo => ?_) fun hg hgo => ?_ | refine ek_ret ?_ | refine ek_norm ?_ | refine ⟨by omega, ?_⟩ | rfl | trivial | intro _
  · have : l1 ≠ l2 := fun e => by subst e; simp at hg
    simp [this]
  · have hlen : l1.length = l2.length := by have := hg; simp at this; omega
    refine pw_loop (fun m st => ∃ j : Nat, j + m = l1.length ∧ (∀ i (h1 : i < l1.length) (h2 : i < l2.length), i < j → l1[i] = l2[i]) ∧ st = [(0, .fv (.row 5 (l1.map stF))), (1, .fv (.row 5 (l2.map stF))), (5, iv j)]) l1.length [(0, .fv (.row 5 (l1.map stF))), (1, .fv (.row 5 (l2.map stF))), (5, iv (0 : Nat))] (sub_of ?_) ⟨0, by omega, fun i _ _ hi => by omega, rfl⟩ ?_
    · exact dn
    · rintro m st ⟨j, hj, hb, rfl⟩
      by_cases hlt : j < l1.length
      · have hd : decide ((j : Int) < (l1.length : Int)) = true := by rw [decide_eq_true_eq]; omega
        have hlt2 : j < l2.length := by omega
        have hm1 : j < (l1.map stF).length := by rw [List.length_map]; exact hlt
        have hm2 : j < (l2.map stF).length := by rw [List.length_map]; exact hlt2
        replace hb : True → _ := fun _ => hb
        have hel := v_eqIns l1[j] l2[j]
        repeat' first | refine ck_intro (by first | exact hel) ?_ ?_ | refine pd3 17 [0, 0, 3, 7, 0, 0, 48, 112, 255, 511] [0, 0, 0, 1, 0, 0, 0, 1, 5, 0] false ?_ | refine g1 @hd ?_ | refine d1 @hd ?_ | refine j1 @hd (fun hg hgo => ?_) fun hg hgo => ?_ | refine ek_ret ?_ | refine ek_norm ?_ | refine ⟨by omega, ?_⟩ | rfl | trivial | intro _
        · simp [list_ne hlt hlt2 hgo]
        · refine rd_norm [(0, .fv (.row 5 (l1.map stF))), (1, .fv (.row 5 (l2.map stF))), (5, iv (j + 1 : Nat))] (sub_of ?_) (m - 1) (by omega) ⟨j + 1, by omega, fun i q1 q2 hi => ?_, rfl⟩
          · exact dn
          · by_cases hij : i = j
            · subst hij; exact hgo
            · exact hb trivial i q1 q2 (by omega)
      · have hd : decide ((j : Int) < (l1.length : Int)) = false := by rw [decide_eq_false_iff_not]; omega
        have hq : decide (l1 = l2) = true := by rw [decide_eq_true_eq]; exact List.ext_getElem hlen fun i q1 q2 => hb i q1 q2 (by omega)
        repeat' first | refine pd3 17 [0, 0, 3, 7, 0, 0, 48, 112, 255, 511] [0, 0, 0, 1, 0, 0, 0, 1, 5, 0] false ?_ | refine g2 @hd @hq ?_ | refine d2 @hd @hq ?_ | refine j2 @hd @hq (fun hg hgo => ?_) fun hg hgo => ?_ | refine ek_ret ?_ | refine ek_norm ?_ | refine ⟨by omega, ?_⟩ | rfl | trivial | intro _
theorem v_eqPhi (x y : PhiD) (hx : x.ok) (hy : y.ok) : C2 CC F_laws_eqPhi [.fv (phiF x), .fv (phiF y)] (bv (decide (x = y))) [] := by
  obtain ⟨d, l⟩ := x
  obtain ⟨d', l'⟩ := y
  have hd : decide ((⟨d, l⟩ : PhiD) = ⟨d', l'⟩) = (decide (d = d') && decide (l = l')) := by
    rw [Bool.eq_iff_iff]; simp
  rw [hd]
  have he := v_eqArmS l l' hx hy (fun _ _ => trivial) (fun _ _ => trivial)
  refine cw (keepF Try.f146) Try.f146 false ?_
  repeat' first | refine ck_intro (by first | exact he) ?_ ?_ | refine g0 ?_ | refine d0 ?_ | refine j0 (fun hg hgo => ?_) fun hg hgo => ?_ | refine ek_ret ?_ | refine ek_norm ?_ | refine ⟨by omega, ?_⟩ | rfl | trivial | intro _
  all_goals first | rfl | (simp_all [beqD, bneT, bneF]; done) | ((try simp only [bneT, bneF]); (repeat' split) <;> first | omega | (simp_all [beqD]; done) | (simp_all [beqD]; omega)) | (simp_all [beqD, bneT, bneF]; (repeat' split) <;> first | rfl | omega | (simp_all; done))
theorem v_eqPhiS (l1 l2 : List PhiD) (hn1 : l1.length < 1073741824) (hn2 : l2.length < 1073741824) (hb1 : ∀ x ∈ l1, x.ok) (hb2 : ∀ x ∈ l2, x.ok) : C2 CC F_laws_eqPhiS [.fv (.row 2 (l1.map phiF)), .fv (.row 2 (l2.map phiF))] (bv (decide (l1 = l2))) [] := by
  refine cw (keepF Try.f115) Try.f115 false ?_
  repeat' first | refine pd3 17 [0, 0, 3, 7, 0, 0, 48, 112, 255, 511] [0, 0, 0, 1, 0, 0, 0, 1, 5, 0] false ?_ | refine g0 ?_ | refine d0 ?_ | refine j0 (fun hg hgo => ?_) fun hg hgo => ?_ | refine ek_ret ?_ | refine ek_norm ?_ | refine ⟨by omega, ?_⟩ | rfl | trivial | intro _
  · have : l1 ≠ l2 := fun e => by subst e; simp at hg
    simp [this]
  · have hlen : l1.length = l2.length := by have := hg; simp at this; omega
    refine pw_loop (fun m st => ∃ j : Nat, j + m = l1.length ∧ (∀ i (h1 : i < l1.length) (h2 : i < l2.length), i < j → l1[i] = l2[i]) ∧ st = [(0, .fv (.row 2 (l1.map phiF))), (1, .fv (.row 2 (l2.map phiF))), (5, iv j)]) l1.length [(0, .fv (.row 2 (l1.map phiF))), (1, .fv (.row 2 (l2.map phiF))), (5, iv (0 : Nat))] (sub_of ?_) ⟨0, by omega, fun i _ _ hi => by omega, rfl⟩ ?_
    · exact dn
    · rintro m st ⟨j, hj, hb, rfl⟩
      by_cases hlt : j < l1.length
      · have hd : decide ((j : Int) < (l1.length : Int)) = true := by rw [decide_eq_true_eq]; omega
        have hlt2 : j < l2.length := by omega
        have hm1 : j < (l1.map phiF).length := by rw [List.length_map]; exact hlt
        have hm2 : j < (l2.map phiF).length := by rw [List.length_map]; exact hlt2
        replace hb : True → _ := fun _ => hb
        have hel := v_eqPhi l1[j] l2[j] (hb1 _ (List.getElem_mem hlt)) (hb2 _ (List.getElem_mem hlt2))
        repeat' first | refine ck_intro (by first | exact hel) ?_ ?_ | refine pd3 17 [0, 0, 3, 7, 0, 0, 48, 112, 255, 511] [0, 0, 0, 1, 0, 0, 0, 1, 5, 0] false ?_ | refine g1 @hd ?_ | refine d1 @hd ?_ | refine j1 @hd (fun hg hgo => ?_) fun hg hgo => ?_ | refine ek_ret ?_ | refine ek_norm ?_ | refine ⟨by omega, ?_⟩ | rfl | trivial | intro _
        · simp [list_ne hlt hlt2 hgo]
        · refine rd_norm [(0, .fv (.row 2 (l1.map phiF))), (1, .fv (.row 2 (l2.map phiF))), (5, iv (j + 1 : Nat))] (sub_of ?_) (m - 1) (by omega) ⟨j + 1, by omega, fun i q1 q2 hi => ?_, rfl⟩
          · exact dn
          · by_cases hij : i = j
            · subst hij; exact hgo
            · exact hb trivial i q1 q2 (by omega)
      · have hd : decide ((j : Int) < (l1.length : Int)) = false := by rw [decide_eq_false_iff_not]; omega
        have hq : decide (l1 = l2) = true := by rw [decide_eq_true_eq]; exact List.ext_getElem hlen fun i q1 q2 => hb i q1 q2 (by omega)
        repeat' first | refine pd3 17 [0, 0, 3, 7, 0, 0, 48, 112, 255, 511] [0, 0, 0, 1, 0, 0, 0, 1, 5, 0] false ?_ | refine g2 @hd @hq ?_ | refine d2 @hd @hq ?_ | refine j2 @hd @hq (fun hg hgo => ?_) fun hg hgo => ?_ | refine ek_ret ?_ | refine ek_norm ?_ | refine ⟨by omega, ?_⟩ | rfl | trivial | intro _
theorem v_eqBlock (x y : BlockD) (hx : x.ok) (hy : y.ok) : C2 CC F_laws_eqBlock [.fv (blockF x), .fv (blockF y)] (bv (decide (x = y))) [] := by
  obtain ⟨p, l, t⟩ := x
  obtain ⟨p', l', t'⟩ := y
  have hd : decide ((⟨p, l, t⟩ : BlockD) = ⟨p', l', t'⟩) = (decide (p = p') && decide (l = l') && decide (t = t')) := by
    rw [Bool.eq_iff_iff]; simp; simp only [and_assoc]
  rw [hd]
  have he := v_eqPhiS p p' hx.1 hy.1 hx.2.1 hy.2.1
  have he2 := v_eqInsS l l' hx.2.2 hy.2.2 (fun _ _ => trivial) (fun _ _ => trivial)
  have he3 := v_eqTerm t t'
  refine cw (keepF Try.f78) Try.f78 false ?_
  repeat' first | refine ck_intro (by first | exact he | exact he2 | exact he3) ?_ ?_ | refine g0 ?_ | refine d0 ?_ | refine j0 (fun hg hgo => ?_) fun hg hgo => ?_ | refine ek_ret ?_ | refine ek_norm ?_ | refine ⟨by omega, ?_⟩ | rfl | trivial | intro _
  all_goals first | rfl | (simp_all [beqD, bneT, bneF]; done) | ((try simp only [bneT, bneF]); (repeat' split) <;> first | omega | (simp_all [beqD]; done) | (simp_all [beqD]; omega)) | (simp_all [beqD, bneT, bneF]; (repeat' split) <;> first | rfl | omega | (simp_all; done))
theorem v_eqBlockS (l1 l2 : List BlockD) (hn1 : l1.length < 1073741824) (hn2 : l2.length < 1073741824) (hb1 : ∀ x ∈ l1, x.ok) (hb2 : ∀ x ∈ l2, x.ok) : C2 CC F_laws_eqBlockS [.fv (.row 6 (l1.map blockF)), .fv (.row 6 (l2.map blockF))] (bv (decide (l1 = l2))) [] := by
  refine cw (keepF Try.f40) Try.f40 false ?_
  repeat' first | refine pd3 17 [0, 0, 3, 7, 0, 0, 48, 112, 255, 511] [0, 0, 0, 1, 0, 0, 0, 1, 5, 0] false ?_ | refine g0 ?_ | refine d0 ?_ | refine j0 (fun hg hgo => ?_) fun hg hgo => ?_ | refine ek_ret ?_ | refine ek_norm ?_ | refine ⟨by omega, ?_⟩ | rfl | trivial | intro _
  · have : l1 ≠ l2 := fun e => by subst e; simp at hg
    simp [this]
  · have hlen : l1.length = l2.length := by have := hg; simp at this; omega
    refine pw_loop (fun m st => ∃ j : Nat, j + m = l1.length ∧ (∀ i (h1 : i < l1.length) (h2 : i < l2.length), i < j → l1[i] = l2[i]) ∧ st = [(0, .fv (.row 6 (l1.map blockF))), (1, .fv (.row 6 (l2.map blockF))), (5, iv j)]) l1.length [(0, .fv (.row 6 (l1.map blockF))), (1, .fv (.row 6 (l2.map blockF))), (5, iv (0 : Nat))] (sub_of ?_) ⟨0, by omega, fun i _ _ hi => by omega, rfl⟩ ?_
    · exact dn
    · rintro m st ⟨j, hj, hb, rfl⟩
      by_cases hlt : j < l1.length
      · have hd : decide ((j : Int) < (l1.length : Int)) = true := by rw [decide_eq_true_eq]; omega
        have hlt2 : j < l2.length := by omega
        have hm1 : j < (l1.map blockF).length := by rw [List.length_map]; exact hlt
        have hm2 : j < (l2.map blockF).length := by rw [List.length_map]; exact hlt2
        replace hb : True → _ := fun _ => hb
        have hel := v_eqBlock l1[j] l2[j] (hb1 _ (List.getElem_mem hlt)) (hb2 _ (List.getElem_mem hlt2))
        repeat' first | refine ck_intro (by first | exact hel) ?_ ?_ | refine pd3 17 [0, 0, 3, 7, 0, 0, 48, 112, 255, 511] [0, 0, 0, 1, 0, 0, 0, 1, 5, 0] false ?_ | refine g1 @hd ?_ | refine d1 @hd ?_ | refine j1 @hd (fun hg hgo => ?_) fun hg hgo => ?_ | refine ek_ret ?_ | refine ek_norm ?_ | refine ⟨by omega, ?_⟩ | rfl | trivial | intro _
        · simp [list_ne hlt hlt2 hgo]
        · refine rd_norm [(0, .fv (.row 6 (l1.map blockF))), (1, .fv (.row 6 (l2.map blockF))), (5, iv (j + 1 : Nat))] (sub_of ?_) (m - 1) (by omega) ⟨j + 1, by omega, fun i q1 q2 hi => ?_, rfl⟩
          · exact dn
          · by_cases hij : i = j
            · subst hij; exact hgo
            · exact hb trivial i q1 q2 (by omega)
      · have hd : decide ((j : Int) < (l1.length : Int)) = false := by rw [decide_eq_false_iff_not]; omega
        have hq : decide (l1 = l2) = true := by rw [decide_eq_true_eq]; exact List.ext_getElem hlen fun i q1 q2 => hb i q1 q2 (by omega)
        repeat' first | refine pd3 17 [0, 0, 3, 7, 0, 0, 48, 112, 255, 511] [0, 0, 0, 1, 0, 0, 0, 1, 5, 0] false ?_ | refine g2 @hd @hq ?_ | refine d2 @hd @hq ?_ | refine j2 @hd @hq (fun hg hgo => ?_) fun hg hgo => ?_ | refine ek_ret ?_ | refine ek_norm ?_ | refine ⟨by omega, ?_⟩ | rfl | trivial | intro _
theorem v_eqFn (x y : FnD) (hx : x.ok) (hy : y.ok) : C2 CC F_laws_eqFn [.fv (fnF x), .fv (fnF y)] (bv (decide (x = y))) [] := by
  obtain ⟨p, t⟩ := x
  obtain ⟨p', t'⟩ := y
  have hd : decide ((⟨p, t⟩ : FnD) = ⟨p', t'⟩) = (decide (p = p') && decide (t = t')) := by
    rw [Bool.eq_iff_iff]; simp
  rw [hd]
  have he := v_eqBlockS p p' hx.1 hy.1 hx.2 hy.2
  refine cw (keepF Try.f12) Try.f12 false ?_
  repeat' first | refine ck_intro (by first | exact he) ?_ ?_ | refine g0 ?_ | refine d0 ?_ | refine j0 (fun hg hgo => ?_) fun hg hgo => ?_ | refine ek_ret ?_ | refine ek_norm ?_ | refine ⟨by omega, ?_⟩ | rfl | trivial | intro _
  all_goals first | rfl | (simp_all [beqD, bneT, bneF]; done) | ((try simp only [bneT, bneF]); (repeat' split) <;> first | omega | (simp_all [beqD]; done) | (simp_all [beqD]; omega)) | (simp_all [beqD, bneT, bneF]; (repeat' split) <;> first | rfl | omega | (simp_all; done))

abbrev bytR (l : List Int) : FV := .row 1 (l.map (.int .u8))
theorem bys_set {l : List Int} {i : Nat} {b : Int} : (bys l).set i (.fv (.int .u8 b)) = bys (l.set i b) := by unfold bys; rw [List.map_set]
theorem bys_at {l : List Int} {i : Nat} (h : i < l.length) : (bys l)[i]? = some (.fv (.int .u8 l[i])) := by unfold bys; simp [h]
def u8 (n : Int) : Int := IntKind.u8.wrap n
theorem u8_def (n : Int) : IntKind.u8.wrap n = u8 n := rfl
theorem inn (b : Int) : (b != b) = false := by simp
theorem v_eqByteS (l1 l2 : List Int) (hn1 : l1.length < 1073741824) (hn2 : l2.length < 1073741824) : C2 CC F_laws_eqByteS [.fv (bytR l1), .fv (bytR l2)] (bv (decide (l1 = l2))) [] := by
  refine cw (keepF Try.f11) Try.f11 false ?_
  repeat' first | refine pd3 17 [0, 0, 3, 7, 0, 0, 48, 112, 255] [0, 0, 0, 1, 0, 0, 0, 1, 0] false ?_ | refine g0 ?_ | refine d0 ?_ | refine j0 (fun hg hgo => ?_) fun hg hgo => ?_ | refine ek_ret ?_ | refine ek_norm ?_ | refine ⟨by omega, ?_⟩ | rfl | trivial | intro _
  · have : l1 ≠ l2 := fun e => by subst e; simp at hg
    simp [this]
  · have hlen : l1.length = l2.length := by have := hg; simp at this; omega
    refine pw_loop (fun m st => ∃ j : Nat, j + m = l1.length ∧ (∀ i (h1 : i < l1.length) (h2 : i < l2.length), i < j → l1[i] = l2[i]) ∧ st = [(0, .fv (bytR l1)), (1, .fv (bytR l2)), (5, iv j)]) l1.length [(0, .fv (bytR l1)), (1, .fv (bytR l2)), (5, iv (0 : Nat))] (sub_of ?_) ⟨0, by omega, fun i _ _ hi => by omega, rfl⟩ ?_
    · exact dn
    · rintro m st ⟨j, hj, hb, rfl⟩
      by_cases hlt : j < l1.length
      · have hd : decide ((j : Int) < (l1.length : Int)) = true := by rw [decide_eq_true_eq]; omega
        have hlt2 : j < l2.length := by omega
        have hm1 : j < (l1.map (FV.int .u8)).length := by rw [List.length_map]; exact hlt
        have hm2 : j < (l2.map (FV.int .u8)).length := by rw [List.length_map]; exact hlt2
        replace hb : True → _ := fun _ => hb
        have hx : l1[j] = l2[j] ∨ l1[j] ≠ l2[j] := Classical.em _
        replace hx : True → _ := fun _ => hx
        repeat' first | refine pd3 17 [0, 0, 3, 7, 0, 0, 48, 112, 255] [0, 0, 0, 1, 0, 0, 0, 1, 0] false ?_ | refine g1 @hd ?_ | refine d1 @hd ?_ | refine j1 @hd (fun hg hgo => ?_) fun hg hgo => ?_ | refine ek_ret ?_ | refine ek_norm ?_ | refine ⟨by omega, ?_⟩ | rfl | trivial | intro _
        · have hne : l1[j] ≠ l2[j] := by simpa using hg
          simp [list_ne hlt hlt2 hne]
        · have hee : l1[j] = l2[j] := by simpa using hg
          refine rd_norm [(0, .fv (bytR l1)), (1, .fv (bytR l2)), (5, iv (j + 1 : Nat))] (sub_of ?_) (m - 1) (by omega) ⟨j + 1, by omega, fun i q1 q2 hi => ?_, rfl⟩
          · exact dn
          · by_cases hij : i = j
            · subst hij; exact hee
            · exact hb trivial i q1 q2 (by omega)
      · have hd : decide ((j : Int) < (l1.length : Int)) = false := by rw [decide_eq_false_iff_not]; omega
        have hq : decide (l1 = l2) = true := by rw [decide_eq_true_eq]; exact List.ext_getElem hlen fun i q1 q2 => hb i q1 q2 (by omega)
        repeat' first | refine pd3 17 [0, 0, 3, 7, 0, 0, 48, 112, 255] [0, 0, 0, 1, 0, 0, 0, 1, 0] false ?_ | refine g2 @hd @hq ?_ | refine d2 @hd @hq ?_ | refine j2 @hd @hq (fun hg hgo => ?_) fun hg hgo => ?_ | refine ek_ret ?_ | refine ek_norm ?_ | refine ⟨by omega, ?_⟩ | rfl | trivial | intro _
def markU (k : Int) : Nat → List Int
  | 0 => []
  | n + 1 => markU k n ++ [u8 (k + n)]
@[go_sem] theorem markU_len (k : Int) : ∀ n, (markU k n).length = n
  | 0 => rfl
  | n + 1 => by rw [markU, List.length_append, markU_len k n]; rfl
theorem markU_get (k : Int) : ∀ (n j : Nat) (h : j < (markU k n).length), (markU k n)[j] = u8 (k + j)
  | 0, j, h => by cases h
  | n + 1, j, h => by
    simp only [markU]
    rw [List.getElem_append]
    split
    · exact markU_get k n j _
    · rename_i hj
      rw [markU_len] at hj h
      have : j = n := by omega
      subst this
      simp
theorem v_heldByteS (k : Int) (n : Nat) (hk : 0 ≤ k ∧ k < 1099511627776) (hn : n < 1073741824) : C2 CC F_laws_heldByteS [.fv (bytR (markU k n)), iv k] (iv (k + n)) [] := by
  have hlen := markU_len k n
  refine cw (keepF Try.f15) Try.f15 false ?_
  repeat' first | refine g1 @hlen ?_ | refine d1 @hlen ?_ | refine j1 @hlen (fun hg hgo => ?_) fun hg hgo => ?_ | refine ek_ret ?_ | refine ek_norm ?_ | refine ⟨by omega, ?_⟩ | rfl | trivial | intro _
  refine pw_loop (fun m st => ∃ j : Nat, j + m = n ∧ st = [(0, .fv (bytR (markU k n))), (1, iv (k + j)), (5, iv j)]) n [(0, .fv (bytR (markU k n))), (1, iv (k + (0 : Nat))), (5, iv (0 : Nat))] (sub_of ?_) ⟨0, by omega, rfl⟩ ?_
  · have h0 : k + ((0 : Nat) : Int) = k := by omega
    rw [h0]
    exact dn
  · rintro m st ⟨j, hj, rfl⟩
    by_cases hlt : j < n
    · have hd : decide ((j : Int) < (n : Int)) = true := by rw [decide_eq_true_eq]; omega
      have hm1 : j < ((markU k n).map (FV.int .u8)).length := by rw [List.length_map, hlen]; exact hlt
      have hg : ∀ h, (markU k n)[j]'h = u8 (k + j) := markU_get k n j
      repeat' first | refine g5 @hd @hlen @hg @u8_def @inn ?_ | refine d5 @hd @hlen @hg @u8_def @inn ?_ | refine j5 @hd @hlen @hg @u8_def @inn (fun hg hgo => ?_) fun hg hgo => ?_ | refine ek_ret ?_ | refine ek_norm ?_ | refine ⟨by omega, ?_⟩ | rfl | trivial | intro _
      all_goals first | (exfalso; omega) | skip
      refine rd_norm [(0, .fv (bytR (markU k n))), (1, iv (k + (j + 1 : Nat))), (5, iv (j + 1 : Nat))] (sub_of ?_) (m - 1) (by omega) ⟨j + 1, by omega, rfl⟩
      have h5 : k + ((j + 1 : Nat) : Int) = k + (j : Int) + 1 := by omega
      rw [h5]
      exact dn
    · have hd : decide ((j : Int) < (n : Int)) = false := by rw [decide_eq_false_iff_not]; omega
      have hjn : j = n := by omega
      subst hjn
      repeat' first | refine g2 @hd @hlen ?_ | refine d2 @hd @hlen ?_ | refine j2 @hd @hlen (fun hg hgo => ?_) fun hg hgo => ?_ | refine ek_ret ?_ | refine ek_norm ?_ | refine ⟨by omega, ?_⟩ | rfl | trivial | intro _
theorem v_markByteS (k : Int) (l : List Int) (hk : 0 ≤ k ∧ k < 1099511627776) (hn : l.length < 1073741824) : C2 CC F_laws_markByteS [.own 1 (bys l), iv k] (iv (k + l.length)) [.own 1 (bys (markU k l.length))] := by
  refine cw (keepF Try.f14) Try.f14 false ?_
  repeat' first | refine g0 ?_ | refine d0 ?_ | refine j0 (fun hg hgo => ?_) fun hg hgo => ?_ | refine ek_ret ?_ | refine ek_norm ?_ | refine ⟨by omega, ?_⟩ | rfl | trivial | intro _
  refine pw_loop (fun m st => ∃ j : Nat, j + m = l.length ∧ st = [(0, .hdr (1000000, []) 1 l.length), (1, iv (k + j)), (5, iv j), (1000000, .own 1 (bys (markU k j ++ l.drop j)))]) l.length [(0, .hdr (1000000, []) 1 l.length), (1, iv (k + (0 : Nat))), (5, iv (0 : Nat)), (1000000, .own 1 (bys (markU k 0 ++ l.drop 0)))] (sub_of ?_) ⟨0, by omega, rfl⟩ ?_
  · have h0 : k + ((0 : Nat) : Int) = k := by omega
    rw [h0, markU, List.drop_zero, List.nil_append]
    exact dn
  · rintro m st ⟨j, hj, rfl⟩
    by_cases hlt : j < l.length
    · have hd : decide ((j : Int) < (l.length : Int)) = true := by rw [decide_eq_true_eq]; omega
      have hs : ∀ y : Int, (bys (markU k j ++ l.drop j)).set j (.fv (.int .u8 y)) = bys (markU k j ++ y :: l.drop (j + 1)) := by
        intro y
        rw [bys_set, List.drop_eq_getElem_cons hlt, List.set_append_right _ _ (by rw [markU_len]; omega), markU_len, Nat.sub_self, List.set_cons_zero]
      have hL : (bys (markU k j ++ l.drop j)).length = l.length := by rw [bys_len, List.length_append, markU_len, List.length_drop]; omega
      have hnr : noRefs (bys (markU k j ++ l.drop j)) = true := nrs_bys
      have hy := hs (u8 (k + j))
      have hm : markU k (j + 1) ++ l.drop (j + 1) = markU k j ++ (u8 (k + j)) :: l.drop (j + 1) := by rw [markU, List.append_assoc]; rfl
      have hx : (bys (markU k j ++ l.drop j))[j]? = some (.fv (.int .u8 l[j])) := by
        rw [bys_at (by rw [List.length_append, markU_len, List.length_drop]; omega), List.getElem_append_right (by rw [markU_len]; omega)]
        simp [markU_len]
      generalize bys (markU k j ++ l.drop j) = L at hs hL hnr hy hx
      have hjL : j < L.length := by omega
      repeat' first | refine g6 @hd @hL @hnr @hy @hx @u8_def ?_ | refine d6 @hd @hL @hnr @hy @hx @u8_def ?_ | refine j6 @hd @hL @hnr @hy @hx @u8_def (fun hg hgo => ?_) fun hg hgo => ?_ | refine ek_ret ?_ | refine ek_norm ?_ | refine ⟨by omega, ?_⟩ | rfl | trivial | intro _
      have h5 : k + ((j + 1 : Nat) : Int) = k + (j : Int) + 1 := by omega
      refine rd_norm [(0, .hdr (1000000, []) 1 l.length), (1, iv (k + (j + 1 : Nat))), (5, iv (j + 1 : Nat)), (1000000, .own 1 (bys (markU k (j + 1) ++ l.drop (j + 1))))] (sub_of ?_) (m - 1) (by omega) ⟨j + 1, by omega, rfl⟩
      rw [h5, hm]
      exact dn
    · have hd : decide ((j : Int) < (l.length : Int)) = false := by rw [decide_eq_false_iff_not]; omega
      have hjn : j = l.length := by omega
      subst hjn
      have h0 : bys (markU k l.length ++ l.drop l.length) = bys (markU k l.length) := by simp
      repeat' first | refine g2 @hd @h0 ?_ | refine d2 @hd @h0 ?_ | refine j2 @hd @h0 (fun hg hgo => ?_) fun hg hgo => ?_ | refine ek_ret ?_ | refine ek_norm ?_ | refine ⟨by omega, ?_⟩ | rfl | trivial | intro _
theorem v_toIns (x : StepD) : C2 CC F_laws_toIns [sF x] (sF x) [] := by
  obtain ⟨op, r, a, b, n⟩ := x
  refine cw (keepF Try.f143) Try.f143 false ?_
  repeat' first | refine g0 ?_ | refine d0 ?_ | refine j0 (fun hg hgo => ?_) fun hg hgo => ?_ | refine ek_ret ?_ | refine ek_norm ?_ | refine ⟨by omega, ?_⟩ | rfl | trivial | intro _
theorem v_toArmS (l : List ArmD) (hn : l.length < 1073741824) (hb : ∀ x ∈ l, True) : C2 CC F_laws_toArmS [.fv (.row 2 (l.map armF))] (.own 2 (rowD armO l)) [] := by
  have hmk : 0 ≤ (l.length : Int) ∧ (l.length : Int) < 4294967296 := ⟨by omega, by omega⟩
  refine cw (keepF Try.f157) Try.f157 false ?_
  repeat' first | refine g1 @hmk ?_ | refine d1 @hmk ?_ | refine j1 @hmk (fun hg hgo => ?_) fun hg hgo => ?_ | refine ek_ret ?_ | refine ek_norm ?_ | refine ⟨by omega, ?_⟩ | rfl | trivial | intro _
  refine pw_loop (fun m st => ∃ j : Nat, j + m = l.length ∧ st = [(0, .fv (.row 2 (l.map armF))), (3, .own 2 (bld armO (.fv (.agg [.int .i64 0, .int .i64 0])) j l)), (4, iv j)]) l.length [(0, .fv (.row 2 (l.map armF))), (3, .own 2 (bld armO (.fv (.agg [.int .i64 0, .int .i64 0])) 0 l)), (4, iv (0 : Nat))] (sub_of ?_) ⟨0, by omega, rfl⟩ ?_
  · rw [bld_0]
    exact dn
  · rintro m st ⟨j, hj, rfl⟩
    by_cases hlt : j < l.length
    · have hd : decide ((j : Int) < (l.length : Int)) = true := by rw [decide_eq_true_eq]; omega
      have hm1 : j < (l.map armF).length := by rw [List.length_map]; exact hlt
      have hel := v_toArm l[j]
      have hs : (bld armO (.fv (.agg [.int .i64 0, .int .i64 0])) j l).set j (armO l[j]) = bld armO (.fv (.agg [.int .i64 0, .int .i64 0])) (j + 1) l := bld_set hlt
      have hx : (bld armO (.fv (.agg [.int .i64 0, .int .i64 0])) j l)[j]? = some (.fv (.agg [.int .i64 0, .int .i64 0])) := bld_get hlt
      have hL : (bld armO (.fv (.agg [.int .i64 0, .int .i64 0])) j l).length = l.length := bld_len (by omega)
      have hnr : noRefs (bld armO (.fv (.agg [.int .i64 0, .int .i64 0])) j l) = true := nrs_bld (fun x => rfl) (by rfl)
      generalize bld armO (.fv (.agg [.int .i64 0, .int .i64 0])) j l = L at hs hx hL hnr
      have hjL : j < L.length := by omega
      skip
      repeat' first | refine ck_intro (by first | exact hel) ?_ ?_ | refine g4 @hd @hL @hx @hnr ?_ | refine d4 @hd @hL @hx @hnr ?_ | refine j4 @hd @hL @hx @hnr (fun hg hgo => ?_) fun hg hgo => ?_ | refine ek_ret ?_ | refine ek_norm ?_ | refine ⟨by omega, ?_⟩ | rfl | trivial | intro _
      refine rd_norm [(0, .fv (.row 2 (l.map armF))), (3, .own 2 (bld armO (.fv (.agg [.int .i64 0, .int .i64 0])) (j + 1) l)), (4, iv (j + 1 : Nat))] (sub_of ?_) (m - 1) (by omega) ⟨j + 1, by omega, rfl⟩
      rw [← hs]
      exact dn
      skip
    · have hd : decide ((j : Int) < (l.length : Int)) = false := by rw [decide_eq_false_iff_not]; omega
      have hjn : j = l.length := by omega
      subst hjn
      have h0 : bld armO (.fv (.agg [.int .i64 0, .int .i64 0])) l.length l = rowD armO l := bld_n
      repeat' first | refine g2 @hd @h0 ?_ | refine d2 @hd @h0 ?_ | refine j2 @hd @h0 (fun hg hgo => ?_) fun hg hgo => ?_ | refine ek_ret ?_ | refine ek_norm ?_ | refine ⟨by omega, ?_⟩ | rfl | trivial | intro _
theorem v_toPhi (x : PhiD) (h : x.ok) : C2 CC F_laws_toPhi [.fv (phiF x)] (phiO x) [] := by
  obtain ⟨d, arms⟩ := x
  have he := v_toArmS arms h (fun _ _ => trivial)
  refine cw (keepF Try.f142) Try.f142 false ?_
  repeat' first | refine ck_intro (by first | exact he) ?_ ?_ | refine g0 ?_ | refine d0 ?_ | refine j0 (fun hg hgo => ?_) fun hg hgo => ?_ | refine ek_ret ?_ | refine ek_norm ?_ | refine ⟨by omega, ?_⟩ | rfl | trivial | intro _
theorem v_toPhiS (l : List PhiD) (hn : l.length < 1073741824) (hb : ∀ x ∈ l, x.ok) : C2 CC F_laws_toPhiS [.fv (.row 2 (l.map phiF))] (.own 2 (rowD phiO l)) [] := by
  have hmk : 0 ≤ (l.length : Int) ∧ (l.length : Int) < 4294967296 := ⟨by omega, by omega⟩
  refine cw (keepF Try.f104) Try.f104 false ?_
  repeat' first | refine g1 @hmk ?_ | refine d1 @hmk ?_ | refine j1 @hmk (fun hg hgo => ?_) fun hg hgo => ?_ | refine ek_ret ?_ | refine ek_norm ?_ | refine ⟨by omega, ?_⟩ | rfl | trivial | intro _
  refine pw_loop (fun m st => ∃ j : Nat, j + m = l.length ∧ st = [(0, .fv (.row 2 (l.map phiF))), (3, .own 2 (bld phiO (.fv (.agg [.int .i64 0, .nil])) j l)), (4, iv j)]) l.length [(0, .fv (.row 2 (l.map phiF))), (3, .own 2 (bld phiO (.fv (.agg [.int .i64 0, .nil])) 0 l)), (4, iv (0 : Nat))] (sub_of ?_) ⟨0, by omega, rfl⟩ ?_
  · rw [bld_0]
    exact dn
  · rintro m st ⟨j, hj, rfl⟩
    by_cases hlt : j < l.length
    · have hd : decide ((j : Int) < (l.length : Int)) = true := by rw [decide_eq_true_eq]; omega
      have hm1 : j < (l.map phiF).length := by rw [List.length_map]; exact hlt
      have hel := v_toPhi l[j] (hb _ (List.getElem_mem hlt))
      have hs : (bld phiO (.fv (.agg [.int .i64 0, .nil])) j l).set j (phiO l[j]) = bld phiO (.fv (.agg [.int .i64 0, .nil])) (j + 1) l := bld_set hlt
      have hx : (bld phiO (.fv (.agg [.int .i64 0, .nil])) j l)[j]? = some (.fv (.agg [.int .i64 0, .nil])) := bld_get hlt
      have hL : (bld phiO (.fv (.agg [.int .i64 0, .nil])) j l).length = l.length := bld_len (by omega)
      have hnr : noRefs (bld phiO (.fv (.agg [.int .i64 0, .nil])) j l) = true := nrs_bld (fun x => nr_phiO) (by rfl)
      generalize bld phiO (.fv (.agg [.int .i64 0, .nil])) j l = L at hs hx hL hnr
      have hjL : j < L.length := by omega
      skip
      repeat' first | refine ck_intro (by first | exact hel) ?_ ?_ | refine g4 @hd @hL @hx @hnr ?_ | refine d4 @hd @hL @hx @hnr ?_ | refine j4 @hd @hL @hx @hnr (fun hg hgo => ?_) fun hg hgo => ?_ | refine ek_ret ?_ | refine ek_norm ?_ | refine ⟨by omega, ?_⟩ | rfl | trivial | intro _
      refine rd_norm [(0, .fv (.row 2 (l.map phiF))), (3, .own 2 (bld phiO (.fv (.agg [.int .i64 0, .nil])) (j + 1) l)), (4, iv (j + 1 : Nat))] (sub_of ?_) (m - 1) (by omega) ⟨j + 1, by omega, rfl⟩
      rw [← hs]
      exact dn
      skip
    · have hd : decide ((j : Int) < (l.length : Int)) = false := by rw [decide_eq_false_iff_not]; omega
      have hjn : j = l.length := by omega
      subst hjn
      have h0 : bld phiO (.fv (.agg [.int .i64 0, .nil])) l.length l = rowD phiO l := bld_n
      repeat' first | refine g2 @hd @h0 ?_ | refine d2 @hd @h0 ?_ | refine j2 @hd @h0 (fun hg hgo => ?_) fun hg hgo => ?_ | refine ek_ret ?_ | refine ek_norm ?_ | refine ⟨by omega, ?_⟩ | rfl | trivial | intro _
theorem v_toInsS (l : List StepD) (hn : l.length < 1073741824) (hb : ∀ x ∈ l, True) : C2 CC F_laws_toInsS [.fv (.row 5 (l.map stF))] (.own 5 (rowD sF l)) [] := by
  have hmk : 0 ≤ (l.length : Int) ∧ (l.length : Int) < 4294967296 := ⟨by omega, by omega⟩
  refine cw (keepF Try.f105) Try.f105 false ?_
  repeat' first | refine g1 @hmk ?_ | refine d1 @hmk ?_ | refine j1 @hmk (fun hg hgo => ?_) fun hg hgo => ?_ | refine ek_ret ?_ | refine ek_norm ?_ | refine ⟨by omega, ?_⟩ | rfl | trivial | intro _
  refine pw_loop (fun m st => ∃ j : Nat, j + m = l.length ∧ st = [(0, .fv (.row 5 (l.map stF))), (3, .own 5 (bld sF (.fv (.agg [.int .i64 0, .int .i64 0, .int .i64 0, .int .i64 0, .int .i64 0])) j l)), (4, iv j)]) l.length [(0, .fv (.row 5 (l.map stF))), (3, .own 5 (bld sF (.fv (.agg [.int .i64 0, .int .i64 0, .int .i64 0, .int .i64 0, .int .i64 0])) 0 l)), (4, iv (0 : Nat))] (sub_of ?_) ⟨0, by omega, rfl⟩ ?_
  · rw [bld_0]
    exact dn
  · rintro m st ⟨j, hj, rfl⟩
    by_cases hlt : j < l.length
    · have hd : decide ((j : Int) < (l.length : Int)) = true := by rw [decide_eq_true_eq]; omega
      have hm1 : j < (l.map stF).length := by rw [List.length_map]; exact hlt
      have hel := v_toIns l[j]
      have hs : (bld sF (.fv (.agg [.int .i64 0, .int .i64 0, .int .i64 0, .int .i64 0, .int .i64 0])) j l).set j (sF l[j]) = bld sF (.fv (.agg [.int .i64 0, .int .i64 0, .int .i64 0, .int .i64 0, .int .i64 0])) (j + 1) l := bld_set hlt
      have hx : (bld sF (.fv (.agg [.int .i64 0, .int .i64 0, .int .i64 0, .int .i64 0, .int .i64 0])) j l)[j]? = some (.fv (.agg [.int .i64 0, .int .i64 0, .int .i64 0, .int .i64 0, .int .i64 0])) := bld_get hlt
      have hL : (bld sF (.fv (.agg [.int .i64 0, .int .i64 0, .int .i64 0, .int .i64 0, .int .i64 0])) j l).length = l.length := bld_len (by omega)
      have hnr : noRefs (bld sF (.fv (.agg [.int .i64 0, .int .i64 0, .int .i64 0, .int .i64 0, .int .i64 0])) j l) = true := nrs_bld (fun x => rfl) (by rfl)
      generalize bld sF (.fv (.agg [.int .i64 0, .int .i64 0, .int .i64 0, .int .i64 0, .int .i64 0])) j l = L at hs hx hL hnr
      have hjL : j < L.length := by omega
      skip
      repeat' first | refine ck_intro (by first | exact hel) ?_ ?_ | refine g4 @hd @hL @hx @hnr ?_ | refine d4 @hd @hL @hx @hnr ?_ | refine j4 @hd @hL @hx @hnr (fun hg hgo => ?_) fun hg hgo => ?_ | refine ek_ret ?_ | refine ek_norm ?_ | refine ⟨by omega, ?_⟩ | rfl | trivial | intro _
      refine rd_norm [(0, .fv (.row 5 (l.map stF))), (3, .own 5 (bld sF (.fv (.agg [.int .i64 0, .int .i64 0, .int .i64 0, .int .i64 0, .int .i64 0])) (j + 1) l)), (4, iv (j + 1 : Nat))] (sub_of ?_) (m - 1) (by omega) ⟨j + 1, by omega, rfl⟩
      rw [← hs]
      exact dn
      skip
    · have hd : decide ((j : Int) < (l.length : Int)) = false := by rw [decide_eq_false_iff_not]; omega
      have hjn : j = l.length := by omega
      subst hjn
      have h0 : bld sF (.fv (.agg [.int .i64 0, .int .i64 0, .int .i64 0, .int .i64 0, .int .i64 0])) l.length l = rowD sF l := bld_n
      repeat' first | refine g2 @hd @h0 ?_ | refine d2 @hd @h0 ?_ | refine j2 @hd @h0 (fun hg hgo => ?_) fun hg hgo => ?_ | refine ek_ret ?_ | refine ek_norm ?_ | refine ⟨by omega, ?_⟩ | rfl | trivial | intro _
theorem v_toBlock (x : BlockD) (h : x.ok) : C2 CC F_laws_toBlock [.fv (blockF x)] (blockO x) [] := by
  obtain ⟨phis, list, term⟩ := x
  have he := v_toPhiS phis h.1 h.2.1
  have he2 := v_toInsS list h.2.2 (fun _ _ => trivial)
  have he3 := v_toTerm term
  refine cw (keepF Try.f66) Try.f66 false ?_
  repeat' first | refine ck_intro (by first | exact he | exact he2 | exact he3) ?_ ?_ | refine g0 ?_ | refine d0 ?_ | refine j0 (fun hg hgo => ?_) fun hg hgo => ?_ | refine ek_ret ?_ | refine ek_norm ?_ | refine ⟨by omega, ?_⟩ | rfl | trivial | intro _
theorem v_toBlockS (l : List BlockD) (hn : l.length < 1073741824) (hb : ∀ x ∈ l, x.ok) : C2 CC F_laws_toBlockS [.fv (.row 6 (l.map blockF))] (.own 6 (rowD blockO l)) [] := by
  have hmk : 0 ≤ (l.length : Int) ∧ (l.length : Int) < 4294967296 := ⟨by omega, by omega⟩
  refine cw (keepF Try.f37) Try.f37 false ?_
  repeat' first | refine g1 @hmk ?_ | refine d1 @hmk ?_ | refine j1 @hmk (fun hg hgo => ?_) fun hg hgo => ?_ | refine ek_ret ?_ | refine ek_norm ?_ | refine ⟨by omega, ?_⟩ | rfl | trivial | intro _
  refine pw_loop (fun m st => ∃ j : Nat, j + m = l.length ∧ st = [(0, .fv (.row 6 (l.map blockF))), (3, .own 6 (bld blockO (.fv (.agg [.nil, .nil, .agg [.int .i64 0, .int .i64 0, .int .i64 0, .int .i64 0]])) j l)), (4, iv j)]) l.length [(0, .fv (.row 6 (l.map blockF))), (3, .own 6 (bld blockO (.fv (.agg [.nil, .nil, .agg [.int .i64 0, .int .i64 0, .int .i64 0, .int .i64 0]])) 0 l)), (4, iv (0 : Nat))] (sub_of ?_) ⟨0, by omega, rfl⟩ ?_
  · rw [bld_0]
    exact dn
  · rintro m st ⟨j, hj, rfl⟩
    by_cases hlt : j < l.length
    · have hd : decide ((j : Int) < (l.length : Int)) = true := by rw [decide_eq_true_eq]; omega
      have hm1 : j < (l.map blockF).length := by rw [List.length_map]; exact hlt
      have hel := v_toBlock l[j] (hb _ (List.getElem_mem hlt))
      have hs : (bld blockO (.fv (.agg [.nil, .nil, .agg [.int .i64 0, .int .i64 0, .int .i64 0, .int .i64 0]])) j l).set j (blockO l[j]) = bld blockO (.fv (.agg [.nil, .nil, .agg [.int .i64 0, .int .i64 0, .int .i64 0, .int .i64 0]])) (j + 1) l := bld_set hlt
      have hx : (bld blockO (.fv (.agg [.nil, .nil, .agg [.int .i64 0, .int .i64 0, .int .i64 0, .int .i64 0]])) j l)[j]? = some (.fv (.agg [.nil, .nil, .agg [.int .i64 0, .int .i64 0, .int .i64 0, .int .i64 0]])) := bld_get hlt
      have hL : (bld blockO (.fv (.agg [.nil, .nil, .agg [.int .i64 0, .int .i64 0, .int .i64 0, .int .i64 0]])) j l).length = l.length := bld_len (by omega)
      have hnr : noRefs (bld blockO (.fv (.agg [.nil, .nil, .agg [.int .i64 0, .int .i64 0, .int .i64 0, .int .i64 0]])) j l) = true := nrs_bld (fun x => nr_blockO) (by rfl)
      generalize bld blockO (.fv (.agg [.nil, .nil, .agg [.int .i64 0, .int .i64 0, .int .i64 0, .int .i64 0]])) j l = L at hs hx hL hnr
      have hjL : j < L.length := by omega
      skip
      repeat' first | refine ck_intro (by first | exact hel) ?_ ?_ | refine g4 @hd @hL @hx @hnr ?_ | refine d4 @hd @hL @hx @hnr ?_ | refine j4 @hd @hL @hx @hnr (fun hg hgo => ?_) fun hg hgo => ?_ | refine ek_ret ?_ | refine ek_norm ?_ | refine ⟨by omega, ?_⟩ | rfl | trivial | intro _
      refine rd_norm [(0, .fv (.row 6 (l.map blockF))), (3, .own 6 (bld blockO (.fv (.agg [.nil, .nil, .agg [.int .i64 0, .int .i64 0, .int .i64 0, .int .i64 0]])) (j + 1) l)), (4, iv (j + 1 : Nat))] (sub_of ?_) (m - 1) (by omega) ⟨j + 1, by omega, rfl⟩
      rw [← hs]
      exact dn
      skip
    · have hd : decide ((j : Int) < (l.length : Int)) = false := by rw [decide_eq_false_iff_not]; omega
      have hjn : j = l.length := by omega
      subst hjn
      have h0 : bld blockO (.fv (.agg [.nil, .nil, .agg [.int .i64 0, .int .i64 0, .int .i64 0, .int .i64 0]])) l.length l = rowD blockO l := bld_n
      repeat' first | refine g2 @hd @h0 ?_ | refine d2 @hd @h0 ?_ | refine j2 @hd @h0 (fun hg hgo => ?_) fun hg hgo => ?_ | refine ek_ret ?_ | refine ek_norm ?_ | refine ⟨by omega, ?_⟩ | rfl | trivial | intro _
theorem v_toFn (x : FnD) (h : x.ok) : C2 CC F_laws_toFn [.fv (fnF x)] (fnO x) [] := by
  obtain ⟨blocks, values⟩ := x
  have he := v_toBlockS blocks h.1 h.2
  refine cw (keepF Try.f9) Try.f9 false ?_
  repeat' first | refine ck_intro (by first | exact he) ?_ ?_ | refine g0 ?_ | refine d0 ?_ | refine j0 (fun hg hgo => ?_) fun hg hgo => ?_ | refine ek_ret ?_ | refine ek_norm ?_ | refine ⟨by omega, ?_⟩ | rfl | trivial | intro _
def sub1 (left : Int) (n : Nat) : Int := if left - n < 0 then -1 else left - n
def szL {α : Type} (e : α → Int → Int) : List α → Int → Int
  | [], left => left
  | x :: l, left => if e x left < 0 then -1 else szL e l (e x left)
def szRow {α : Type} (e : α → Int → Int) (l : List α) (left : Int) : Int := if left - l.length < 0 then -1 else szL e l (left - l.length)
def szP (x : PhiD) (left : Int) : Int := sub1 left x.arms.length
def szB (x : BlockD) (left : Int) : Int := if szRow szP x.phis left < 0 then -1 else sub1 (szRow szP x.phis left) x.list.length
def szFn (x : FnD) (left : Int) : Int := if szRow szB x.blocks left < 0 then -1 else szRow szB x.blocks left
theorem sub1_le (left : Int) (n : Nat) (h : 0 ≤ left) : sub1 left n ≤ left ∧ -1 ≤ sub1 left n := by unfold sub1; split <;> omega
theorem szL_le {α : Type} {e : α → Int → Int} (he : ∀ x left, 0 ≤ left ∧ left ≤ 1048576 → e x left ≤ left ∧ -1 ≤ e x left) : ∀ (l : List α) (left : Int), 0 ≤ left ∧ left ≤ 1048576 → szL e l left ≤ left ∧ -1 ≤ szL e l left
  | [], left, h => by unfold szL; omega
  | x :: l, left, h => by
    unfold szL
    have h1 := he x left h
    split
    · omega
    · have := szL_le he l (e x left) (by omega); omega
theorem szRow_le {α : Type} {e : α → Int → Int} (he : ∀ x left, 0 ≤ left ∧ left ≤ 1048576 → e x left ≤ left ∧ -1 ≤ e x left) (l : List α) (left : Int) (h : 0 ≤ left ∧ left ≤ 1048576) : szRow e l left ≤ left ∧ -1 ≤ szRow e l left := by
  unfold szRow
  split
  · omega
  · have := szL_le he l (left - l.length) (by omega); omega
theorem szP_le (x : PhiD) (left : Int) (h : 0 ≤ left ∧ left ≤ 1048576) : szP x left ≤ left ∧ -1 ≤ szP x left := sub1_le _ _ h.1
theorem szB_le (x : BlockD) (left : Int) (h : 0 ≤ left ∧ left ≤ 1048576) : szB x left ≤ left ∧ -1 ≤ szB x left := by
  unfold szB
  have h1 := szRow_le szP_le x.phis left h
  split
  · omega
  · have := sub1_le (szRow szP x.phis left) x.list.length (by omega); omega
theorem szL_ok {α : Type} {e : α → Int → Int} {P : α → Prop} (he : ∀ x left, 0 ≤ left ∧ left ≤ 1048576 → e x left ≤ left ∧ (0 ≤ e x left → P x)) : ∀ (l : List α) (left : Int), 0 ≤ left ∧ left ≤ 1048576 → 0 ≤ szL e l left → ∀ x ∈ l, P x
  | [], left, h, hz => fun x hx => by simp at hx
  | x :: l, left, h, hz => by
    unfold szL at hz
    have h1 := he x left h
    split at hz
    · omega
    · intro y hy
      rcases List.mem_cons.1 hy with rfl | hy
      · exact h1.2 (by omega)
      · exact szL_ok he l (e x left) (by omega) hz y hy
theorem szRow_ok {α : Type} {e : α → Int → Int} {P : α → Prop} (he : ∀ x left, 0 ≤ left ∧ left ≤ 1048576 → e x left ≤ left ∧ (0 ≤ e x left → P x)) (l : List α) (left : Int) (h : 0 ≤ left ∧ left ≤ 1048576) (hz : 0 ≤ szRow e l left) : l.length ≤ 1048576 ∧ ∀ x ∈ l, P x := by
  unfold szRow at hz
  split at hz
  · omega
  · exact ⟨by omega, szL_ok he l _ (by omega) hz⟩
theorem szP_ok (x : PhiD) (left : Int) (h : 0 ≤ left ∧ left ≤ 1048576) (hz : 0 ≤ szP x left) : x.arms.length ≤ 1048576 := by unfold szP sub1 at hz; split at hz <;> omega
theorem szB_ok (x : BlockD) (left : Int) (h : 0 ≤ left ∧ left ≤ 1048576) (hz : 0 ≤ szB x left) : x.phis.length ≤ 1048576 ∧ (∀ p ∈ x.phis, p.arms.length ≤ 1048576) ∧ x.list.length ≤ 1048576 := by
  unfold szB at hz
  have h1 := szRow_le szP_le x.phis left h
  split at hz
  · omega
  · have h2 := szRow_ok (P := fun p => p.arms.length ≤ 1048576) (fun x left h => ⟨(szP_le x left h).1, szP_ok x left h⟩) x.phis left h (by omega)
    refine ⟨h2.1, h2.2, ?_⟩
    unfold sub1 at hz; split at hz <;> omega
theorem szFn_ok (x : FnD) (hz : 0 ≤ szFn x 1048576) : x.blocks.length ≤ 1048576 ∧ (∀ b ∈ x.blocks, b.phis.length ≤ 1048576 ∧ (∀ p ∈ b.phis, p.arms.length ≤ 1048576) ∧ b.list.length ≤ 1048576) ∧ x.ok := by
  unfold szFn at hz
  split at hz
  · omega
  · have h2 := szRow_ok (P := fun b : BlockD => b.phis.length ≤ 1048576 ∧ (∀ p ∈ b.phis, p.arms.length ≤ 1048576) ∧ b.list.length ≤ 1048576) (fun x left h => ⟨(szB_le x left h).1, szB_ok x left h⟩) x.blocks 1048576 (by omega) hz
    refine ⟨h2.1, h2.2, ?_, fun b hb => ?_⟩
    · have := h2.1; omega
    · obtain ⟨a, b1, c⟩ := h2.2 b hb
      exact ⟨by omega, fun p hp => by have := b1 p hp; unfold PhiD.ok; omega, by omega⟩
def PhiD.ln (p : PhiD) : Prop := p.arms.length ≤ 9223372036854775807
def BlockD.ln (b : BlockD) : Prop := b.phis.length ≤ 9223372036854775807 ∧ (∀ p ∈ b.phis, p.ln) ∧ b.list.length ≤ 9223372036854775807
def FnD.ln (f : FnD) : Prop := f.blocks.length ≤ 9223372036854775807 ∧ ∀ b ∈ f.blocks, b.ln
theorem v_szArmS (l : List ArmD) (left : Int) (h0 : 0 ≤ left ∧ left ≤ 1048576) (hn : l.length ≤ 9223372036854775807) : C2 CC F_laws_szArmS [.fv (.row 2 (l.map armF)), iv left] (iv (sub1 left l.length)) [] := by
  refine cw (keepF Try.f156) Try.f156 false ?_
  repeat' first | refine g0 ?_ | refine d0 ?_ | refine j0 (fun hg hgo => ?_) fun hg hgo => ?_ | refine ek_ret ?_ | refine ek_norm ?_ | refine ⟨by omega, ?_⟩ | rfl | trivial | intro _
  all_goals first | rfl | (simp_all [beqD, sub1]; done) | ((try simp only [sub1]); (repeat' split) <;> first | omega | (simp_all [beqD]; done) | (simp_all [beqD]; omega)) | (simp_all [beqD, sub1]; (repeat' split) <;> first | rfl | omega | (simp_all; done))
theorem v_szInsS (l : List StepD) (left : Int) (h0 : 0 ≤ left ∧ left ≤ 1048576) (hn : l.length ≤ 9223372036854775807) : C2 CC F_laws_szInsS [.fv (.row 5 (l.map stF)), iv left] (iv (sub1 left l.length)) [] := by
  refine cw (keepF Try.f101) Try.f101 false ?_
  repeat' first | refine g0 ?_ | refine d0 ?_ | refine j0 (fun hg hgo => ?_) fun hg hgo => ?_ | refine ek_ret ?_ | refine ek_norm ?_ | refine ⟨by omega, ?_⟩ | rfl | trivial | intro _
  all_goals first | rfl | (simp_all [beqD, sub1]; done) | ((try simp only [sub1]); (repeat' split) <;> first | omega | (simp_all [beqD]; done) | (simp_all [beqD]; omega)) | (simp_all [beqD, sub1]; (repeat' split) <;> first | rfl | omega | (simp_all; done))
theorem v_szPhi (x : PhiD) (left : Int) (h0 : 0 ≤ left ∧ left ≤ 1048576) (hx : x.ln) : C2 CC F_laws_szPhi [.fv (phiF x), iv left] (iv (szP x left)) [] := by
  obtain ⟨d, arms⟩ := x
  have he := v_szArmS arms left h0 hx
  refine cw (keepF Try.f141) Try.f141 false ?_
  repeat' first | refine ck_intro (by first | exact he) ?_ ?_ | refine g0 ?_ | refine d0 ?_ | refine j0 (fun hg hgo => ?_) fun hg hgo => ?_ | refine ek_ret ?_ | refine ek_norm ?_ | refine ⟨by omega, ?_⟩ | rfl | trivial | intro _
  all_goals first | rfl | (simp_all [beqD, szP, sub1]; done) | ((try simp only [szP, sub1]); (repeat' split) <;> first | omega | (simp_all [beqD]; done) | (simp_all [beqD]; omega)) | (simp_all [beqD, szP, sub1]; (repeat' split) <;> first | rfl | omega | (simp_all; done))
theorem v_szPhiS (l : List PhiD) (left : Int) (h0 : 0 ≤ left ∧ left ≤ 1048576) (hn : l.length ≤ 9223372036854775807) (hb : ∀ x ∈ l, x.ln) : C2 CC F_laws_szPhiS [.fv (.row 2 (l.map phiF)), iv left] (iv (szRow szP l left)) [] := by
  unfold szRow
  refine cw (keepF Try.f100) Try.f100 false ?_
  repeat' first | refine g0 ?_ | refine d0 ?_ | refine j0 (fun hg hgo => ?_) fun hg hgo => ?_ | refine ek_ret ?_ | refine ek_norm ?_ | refine ⟨by omega, ?_⟩ | rfl | trivial | intro _
  · refine pw_loop (fun m st => ∃ (j : Nat) (lf : Int), j + m = l.length ∧ szL szP l (left - l.length) = szL szP (l.drop j) lf ∧ 0 ≤ lf ∧ lf ≤ 1048576 ∧ st = [(0, .fv (.row 2 (l.map phiF))), (1, iv lf), (5, iv j)]) l.length [(0, .fv (.row 2 (l.map phiF))), (1, iv (left - l.length)), (5, iv (0 : Nat))] (sub_of ?_) ⟨0, _, by omega, by rw [List.drop_zero], by omega, by omega, rfl⟩ ?_
    · exact dn
    · rintro m st ⟨j, lf, hj, hz, hl0, hl1, rfl⟩
      rw [hz]
      by_cases hlt : j < l.length
      · have hd : decide ((j : Int) < (l.length : Int)) = true := by rw [decide_eq_true_eq]; omega
        have hm1 : j < (l.map phiF).length := by rw [List.length_map]; exact hlt
        have hel := v_szPhi l[j] lf ⟨hl0, hl1⟩ (hb _ (List.getElem_mem hlt))
        have hle := szP_le l[j] lf ⟨hl0, hl1⟩
        rw [List.drop_eq_getElem_cons hlt, szL] at hz ⊢
        repeat' first | refine ck_intro (by first | exact hel) ?_ ?_ | refine g1 @hd ?_ | refine d1 @hd ?_ | refine j1 @hd (fun hg hgo => ?_) fun hg hgo => ?_ | refine ek_ret ?_ | refine ek_norm ?_ | refine ⟨by omega, ?_⟩ | rfl | trivial | intro _
        · rw [if_neg (by omega)] at hz
          refine rd_norm [(0, .fv (.row 2 (l.map phiF))), (1, iv (szP l[j] lf)), (5, iv (j + 1 : Nat))] (sub_of ?_) (m - 1) (by omega) ⟨j + 1, _, by omega, rfl, by omega, by omega, rfl⟩
          exact dn
      · have hd : decide ((j : Int) < (l.length : Int)) = false := by rw [decide_eq_false_iff_not]; omega
        rw [List.drop_eq_nil_of_le (by omega), szL]
        repeat' first | refine g1 @hd ?_ | refine d1 @hd ?_ | refine j1 @hd (fun hg hgo => ?_) fun hg hgo => ?_ | refine ek_ret ?_ | refine ek_norm ?_ | refine ⟨by omega, ?_⟩ | rfl | trivial | intro _
theorem v_szBlock (x : BlockD) (left : Int) (h0 : 0 ≤ left ∧ left ≤ 1048576) (hx : x.ln) : C2 CC F_laws_szBlock [.fv (blockF x), iv left] (iv (szB x left)) [] := by
  obtain ⟨phis, list, term⟩ := x
  have he := v_szPhiS phis left h0 hx.1 hx.2.1
  have hle := szRow_le szP_le phis left h0
  have hll := hx.2.2
  unfold szB
  refine cw (keepF Try.f61) Try.f61 false ?_
  repeat' first | refine ck_intro (by first | exact he | exact v_szInsS _ _ (by omega) hll) ?_ ?_ | refine g0 ?_ | refine d0 ?_ | refine j0 (fun hg hgo => ?_) fun hg hgo => ?_ | refine ek_ret ?_ | refine ek_norm ?_ | refine ⟨by omega, ?_⟩ | rfl | trivial | intro _
  all_goals first | rfl | (simp_all [beqD, sub1]; done) | ((try simp only [sub1]); (repeat' split) <;> first | omega | (simp_all [beqD]; done) | (simp_all [beqD]; omega)) | (simp_all [beqD, sub1]; (repeat' split) <;> first | rfl | omega | (simp_all; done))
theorem v_szBlockS (l : List BlockD) (left : Int) (h0 : 0 ≤ left ∧ left ≤ 1048576) (hn : l.length ≤ 9223372036854775807) (hb : ∀ x ∈ l, x.ln) : C2 CC F_laws_szBlockS [.fv (.row 6 (l.map blockF)), iv left] (iv (szRow szB l left)) [] := by
  unfold szRow
  refine cw (keepF Try.f33) Try.f33 false ?_
  repeat' first | refine g0 ?_ | refine d0 ?_ | refine j0 (fun hg hgo => ?_) fun hg hgo => ?_ | refine ek_ret ?_ | refine ek_norm ?_ | refine ⟨by omega, ?_⟩ | rfl | trivial | intro _
  · refine pw_loop (fun m st => ∃ (j : Nat) (lf : Int), j + m = l.length ∧ szL szB l (left - l.length) = szL szB (l.drop j) lf ∧ 0 ≤ lf ∧ lf ≤ 1048576 ∧ st = [(0, .fv (.row 6 (l.map blockF))), (1, iv lf), (5, iv j)]) l.length [(0, .fv (.row 6 (l.map blockF))), (1, iv (left - l.length)), (5, iv (0 : Nat))] (sub_of ?_) ⟨0, _, by omega, by rw [List.drop_zero], by omega, by omega, rfl⟩ ?_
    · exact dn
    · rintro m st ⟨j, lf, hj, hz, hl0, hl1, rfl⟩
      rw [hz]
      by_cases hlt : j < l.length
      · have hd : decide ((j : Int) < (l.length : Int)) = true := by rw [decide_eq_true_eq]; omega
        have hm1 : j < (l.map blockF).length := by rw [List.length_map]; exact hlt
        have hel := v_szBlock l[j] lf ⟨hl0, hl1⟩ (hb _ (List.getElem_mem hlt))
        have hle := szB_le l[j] lf ⟨hl0, hl1⟩
        rw [List.drop_eq_getElem_cons hlt, szL] at hz ⊢
        repeat' first | refine ck_intro (by first | exact hel) ?_ ?_ | refine g1 @hd ?_ | refine d1 @hd ?_ | refine j1 @hd (fun hg hgo => ?_) fun hg hgo => ?_ | refine ek_ret ?_ | refine ek_norm ?_ | refine ⟨by omega, ?_⟩ | rfl | trivial | intro _
        · rw [if_neg (by omega)] at hz
          refine rd_norm [(0, .fv (.row 6 (l.map blockF))), (1, iv (szB l[j] lf)), (5, iv (j + 1 : Nat))] (sub_of ?_) (m - 1) (by omega) ⟨j + 1, _, by omega, rfl, by omega, by omega, rfl⟩
          exact dn
      · have hd : decide ((j : Int) < (l.length : Int)) = false := by rw [decide_eq_false_iff_not]; omega
        rw [List.drop_eq_nil_of_le (by omega), szL]
        repeat' first | refine g1 @hd ?_ | refine d1 @hd ?_ | refine j1 @hd (fun hg hgo => ?_) fun hg hgo => ?_ | refine ek_ret ?_ | refine ek_norm ?_ | refine ⟨by omega, ?_⟩ | rfl | trivial | intro _
theorem v_szFn (x : FnD) (left : Int) (h0 : 0 ≤ left ∧ left ≤ 1048576) (hx : x.ln) : C2 CC F_laws_szFn [.fv (fnF x), iv left] (iv (szFn x left)) [] := by
  obtain ⟨blocks, values⟩ := x
  have he := v_szBlockS blocks left h0 hx.1 hx.2
  unfold szFn
  refine cw (keepF Try.f7) Try.f7 false ?_
  repeat' first | refine ck_intro (by first | exact he) ?_ ?_ | refine g0 ?_ | refine d0 ?_ | refine j0 (fun hg hgo => ?_) fun hg hgo => ?_ | refine ek_ret ?_ | refine ek_norm ?_ | refine ⟨by omega, ?_⟩ | rfl | trivial | intro _
  all_goals first | rfl | (simp_all [beqD, sub1]; done) | ((try simp only [sub1]); (repeat' split) <;> first | omega | (simp_all [beqD]; done) | (simp_all [beqD]; omega)) | (simp_all [beqD, sub1]; (repeat' split) <;> first | rfl | omega | (simp_all; done))
theorem fzL_rowD {α : Type} {o : α → DV} {g : α → FV} (h : ∀ x, fzD (o x) = some (g x)) : ∀ (l : List α), fzL (rowD o l) = some (l.map g)
  | [] => rfl
  | a :: l => by
    have ih := fzL_rowD h l
    unfold rowD at ih ⊢
    rw [List.map_cons, fzL_cons, h a, ih]; rfl
@[go_sem] theorem fzL_arms {l : List ArmD} : fzL (rowD armO l) = some (l.map armF) := fzL_rowD (fun _ => rfl) l
@[go_sem] theorem fzD_phiO {x : PhiD} : fzD (phiO x) = some (phiF x) := by
  show fzD (.agg _) = _; rw [fzD_agg, fzL_cons, fzD_fv, fzL_cons, fzD_own, fzL_arms]; rfl
@[go_sem] theorem fzL_phis {l : List PhiD} : fzL (rowD phiO l) = some (l.map phiF) := fzL_rowD (fun _ => fzD_phiO) l
@[go_sem] theorem fzL_ins {l : List StepD} : fzL (rowD sF l) = some (l.map stF) := fzL_rowD (fun _ => rfl) l
@[go_sem] theorem fzD_blockO {x : BlockD} : fzD (blockO x) = some (blockF x) := by
  show fzD (.agg _) = _; rw [fzD_agg, fzL_cons, fzD_own, fzL_phis, fzL_cons, fzD_own, fzL_ins]; rfl
@[go_sem] theorem fzL_blocks {l : List BlockD} : fzL (rowD blockO l) = some (l.map blockF) := fzL_rowD (fun _ => fzD_blockO) l
def ctL {α : Type} (c : α → Nat) (l : List α) : Nat := (l.map c).sum
def mkL {α : Type} (c : α → Nat) (e : Int → α → α) : Int → List α → List α
  | _, [] => []
  | k, x :: l => e k x :: mkL c e (k + c x) l
section
variable {α : Type} {c : α → Nat} {e : Int → α → α} {l : List α} {j : Nat} {k : Int}
theorem ct_app {a b : List α} : ctL c (a ++ b) = ctL c a + ctL c b := by unfold ctL; rw [List.map_append, List.sum_append]
theorem mk_app : ∀ (k : Int) (a b : List α), mkL c e k (a ++ b) = mkL c e k a ++ mkL c e (k + ctL c a) b
  | k, [], b => by simp [mkL, ctL]
  | k, x :: a, b => by
    rw [List.cons_append, mkL, mkL, mk_app, List.cons_append, show k + (c x : Int) + (ctL c a : Int) = k + (ctL c (x :: a) : Int) by unfold ctL; rw [List.map_cons, List.sum_cons]; omega]
theorem mk_len : ∀ (k : Int) (l : List α), (mkL c e k l).length = l.length
  | _, [] => rfl
  | k, x :: l => by rw [mkL, List.length_cons, mk_len, List.length_cons]
theorem ct_take (h : j < l.length) : (ctL c (l.take (j + 1)) : Int) = (ctL c (l.take j) : Int) + (c l[j] : Int) := by
  rw [List.take_succ_eq_append_getElem h, ct_app]
  unfold ctL; simp
theorem ct_le (n : Nat) : (ctL c (l.take n) : Int) ≤ (ctL c l : Int) := by
  have h := ct_app (c := c) (a := l.take n) (b := l.drop n)
  rw [List.take_append_drop] at h
  omega
theorem mk_take (k : Int) (h : j < l.length) : mkL c e k (l.take (j + 1)) = mkL c e k (l.take j) ++ [e (k + (ctL c (l.take j) : Int)) l[j]] := by
  rw [List.take_succ_eq_append_getElem h, mk_app]; rfl
theorem mk_take_len (h : j < l.length) : (mkL c e k (l.take j)).length = j := by rw [mk_len, List.length_take]; omega
theorem row_set {o : α → DV} {a : List α} (ha : a.length = j) (h : j < l.length) (y : α) : (rowD o (a ++ l.drop j)).set j (o y) = rowD o (a ++ y :: l.drop (j + 1)) := by
  unfold rowD
  rw [List.drop_eq_getElem_cons h, List.map_append, List.map_append, List.set_append_right _ _ (by rw [List.length_map]; omega), List.length_map, ha, Nat.sub_self, List.map_cons, List.set_cons_zero, List.map_cons]
theorem row_get {o : α → DV} {a : List α} (ha : a.length = j) (h : j < l.length) : (rowD o (a ++ l.drop j))[j]? = some (o l[j]) := by
  unfold rowD
  rw [List.drop_eq_getElem_cons h, List.map_append, List.getElem?_append_right (by rw [List.length_map]; omega), List.length_map, ha, Nat.sub_self, List.map_cons, List.getElem?_cons_zero]
end
def ctA (_ : ArmD) : Nat := 2
def mkA1 (k : Int) (_ : ArmD) : ArmD := ⟨k, k + 1⟩
theorem v_markArmS (k : Int) (l : List ArmD) (hk : 0 ≤ k ∧ k + ctL ctA l < 1099511627776) (hn : l.length < 1073741824) (hb : ∀ x ∈ l, True) : C2 CC F_laws_markArmS [.own 2 (rowD armO l), iv k] (iv (k + ctL ctA l)) [.own 2 (rowD armO (mkL ctA mkA1 k l))] := by
  refine cw (keepF Try.f118) Try.f118 false ?_
  repeat' first | refine g0 ?_ | refine d0 ?_ | refine j0 (fun hg hgo => ?_) fun hg hgo => ?_ | refine ek_ret ?_ | refine ek_norm ?_ | refine ⟨by omega, ?_⟩ | rfl | trivial | intro _
  refine pw_loop (fun m st => ∃ j : Nat, j + m = l.length ∧ st = [(0, .hdr (1000000, []) 2 l.length), (1, iv (k + ctL ctA (l.take j))), (5, iv j), (1000000, .own 2 (rowD armO (mkL ctA mkA1 k (l.take j) ++ l.drop j)))]) l.length [(0, .hdr (1000000, []) 2 l.length), (1, iv (k + ctL ctA (l.take 0))), (5, iv (0 : Nat)), (1000000, .own 2 (rowD armO (mkL ctA mkA1 k (l.take 0) ++ l.drop 0)))] (sub_of ?_) ⟨0, by omega, rfl⟩ ?_
  · have h0 : k + (ctL ctA (l.take 0) : Int) = k := by rw [List.take_zero]; exact Int.add_zero k
    rw [h0, List.take_zero, mkL, List.drop_zero, List.nil_append]
    exact dn
  · rintro m st ⟨j, hj, rfl⟩
    by_cases hlt : j < l.length
    · have hd : decide ((j : Int) < (l.length : Int)) = true := by rw [decide_eq_true_eq]; omega
      have hx := hb l[j] (List.getElem_mem hlt)
      have hct := ct_take (c := ctA) hlt
      have hcl := ct_le (c := ctA) (l := l) (j + 1)
      have hm := mk_take (c := ctA) (e := mkA1) k hlt
      have hs : ∀ y : ArmD, (rowD armO (mkL ctA mkA1 k (l.take j) ++ l.drop j)).set j (armO y) = rowD armO (mkL ctA mkA1 k (l.take j) ++ y :: l.drop (j + 1)) := fun y => row_set (mk_take_len hlt) hlt y
      have hg := row_get (o := armO) (mk_take_len (c := ctA) (e := mkA1) (k := k) hlt) hlt
      have hL : (rowD armO (mkL ctA mkA1 k (l.take j) ++ l.drop j)).length = l.length := by rw [rowD_len, List.length_append, mk_take_len hlt, List.length_drop]; omega
      have hnr : noRefs (rowD armO (mkL ctA mkA1 k (l.take j) ++ l.drop j)) = true := nrs_rowD fun x => rfl
      have hm1 : rowD armO (mkL ctA mkA1 k (l.take (j + 1)) ++ l.drop (j + 1)) = (rowD armO (mkL ctA mkA1 k (l.take j) ++ l.drop j)).set j (armO (mkA1 (k + (ctL ctA (l.take j) : Int)) l[j])) := by rw [hm, List.append_assoc, List.singleton_append, ← hs]
      clear hm
      generalize rowD armO (mkL ctA mkA1 k (l.take j) ++ l.drop j) = L at hs hg hL hnr hm1
      rw [hct] at hcl
      have hk2 : k + (ctL ctA (l.take (j + 1)) : Int) = k + (ctL ctA (l.take j) : Int) + (ctA l[j] : Int) := by omega
      clear hct
      generalize hT : (ctL ctA (l.take j) : Int) = t at hcl hk2 hm1 ⊢
      skip
      have hjL : j < L.length := by omega
      have hss : ∀ d, (L.set j d)[j]? = some d := fun d => List.getElem?_set_self hjL
      repeat' first | refine g7 @hd @hL @hg @hnr @hss @List.set_set.{0} @List.length_set.{0} ?_ | refine d7 @hd @hL @hg @hnr @hss @List.set_set.{0} @List.length_set.{0} ?_ | refine j7 @hd @hL @hg @hnr @hss @List.set_set.{0} @List.length_set.{0} (fun hg hgo => ?_) fun hg hgo => ?_ | refine ek_ret ?_ | refine ek_norm ?_ | refine ⟨by omega, ?_⟩ | rfl | trivial | intro _
      refine rd_norm [(0, .hdr (1000000, []) 2 l.length), (1, iv (k + ctL ctA (l.take (j + 1)))), (5, iv (j + 1 : Nat)), (1000000, .own 2 (rowD armO (mkL ctA mkA1 k (l.take (j + 1)) ++ l.drop (j + 1))))] (sub_of ?_) (m - 1) (by omega) ⟨j + 1, by omega, rfl⟩
      rw [hk2, hm1]
      rw [show k + t + (ctA l[j] : Int) = k + t + 1 + 1 by unfold ctA; omega]
      exact dn
    · have hd : decide ((j : Int) < (l.length : Int)) = false := by rw [decide_eq_false_iff_not]; omega
      have hjn : j = l.length := by omega
      subst hjn
      rw [List.take_length]
      have h0 : rowD armO (mkL ctA mkA1 k l ++ l.drop l.length) = rowD armO (mkL ctA mkA1 k l) := by simp
      repeat' first | refine g2 @hd @h0 ?_ | refine d2 @hd @h0 ?_ | refine j2 @hd @h0 (fun hg hgo => ?_) fun hg hgo => ?_ | refine ek_ret ?_ | refine ek_norm ?_ | refine ⟨by omega, ?_⟩ | rfl | trivial | intro _
def ctP (x : PhiD) : Nat := 1 + ctL ctA x.arms
def mkP (k : Int) (x : PhiD) : PhiD := ⟨k, mkL ctA mkA1 (k + 1) x.arms⟩
theorem v_markPhiS (k : Int) (l : List PhiD) (hk : 0 ≤ k ∧ k + ctL ctP l < 1099511627776) (hn : l.length < 1073741824) (hb : ∀ x ∈ l, x.arms.length < 1073741824) : C2 CC F_laws_markPhiS [.own 2 (rowD phiO l), iv k] (iv (k + ctL ctP l)) [.own 2 (rowD phiO (mkL ctP mkP k l))] := by
  refine cw (keepF Try.f79) Try.f79 false ?_
  repeat' first | refine g0 ?_ | refine d0 ?_ | refine j0 (fun hg hgo => ?_) fun hg hgo => ?_ | refine ek_ret ?_ | refine ek_norm ?_ | refine ⟨by omega, ?_⟩ | rfl | trivial | intro _
  refine pw_loop (fun m st => ∃ j : Nat, j + m = l.length ∧ st = [(0, .hdr (1000000, []) 2 l.length), (1, iv (k + ctL ctP (l.take j))), (5, iv j), (1000000, .own 2 (rowD phiO (mkL ctP mkP k (l.take j) ++ l.drop j)))]) l.length [(0, .hdr (1000000, []) 2 l.length), (1, iv (k + ctL ctP (l.take 0))), (5, iv (0 : Nat)), (1000000, .own 2 (rowD phiO (mkL ctP mkP k (l.take 0) ++ l.drop 0)))] (sub_of ?_) ⟨0, by omega, rfl⟩ ?_
  · have h0 : k + (ctL ctP (l.take 0) : Int) = k := by rw [List.take_zero]; exact Int.add_zero k
    rw [h0, List.take_zero, mkL, List.drop_zero, List.nil_append]
    exact dn
  · rintro m st ⟨j, hj, rfl⟩
    by_cases hlt : j < l.length
    · have hd : decide ((j : Int) < (l.length : Int)) = true := by rw [decide_eq_true_eq]; omega
      have hx := hb l[j] (List.getElem_mem hlt)
      have hct := ct_take (c := ctP) hlt
      have hcl := ct_le (c := ctP) (l := l) (j + 1)
      have hm := mk_take (c := ctP) (e := mkP) k hlt
      have hs : ∀ y : PhiD, (rowD phiO (mkL ctP mkP k (l.take j) ++ l.drop j)).set j (phiO y) = rowD phiO (mkL ctP mkP k (l.take j) ++ y :: l.drop (j + 1)) := fun y => row_set (mk_take_len hlt) hlt y
      have hg := row_get (o := phiO) (mk_take_len (c := ctP) (e := mkP) (k := k) hlt) hlt
      have hL : (rowD phiO (mkL ctP mkP k (l.take j) ++ l.drop j)).length = l.length := by rw [rowD_len, List.length_append, mk_take_len hlt, List.length_drop]; omega
      have hnr : noRefs (rowD phiO (mkL ctP mkP k (l.take j) ++ l.drop j)) = true := nrs_rowD fun x => nr_phiO
      have hm1 : rowD phiO (mkL ctP mkP k (l.take (j + 1)) ++ l.drop (j + 1)) = (rowD phiO (mkL ctP mkP k (l.take j) ++ l.drop j)).set j (phiO (mkP (k + (ctL ctP (l.take j) : Int)) l[j])) := by rw [hm, List.append_assoc, List.singleton_append, ← hs]
      clear hm
      generalize rowD phiO (mkL ctP mkP k (l.take j) ++ l.drop j) = L at hs hg hL hnr hm1
      rw [hct] at hcl
      have hk2 : k + (ctL ctP (l.take (j + 1)) : Int) = k + (ctL ctP (l.take j) : Int) + (ctP l[j] : Int) := by omega
      clear hct
      generalize hT : (ctL ctP (l.take j) : Int) = t at hcl hk2 hm1 ⊢
      have hcc : (ctP l[j] : Int) = 1 + (ctL ctA l[j].arms : Int) := by unfold ctP; omega
      have hjL : j < L.length := by omega
      have hss : ∀ d, (L.set j d)[j]? = some d := fun d => List.getElem?_set_self hjL
      repeat' first | refine ck_intro (by first | exact v_markArmS _ _ (by omega) hx (fun _ _ => trivial)) ?_ ?_ | refine g7 @hd @hL @hg @hnr @hss @List.set_set.{0} @List.length_set.{0} ?_ | refine d7 @hd @hL @hg @hnr @hss @List.set_set.{0} @List.length_set.{0} ?_ | refine j7 @hd @hL @hg @hnr @hss @List.set_set.{0} @List.length_set.{0} (fun hg hgo => ?_) fun hg hgo => ?_ | refine ek_ret ?_ | refine ek_norm ?_ | refine ⟨by omega, ?_⟩ | rfl | trivial | intro _
      refine rd_norm [(0, .hdr (1000000, []) 2 l.length), (1, iv (k + ctL ctP (l.take (j + 1)))), (5, iv (j + 1 : Nat)), (1000000, .own 2 (rowD phiO (mkL ctP mkP k (l.take (j + 1)) ++ l.drop (j + 1))))] (sub_of ?_) (m - 1) (by omega) ⟨j + 1, by omega, rfl⟩
      rw [hk2, hm1]
      rw [show k + t + (ctP l[j] : Int) = k + t + 1 + (ctL ctA l[j].arms : Int) by omega]
      exact dn
    · have hd : decide ((j : Int) < (l.length : Int)) = false := by rw [decide_eq_false_iff_not]; omega
      have hjn : j = l.length := by omega
      subst hjn
      rw [List.take_length]
      have h0 : rowD phiO (mkL ctP mkP k l ++ l.drop l.length) = rowD phiO (mkL ctP mkP k l) := by simp
      repeat' first | refine g2 @hd @h0 ?_ | refine d2 @hd @h0 ?_ | refine j2 @hd @h0 (fun hg hgo => ?_) fun hg hgo => ?_ | refine ek_ret ?_ | refine ek_norm ?_ | refine ⟨by omega, ?_⟩ | rfl | trivial | intro _
def ctS (_ : StepD) : Nat := 5
def mkS5 (k : Int) (_ : StepD) : StepD := ⟨k, k + 1, k + 1 + 1, k + 1 + 1 + 1, k + 1 + 1 + 1 + 1⟩
theorem v_markInsS (k : Int) (l : List StepD) (hk : 0 ≤ k ∧ k + ctL ctS l < 1099511627776) (hn : l.length < 1073741824) (hb : ∀ x ∈ l, True) : C2 CC F_laws_markInsS [.own 5 (rowD sF l), iv k] (iv (k + ctL ctS l)) [.own 5 (rowD sF (mkL ctS mkS5 k l))] := by
  refine cw (keepF Try.f80) Try.f80 false ?_
  repeat' first | refine g0 ?_ | refine d0 ?_ | refine j0 (fun hg hgo => ?_) fun hg hgo => ?_ | refine ek_ret ?_ | refine ek_norm ?_ | refine ⟨by omega, ?_⟩ | rfl | trivial | intro _
  refine pw_loop (fun m st => ∃ j : Nat, j + m = l.length ∧ st = [(0, .hdr (1000000, []) 5 l.length), (1, iv (k + ctL ctS (l.take j))), (5, iv j), (1000000, .own 5 (rowD sF (mkL ctS mkS5 k (l.take j) ++ l.drop j)))]) l.length [(0, .hdr (1000000, []) 5 l.length), (1, iv (k + ctL ctS (l.take 0))), (5, iv (0 : Nat)), (1000000, .own 5 (rowD sF (mkL ctS mkS5 k (l.take 0) ++ l.drop 0)))] (sub_of ?_) ⟨0, by omega, rfl⟩ ?_
  · have h0 : k + (ctL ctS (l.take 0) : Int) = k := by rw [List.take_zero]; exact Int.add_zero k
    rw [h0, List.take_zero, mkL, List.drop_zero, List.nil_append]
    exact dn
  · rintro m st ⟨j, hj, rfl⟩
    by_cases hlt : j < l.length
    · have hd : decide ((j : Int) < (l.length : Int)) = true := by rw [decide_eq_true_eq]; omega
      have hx := hb l[j] (List.getElem_mem hlt)
      have hct := ct_take (c := ctS) hlt
      have hcl := ct_le (c := ctS) (l := l) (j + 1)
      have hm := mk_take (c := ctS) (e := mkS5) k hlt
      have hs : ∀ y : StepD, (rowD sF (mkL ctS mkS5 k (l.take j) ++ l.drop j)).set j (sF y) = rowD sF (mkL ctS mkS5 k (l.take j) ++ y :: l.drop (j + 1)) := fun y => row_set (mk_take_len hlt) hlt y
      have hg := row_get (o := sF) (mk_take_len (c := ctS) (e := mkS5) (k := k) hlt) hlt
      have hL : (rowD sF (mkL ctS mkS5 k (l.take j) ++ l.drop j)).length = l.length := by rw [rowD_len, List.length_append, mk_take_len hlt, List.length_drop]; omega
      have hnr : noRefs (rowD sF (mkL ctS mkS5 k (l.take j) ++ l.drop j)) = true := nrs_rowD fun x => rfl
      have hm1 : rowD sF (mkL ctS mkS5 k (l.take (j + 1)) ++ l.drop (j + 1)) = (rowD sF (mkL ctS mkS5 k (l.take j) ++ l.drop j)).set j (sF (mkS5 (k + (ctL ctS (l.take j) : Int)) l[j])) := by rw [hm, List.append_assoc, List.singleton_append, ← hs]
      clear hm
      generalize rowD sF (mkL ctS mkS5 k (l.take j) ++ l.drop j) = L at hs hg hL hnr hm1
      rw [hct] at hcl
      have hk2 : k + (ctL ctS (l.take (j + 1)) : Int) = k + (ctL ctS (l.take j) : Int) + (ctS l[j] : Int) := by omega
      clear hct
      generalize hT : (ctL ctS (l.take j) : Int) = t at hcl hk2 hm1 ⊢
      skip
      have hjL : j < L.length := by omega
      have hss : ∀ d, (L.set j d)[j]? = some d := fun d => List.getElem?_set_self hjL
      repeat' first | refine g7 @hd @hL @hg @hnr @hss @List.set_set.{0} @List.length_set.{0} ?_ | refine d7 @hd @hL @hg @hnr @hss @List.set_set.{0} @List.length_set.{0} ?_ | refine j7 @hd @hL @hg @hnr @hss @List.set_set.{0} @List.length_set.{0} (fun hg hgo => ?_) fun hg hgo => ?_ | refine ek_ret ?_ | refine ek_norm ?_ | refine ⟨by omega, ?_⟩ | rfl | trivial | intro _
      refine rd_norm [(0, .hdr (1000000, []) 5 l.length), (1, iv (k + ctL ctS (l.take (j + 1)))), (5, iv (j + 1 : Nat)), (1000000, .own 5 (rowD sF (mkL ctS mkS5 k (l.take (j + 1)) ++ l.drop (j + 1))))] (sub_of ?_) (m - 1) (by omega) ⟨j + 1, by omega, rfl⟩
      rw [hk2, hm1]
      rw [show k + t + (ctS l[j] : Int) = k + t + 1 + 1 + 1 + 1 + 1 by unfold ctS; omega]
      exact dn
    · have hd : decide ((j : Int) < (l.length : Int)) = false := by rw [decide_eq_false_iff_not]; omega
      have hjn : j = l.length := by omega
      subst hjn
      rw [List.take_length]
      have h0 : rowD sF (mkL ctS mkS5 k l ++ l.drop l.length) = rowD sF (mkL ctS mkS5 k l) := by simp
      repeat' first | refine g2 @hd @h0 ?_ | refine d2 @hd @h0 ?_ | refine j2 @hd @h0 (fun hg hgo => ?_) fun hg hgo => ?_ | refine ek_ret ?_ | refine ek_norm ?_ | refine ⟨by omega, ?_⟩ | rfl | trivial | intro _
def ctB (x : BlockD) : Nat := ctL ctP x.phis + ctL ctS x.list + 4
def mkT (k : Int) : TermD := ⟨k, k + 1, k + 1 + 1, k + 1 + 1 + 1⟩
def mkBk (k : Int) (x : BlockD) : BlockD := ⟨mkL ctP mkP k x.phis, mkL ctS mkS5 (k + ctL ctP x.phis) x.list, mkT (k + ctL ctP x.phis + ctL ctS x.list)⟩
theorem v_markBlockS (k : Int) (l : List BlockD) (hk : 0 ≤ k ∧ k + ctL ctB l < 1099511627776) (hn : l.length < 1073741824) (hb : ∀ x ∈ l, x.ok) : C2 CC F_laws_markBlockS [.own 6 (rowD blockO l), iv k] (iv (k + ctL ctB l)) [.own 6 (rowD blockO (mkL ctB mkBk k l))] := by
  refine cw (keepF Try.f41) Try.f41 false ?_
  repeat' first | refine g0 ?_ | refine d0 ?_ | refine j0 (fun hg hgo => ?_) fun hg hgo => ?_ | refine ek_ret ?_ | refine ek_norm ?_ | refine ⟨by omega, ?_⟩ | rfl | trivial | intro _
  refine pw_loop (fun m st => ∃ j : Nat, j + m = l.length ∧ st = [(0, .hdr (1000000, []) 6 l.length), (1, iv (k + ctL ctB (l.take j))), (5, iv j), (1000000, .own 6 (rowD blockO (mkL ctB mkBk k (l.take j) ++ l.drop j)))]) l.length [(0, .hdr (1000000, []) 6 l.length), (1, iv (k + ctL ctB (l.take 0))), (5, iv (0 : Nat)), (1000000, .own 6 (rowD blockO (mkL ctB mkBk k (l.take 0) ++ l.drop 0)))] (sub_of ?_) ⟨0, by omega, rfl⟩ ?_
  · have h0 : k + (ctL ctB (l.take 0) : Int) = k := by rw [List.take_zero]; exact Int.add_zero k
    rw [h0, List.take_zero, mkL, List.drop_zero, List.nil_append]
    exact dn
  · rintro m st ⟨j, hj, rfl⟩
    by_cases hlt : j < l.length
    · have hd : decide ((j : Int) < (l.length : Int)) = true := by rw [decide_eq_true_eq]; omega
      have hx := hb l[j] (List.getElem_mem hlt)
      have hct := ct_take (c := ctB) hlt
      have hcl := ct_le (c := ctB) (l := l) (j + 1)
      have hm := mk_take (c := ctB) (e := mkBk) k hlt
      have hs : ∀ y : BlockD, (rowD blockO (mkL ctB mkBk k (l.take j) ++ l.drop j)).set j (blockO y) = rowD blockO (mkL ctB mkBk k (l.take j) ++ y :: l.drop (j + 1)) := fun y => row_set (mk_take_len hlt) hlt y
      have hg := row_get (o := blockO) (mk_take_len (c := ctB) (e := mkBk) (k := k) hlt) hlt
      have hL : (rowD blockO (mkL ctB mkBk k (l.take j) ++ l.drop j)).length = l.length := by rw [rowD_len, List.length_append, mk_take_len hlt, List.length_drop]; omega
      have hnr : noRefs (rowD blockO (mkL ctB mkBk k (l.take j) ++ l.drop j)) = true := nrs_rowD fun x => nr_blockO
      have hm1 : rowD blockO (mkL ctB mkBk k (l.take (j + 1)) ++ l.drop (j + 1)) = (rowD blockO (mkL ctB mkBk k (l.take j) ++ l.drop j)).set j (blockO (mkBk (k + (ctL ctB (l.take j) : Int)) l[j])) := by rw [hm, List.append_assoc, List.singleton_append, ← hs]
      clear hm
      generalize rowD blockO (mkL ctB mkBk k (l.take j) ++ l.drop j) = L at hs hg hL hnr hm1
      rw [hct] at hcl
      have hk2 : k + (ctL ctB (l.take (j + 1)) : Int) = k + (ctL ctB (l.take j) : Int) + (ctB l[j] : Int) := by omega
      clear hct
      generalize hT : (ctL ctB (l.take j) : Int) = t at hcl hk2 hm1 ⊢
      have hcc : (ctB l[j] : Int) = (ctL ctP l[j].phis : Int) + (ctL ctS l[j].list : Int) + 4 := by unfold ctB; omega
      have hjL : j < L.length := by omega
      have hss : ∀ d, (L.set j d)[j]? = some d := fun d => List.getElem?_set_self hjL
      repeat' first | refine ck_intro (by first | exact v_markPhiS _ _ (by omega) hx.1 hx.2.1 | exact v_markInsS _ _ (by omega) hx.2.2 (fun _ _ => trivial)) ?_ ?_ | refine g7 @hd @hL @hg @hnr @hss @List.set_set.{0} @List.length_set.{0} ?_ | refine d7 @hd @hL @hg @hnr @hss @List.set_set.{0} @List.length_set.{0} ?_ | refine j7 @hd @hL @hg @hnr @hss @List.set_set.{0} @List.length_set.{0} (fun hg hgo => ?_) fun hg hgo => ?_ | refine ek_ret ?_ | refine ek_norm ?_ | refine ⟨by omega, ?_⟩ | rfl | trivial | intro _
      refine rd_norm [(0, .hdr (1000000, []) 6 l.length), (1, iv (k + ctL ctB (l.take (j + 1)))), (5, iv (j + 1 : Nat)), (1000000, .own 6 (rowD blockO (mkL ctB mkBk k (l.take (j + 1)) ++ l.drop (j + 1))))] (sub_of ?_) (m - 1) (by omega) ⟨j + 1, by omega, rfl⟩
      rw [hk2, hm1]
      rw [show k + t + (ctB l[j] : Int) = k + t + (ctL ctP l[j].phis : Int) + (ctL ctS l[j].list : Int) + 1 + 1 + 1 + 1 by omega]
      exact dn
    · have hd : decide ((j : Int) < (l.length : Int)) = false := by rw [decide_eq_false_iff_not]; omega
      have hjn : j = l.length := by omega
      subst hjn
      rw [List.take_length]
      have h0 : rowD blockO (mkL ctB mkBk k l ++ l.drop l.length) = rowD blockO (mkL ctB mkBk k l) := by simp
      repeat' first | refine g2 @hd @h0 ?_ | refine d2 @hd @h0 ?_ | refine j2 @hd @h0 (fun hg hgo => ?_) fun hg hgo => ?_ | refine ek_ret ?_ | refine ek_norm ?_ | refine ⟨by omega, ?_⟩ | rfl | trivial | intro _
def ctF (x : FnD) : Nat := ctL ctB x.blocks
theorem v_markFn (k : Int) (x : FnD) (hk : 0 ≤ k ∧ k + ctF x < 1099511627776) (hx : x.ok) : C2 CC F_laws_markFn [fnO x, iv k] (iv (k + ctF x)) [.junk 1] := by
  have h1 := v_markBlockS k x.blocks hk hx.1 hx.2
  obtain ⟨blocks, values⟩ := x
  unfold ctF at *
  refine cw (keepF Try.f13) Try.f13 false ?_
  repeat' first | refine ck_intro (by first | exact h1) ?_ ?_ | refine g0 ?_ | refine d0 ?_ | refine j0 (fun hg hgo => ?_) fun hg hgo => ?_ | refine ek_ret ?_ | refine ek_norm ?_ | refine ⟨by omega, ?_⟩ | rfl | trivial | intro _
theorem szL_ct {α : Type} {e : α → Int → Int} {c : α → Nat} (he : ∀ x left, 0 ≤ left ∧ left ≤ 1048576 → e x left ≤ left ∧ (0 ≤ e x left → (c x : Int) + 5 * e x left ≤ 5 * left + 5)) : ∀ (l : List α) (left : Int), 0 ≤ left ∧ left ≤ 1048576 → 0 ≤ szL e l left → (ctL c l : Int) + 5 * szL e l left ≤ 5 * left + 5 * (l.length : Int)
  | [], left, h, hz => by unfold szL ctL; simp
  | x :: l, left, h, hz => by
    have h1 := he x left h
    unfold szL at hz ⊢
    split at hz
    · omega
    · rename_i hn
      rw [if_neg hn]
      have h2 := szL_ct he l (e x left) (by omega) hz
      have h3 : (ctL c (x :: l) : Int) = (c x : Int) + (ctL c l : Int) := by unfold ctL; rw [List.map_cons, List.sum_cons]; omega
      have h4 := h1.2 (by omega)
      rw [h3, List.length_cons]
      omega
theorem szRow_ct {α : Type} {e : α → Int → Int} {c : α → Nat} (he : ∀ x left, 0 ≤ left ∧ left ≤ 1048576 → e x left ≤ left ∧ (0 ≤ e x left → (c x : Int) + 5 * e x left ≤ 5 * left + 5)) (l : List α) (left : Int) (h : 0 ≤ left ∧ left ≤ 1048576) (hz : 0 ≤ szRow e l left) : (ctL c l : Int) + 5 * szRow e l left ≤ 5 * left := by
  unfold szRow at hz ⊢
  split at hz
  · omega
  · rename_i hn
    rw [if_neg hn]
    have := szL_ct he l (left - l.length) (by omega) hz
    omega
theorem szP_ct (x : PhiD) (left : Int) (h : 0 ≤ left ∧ left ≤ 1048576) : szP x left ≤ left ∧ (0 ≤ szP x left → (ctP x : Int) + 5 * szP x left ≤ 5 * left + 5) := by
  refine ⟨(szP_le x left h).1, fun hz => ?_⟩
  have hc : (ctL ctA x.arms : Int) = 2 * (x.arms.length : Int) := by
    unfold ctL
    generalize x.arms = l
    induction l with
    | nil => rfl
    | cons a l ih => rw [List.map_cons, List.sum_cons, List.length_cons, show ctA a = 2 from rfl]; omega
  unfold szP sub1 at hz ⊢
  unfold ctP
  split at hz
  · omega
  · rename_i hn; rw [if_neg hn]; omega
theorem szB_ct (x : BlockD) (left : Int) (h : 0 ≤ left ∧ left ≤ 1048576) : szB x left ≤ left ∧ (0 ≤ szB x left → (ctB x : Int) + 5 * szB x left ≤ 5 * left + 5) := by
  refine ⟨(szB_le x left h).1, fun hz => ?_⟩
  have hc : (ctL ctS x.list : Int) = 5 * (x.list.length : Int) := by
    unfold ctL
    generalize x.list = l
    induction l with
    | nil => rfl
    | cons a l ih => rw [List.map_cons, List.sum_cons, List.length_cons, show ctS a = 5 from rfl]; omega
  unfold szB at hz ⊢
  unfold ctB
  split at hz
  · omega
  · rename_i hn
    rw [if_neg hn]
    have h1 := szRow_ct (c := ctP) szP_ct x.phis left h (by omega)
    unfold sub1 at hz ⊢
    split at hz
    · omega
    · rename_i hm; rw [if_neg hm]; omega
theorem ctF_le (x : FnD) (hz : 0 ≤ szFn x 1048576) : (ctF x : Int) ≤ 5242880 := by
  unfold szFn at hz
  split at hz
  · omega
  · have := szRow_ct (c := ctB) szB_ct x.blocks 1048576 (by omega) hz
    unfold ctF
    omega
theorem i64_wf {n : Int} (h : (Lit.int .i64 n).wf = true) : I64 n := by
  have h1 : IntKind.i64.min = -9223372036854775808 := by decide
  have h2 : IntKind.i64.max = 9223372036854775807 := by decide
  replace h : (decide (IntKind.i64.min ≤ n) && decide (n ≤ IntKind.i64.max)) = true := h
  rw [h1, h2] at h
  simpa [I64] using h
theorem ty_int {Γ : TypeId → Option TI} {g : Nat} {t : TypeId} {v : FV} {a b : Nat} {z : List Value} (hv : TyF Γ g t v) (ht : Γ t = some ⟨.int .i64, a, b, z⟩) : ∃ n, v = .int .i64 n ∧ I64 n := by
  obtain ⟨n, h1, h2⟩ := tyF_int hv ht
  exact ⟨n, h1, i64_wf h2⟩
theorem ty_step {Γ : TypeId → Option TI} {g : Nat} {t ti : TypeId} {v : FV} {a b a' b' : Nat} {z z' : List Value} (hv : TyF Γ g t v) (ht : Γ t = some ⟨.struct [(0, ti), (1, ti), (2, ti), (3, ti), (4, ti)], a, b, z⟩) (hi : Γ ti = some ⟨.int .i64, a', b', z'⟩) : ∃ x : StepD, v = stF x ∧ x.wf := by
  obtain ⟨x0, x1, x2, x3, x4, g', rfl, h0, h1, h2, h3, h4⟩ := tyF_struct5 hv ht
  obtain ⟨n0, rfl, w0⟩ := ty_int h0 hi
  obtain ⟨n1, rfl, w1⟩ := ty_int h1 hi
  obtain ⟨n2, rfl, w2⟩ := ty_int h2 hi
  obtain ⟨n3, rfl, w3⟩ := ty_int h3 hi
  obtain ⟨n4, rfl, w4⟩ := ty_int h4 hi
  exact ⟨⟨n0, n1, n2, n3, n4⟩, rfl, w0, w1, w2, w3, w4⟩
theorem maxLen_eq : maxLen = 9223372036854775807 := by decide
theorem ty_fn {Γ : TypeId → Option TI} {g : Nat} {t ti tb eb tp tl tt ep ta ea ei : TypeId} {v : FV} {a0 b0 a1 b1 b2 a3 b3 b4 a5 b5 b6 a7 b7 : Nat} {zi z0 z1 z2 z3 z4 z5 z6 z7 z8 z9 : List Value} {m n1 n2 n3 n4 : Nat}
    (hv : TyF Γ g t v) (ht : Γ t = some ⟨.struct [(0, tb), (1, ti)], a0, b0, z0⟩) (hi : Γ ti = some ⟨.int .i64, m, n1, zi⟩)
    (hb : Γ tb = some ⟨.slice eb, a1, b1, z1⟩) (heb : Γ eb = some ⟨.struct [(0, tp), (1, tl), (2, tt)], 6, b2, z2⟩)
    (hp : Γ tp = some ⟨.slice ep, a3, b3, z3⟩) (hep : Γ ep = some ⟨.struct [(0, ti), (1, ta)], 2, b4, z4⟩)
    (hta : Γ ta = some ⟨.slice ea, a5, b5, z5⟩) (hea : Γ ea = some ⟨.struct [(0, ti), (1, ti)], 2, b6, z6⟩)
    (hl : Γ tl = some ⟨.slice ei, a7, b7, z7⟩) (hei : Γ ei = some ⟨.struct [(0, ti), (1, ti), (2, ti), (3, ti), (4, ti)], 5, n2, z8⟩)
    (htt : Γ tt = some ⟨.struct [(0, ti), (1, ti), (2, ti), (3, ti)], n3, n4, z9⟩) : ∃ x : FnD, v = fnF x ∧ x.ln := by
  obtain ⟨x0, x1, g', rfl, h0, h1⟩ := tyF_struct2 hv ht
  obtain ⟨n, rfl, -⟩ := ty_int h1 hi
  have arm : ∀ g x, TyF Γ g ea x → ∃ a : ArmD, x = armF a ∧ True := fun g x hx => by
    obtain ⟨y0, y1, g', rfl, k0, k1⟩ := tyF_struct2 hx hea
    obtain ⟨n0, rfl, -⟩ := ty_int k0 hi
    obtain ⟨n1, rfl, -⟩ := ty_int k1 hi
    exact ⟨⟨n0, n1⟩, rfl, trivial⟩
  have phi : ∀ g x, TyF Γ g ep x → ∃ a : PhiD, x = phiF a ∧ a.ln := fun g x hx => by
    obtain ⟨y0, y1, g', rfl, k0, k1⟩ := tyF_struct2 hx hep
    obtain ⟨n0, rfl, -⟩ := ty_int k0 hi
    obtain ⟨l, rfl, -, hl⟩ := tyF_row k1 hta hea arm
    exact ⟨⟨n0, l⟩, rfl, by rw [maxLen_eq] at hl; exact hl⟩
  have ins : ∀ g x, TyF Γ g ei x → ∃ a : StepD, x = stF a ∧ True := fun g x hx => by
    obtain ⟨a, rfl, -⟩ := ty_step hx hei hi
    exact ⟨a, rfl, trivial⟩
  have blk : ∀ g x, TyF Γ g eb x → ∃ a : BlockD, x = blockF a ∧ a.ln := fun g x hx => by
    obtain ⟨y0, y1, y2, g', rfl, k0, k1, k2⟩ := tyF_struct3 hx heb
    obtain ⟨l0, rfl, q0, m0⟩ := tyF_row k0 hp hep phi
    obtain ⟨l1, rfl, -, m1⟩ := tyF_row k1 hl hei ins
    obtain ⟨w0, w1, w2, w3, g2, rfl, e0, e1, e2, e3⟩ := tyF_struct4 k2 htt
    obtain ⟨n0, rfl, -⟩ := ty_int e0 hi
    obtain ⟨n1, rfl, -⟩ := ty_int e1 hi
    obtain ⟨n2, rfl, -⟩ := ty_int e2 hi
    obtain ⟨n3, rfl, -⟩ := ty_int e3 hi
    exact ⟨⟨l0, l1, ⟨n0, n1, n2, n3⟩⟩, rfl, by rw [maxLen_eq] at m0; exact m0, q0, by rw [maxLen_eq] at m1; exact m1⟩
  obtain ⟨l, rfl, q, m⟩ := tyF_row h0 hb heb blk
  exact ⟨⟨l, n⟩, rfl, by rw [maxLen_eq] at m; exact m, q⟩
theorem eqNilBy : C2 CC F_laws_eqByteS [.fv .nil, .fv (.row 1 [])] (bv true) [] := by
  refine cw (keepF Try.f11) Try.f11 false ?_
  repeat' first | refine pd3 17 [0, 0, 3, 7, 0, 0, 48, 112, 255] [0, 0, 0, 1, 0, 0, 0, 1, 0] false ?_ | refine pw_unroll ?_ | refine g0 ?_ | refine d0 ?_ | refine j0 (fun hg hgo => ?_) fun hg hgo => ?_ | refine ek_ret ?_ | refine ek_norm ?_ | refine ⟨by omega, ?_⟩ | rfl | trivial | intro _
  all_goals (exfalso; omega)
theorem markNilBy : C2 CC F_laws_markByteS [.fv .nil, iv 1] (iv 1) [] := by
  refine cw (keepF Try.f14) Try.f14 false ?_
  repeat' first | refine pw_unroll ?_ | refine g0 ?_ | refine d0 ?_ | refine j0 (fun hg hgo => ?_) fun hg hgo => ?_ | refine ek_ret ?_ | refine ek_norm ?_ | refine ⟨by omega, ?_⟩ | rfl | trivial | intro _
theorem heldNilBy : C2 CC F_laws_heldByteS [.fv .nil, iv 1] (iv 1) [] := by
  refine cw (keepF Try.f15) Try.f15 false ?_
  repeat' first | refine pw_unroll ?_ | refine g0 ?_ | refine d0 ?_ | refine j0 (fun hg hgo => ?_) fun hg hgo => ?_ | refine ek_ret ?_ | refine ek_norm ?_ | refine ⟨by omega, ?_⟩ | rfl | trivial | intro _
theorem numsF_len {f : FnD} (hs : shapeB f = true) : (pkL (numsF f)).length ≤ 200000 := by
  have hsb : f.blocks.all (fun b => blockB b f.blocks.length f.values) = true := by
    unfold shapeB at hs; rw [Bool.and_eq_true] at hs; exact hs.2
  have h1 := flat_le (g := numsB) (c := 1000) (l := f.blocks) fun b hb => numsB_len (n := f.blocks.length) (v := f.values) (all_mem (p := fun b => blockB b f.blocks.length f.values) (x := b) hsb hb)
  have h2 := shape_len hs
  have h3 := pkL_len (numsF f)
  have h4 : (numsF f).length = 2 + (f.blocks.flatMap numsB).length := by unfold numsF; rw [List.length_append]; rfl
  omega
theorem v_FnExactPackFn (x : FnD) (hx : x.ln) : C2 CC F_laws_FnExactPackFn [.fv (fnF x)] (bv true) [] := by
  have hz := v_szFn x 1048576 (by omega) hx
  by_cases h0 : szFn x 1048576 < 0
  · have hd : decide (szFn x 1048576 < 0) = true := by rw [decide_eq_true_eq]; exact h0
    refine cw (keepF Try.f3) Try.f3 false ?_
    repeat' first | refine ck_intro (by first | exact hz) ?_ ?_ | refine pdx 41 [0, 0, 2, 7, 15] [2, 1, 6, 5, 0] ?_ | refine g1 @hd ?_ | refine d1 @hd ?_ | refine j1 @hd (fun hg hgo => ?_) fun hg hgo => ?_ | refine ek_ret ?_ | refine ek_norm ?_ | refine ⟨by omega, ?_⟩ | rfl | trivial | intro _
  · have hd : decide (szFn x 1048576 < 0) = false := by rw [decide_eq_false_iff_not]; exact h0
    obtain ⟨-, -, hok⟩ := szFn_ok x (by omega)
    have ht := v_toFn x hok
    have hcF := ctF_le x (by omega)
    have he := v_eqFn x x hok hok
    rw [decide_eq_true (rfl : x = x)] at he
    have hm := v_markFn 1 x ⟨by omega, by omega⟩ hok
    have hkm : decide ((1 : Int) + (ctF x : Int) < 0) = false := by rw [decide_eq_false_iff_not]; omega
    cases hp : shapeB x with
    | false =>
      have hs := v_PackFn_spec_no x hok hp
      have hi := v_PackFn_no x hok hp
      refine cw (keepF Try.f3) Try.f3 false ?_
      repeat' first | refine ck_intro (by first | exact hz | exact ht | exact hs | exact hi | exact he | exact hm | exact eqNilBy | exact markNilBy | exact heldNilBy) ?_ ?_ | refine pdx 41 [0, 0, 2, 7, 15] [2, 1, 6, 5, 0] ?_ | refine g2 @hd @hkm ?_ | refine d2 @hd @hkm ?_ | refine j2 @hd @hkm (fun hg hgo => ?_) fun hg hgo => ?_ | refine ek_ret ?_ | refine ek_norm ?_ | refine ⟨by omega, ?_⟩ | rfl | trivial | intro _
      all_goals (exfalso; omega)
    | true =>
      have hs := v_PackFn_spec x hok hp
      have hi := v_PackFn x hok hp
      cases hn : nsOk x with
      | false =>
        rw [hn, if_neg (by decide), show bys [] = [] from rfl] at hs
        rw [hn, if_neg (by decide)] at hi
        refine cw (keepF Try.f3) Try.f3 false ?_
        repeat' first | refine ck_intro (by first | exact hz | exact ht | exact hs | exact hi | exact he | exact hm | exact eqNilBy | exact markNilBy | exact heldNilBy) ?_ ?_ | refine pdx 41 [0, 0, 2, 7, 15] [2, 1, 6, 5, 0] ?_ | refine g2 @hd @hkm ?_ | refine d2 @hd @hkm ?_ | refine j2 @hd @hkm (fun hg hgo => ?_) fun hg hgo => ?_ | refine ek_ret ?_ | refine ek_norm ?_ | refine ⟨by omega, ?_⟩ | rfl | trivial | intro _
        all_goals (exfalso; omega)
      | true =>
        rw [hn, if_pos rfl] at hs hi
        have hb := numsF_len hp
        generalize pkL (numsF x) = r at hs hi hb
        have hq := v_eqByteS r r (by omega) (by omega)
        rw [decide_eq_true (rfl : r = r)] at hq
        have hmr := v_markByteS 1 r ⟨by omega, by omega⟩ (by omega)
        have hhr := v_heldByteS 1 r.length ⟨by omega, by omega⟩ (by omega)
        have hkr : decide ((1 : Int) + (r.length : Int) < 0) = false := by rw [decide_eq_false_iff_not]; omega
        refine cw (keepF Try.f3) Try.f3 false ?_
        repeat' first | refine ck_intro (by first | exact hz | exact ht | exact hs | exact hi | exact he | exact hm | exact hq | exact hmr | exact hhr) ?_ ?_ | refine pdx 41 [0, 0, 2, 7, 15] [2, 1, 6, 5, 0] ?_ | refine g3 @hd @hkm @hkr ?_ | refine d3 @hd @hkm @hkr ?_ | refine j3 @hd @hkm @hkr (fun hg hgo => ?_) fun hg hgo => ?_ | refine ek_ret ?_ | refine ek_norm ?_ | refine ⟨by omega, ?_⟩ | rfl | trivial | intro _
        all_goals (exfalso; omega)
end Go.Proofs.YtpinapckafbkiaaM
