/- Code that is trimmed, in plain words; rows of whole numbers. -/
import Derived.Test.YtbgaljpilmmefaaA4M1
namespace Go.Proofs.YtbgaljpilmmefaaM
open Go
set_option linter.unusedVariables false
set_option linter.unusedSimpArgs false
attribute [local irreducible] OpG Go Done OpV OpK OpH OpN OpL endQ exQ RunP OpsP Call pureV opV binV makeV effV appendV sliceV isPut

/- Whole numbers. -/
def encI (n : Int) : List Value := [.int .i64 n]
theorem encI_len (n : Int) : (encI n).length = 1 := nr rfl
def rInt : Rp Int := .flat 1 encI
theorem rInt_z : rInt.z = 1 := nr rfl
theorem rInt_R {h : Hp} {cs : List Value} {x : Int} : rInt.R h cs x = (cs = encI x) := nr rfl
theorem int_cells {h : Hp} {n o : Nat} {x : Int} (hc : h.cells n o 1 = some (encI x)) : h.cell n o = some (.int .i64 x) := cells_cell hc 0 _ rfl

@[go_sem] theorem apO_zero' {z nm n o len c : Nat} {h : Hp} {cs : List Value} : apO z nm (.slice (some ⟨n, o, none⟩) len c) h (some (cs, 0)) = some (.slice (some ⟨n, o, none⟩) len c, h) := nr rfl
@[go_sem] theorem apO_zero_nil' {z nm : Nat} {h : Hp} {cs : List Value} : apO z nm (.slice none 0 0) h (some (cs, 0)) = some (.slice none 0 0, h) := nr rfl
@[go_sem] theorem apB_nil {z nm n k' : Nat} {h : Hp} {cs : List Value} (h0 : k' ≠ 0) (hk : k' ≤ 1073741824) (hz : z ≠ 0) :
    apB z nm n 0 0 (U z) h cs k' (some ⟨[], true⟩) = some (.slice (some ⟨nm, 0, none⟩) k' (U z), (h.put n none).put nm (some { cells := cs, rw := true })) := by
  rw [apB_own (by simp) (by omega) h0 hz, Nat.zero_add, List.nil_append]

attribute [go_sem] Option.isNone_some Option.isNone_none
/-- A row of one's own, or none. -/
def OA {α : Type} (enc : α → List Value) (h : Hp) (a : Option Addr) (l : List α) : Prop := (a = none ∧ l = []) ∨ ∃ n, a = some ⟨n, 0, none⟩ ∧ n < h.next ∧ OF enc h n l
theorem OA.sl {α : Type} {enc : α → List Value} {z : Nat} {h : Hp} {a : Option Addr} {l : List α} (hz : ∀ x, (enc x).length = z) (o : OA enc h a l) : SL (.flat z enc) h a l := by
  rcases o with ⟨_, rfl⟩ | ⟨n, rfl, h1, h2⟩
  · intro j hj; simp at hj
  · exact h2.sl hz h1
theorem OA.mono {α : Type} {enc : α → List Value} {h h' : Hp} {a : Option Addr} {l : List α} (e : Ext h h') (o : OA enc h a l) : OA enc h' a l := by
  rcases o with h1 | ⟨n, h1, h2, h3⟩
  · exact .inl h1
  · exact .inr ⟨n, h1, Nat.lt_of_lt_of_le h2 e.1, h3.mono e h2⟩
/-- What is answered is a row of one's own. -/
def OwnF {α : Type} (enc : α → List Value) (h : Hp) (l : List α) (v : Value) (h' : Hp) : Prop := Ext h h' ∧ ∃ a c, v = .slice a l.length c ∧ OA enc h' a l ∧ (a = none → c = 0) ∧ ∀ x, a = some x → h.next ≤ x.block
theorem own_some {α : Type} {enc : α → List Value} {h h' : Hp} {l : List α} {n c : Nat} (e : Ext h h') (h1 : h.next ≤ n) (h2 : n < h'.next) (h3 : OF enc h' n l) : OwnF enc h l (.slice (some ⟨n, 0, none⟩) l.length c) h' :=
  ⟨e, _, c, rfl, .inr ⟨n, rfl, h2, h3⟩, (fun hh => by cases hh), fun x hx => by injection hx with hx; subst hx; exact h1⟩
theorem own_nil {α : Type} {enc : α → List Value} {h h' : Hp} (e : Ext h h') : OwnF enc h [] (.slice none 0 0) h' := ⟨e, none, 0, rfl, .inl ⟨rfl, rfl⟩, fun _ => rfl, fun x hx => by cases hx⟩

/-- A row that bears a list, whole. -/
def FL {α : Type} (enc : α → List Value) (z : Nat) (h : Hp) (a : Option Addr) (c : Nat) (l : List α) : Prop := (a = none ∧ l = [] ∧ c = 0) ∨ ∃ n o, a = some ⟨n, o, none⟩ ∧ n < h.next ∧ h.cells n o (l.length * z) = some (l.flatMap enc)
theorem FL.mono {α : Type} {enc : α → List Value} {z : Nat} {h h' : Hp} {a : Option Addr} {c : Nat} {l : List α} (e : Ext h h') (r : FL enc z h a c l) : FL enc z h' a c l := by
  rcases r with h1 | ⟨n, o, h1, h2, h3⟩
  · exact .inl h1
  · exact .inr ⟨n, o, h1, Nat.lt_of_lt_of_le h2 e.1, by rw [ext_cells e n _ _ h2, h3]⟩
theorem cells_sub {h : Hp} {n o z k w : Nat} {cs : List Value} (hc : h.cells n o z = some cs) (hk : k + w ≤ z) : h.cells n (o + k) w = some ((cs.drop k).take w) := by
  unfold Hp.cells at hc ⊢
  cases hb : h.blk n with
  | none => rw [hb] at hc; cases hc
  | some b =>
    rw [hb] at hc
    simp only [Option.bind_some] at hc ⊢
    split at hc
    · injection hc with hc
      subst hc
      rw [if_pos (by omega), List.drop_take, List.take_take, List.drop_drop, Nat.min_eq_left (by omega)]
    · cases hc
theorem FL.sl {α : Type} {enc : α → List Value} {z : Nat} {h : Hp} {a : Option Addr} {c : Nat} {l : List α} (hz : ∀ x, (enc x).length = z) (r : FL enc z h a c l) : SL (.flat z enc) h a l := by
  rcases r with ⟨_, rfl, _⟩ | ⟨n, o, rfl, h2, h3⟩
  · intro j hj; simp at hj
  · intro j hj
    obtain ⟨q1, q2⟩ := flat_get hz l j hj
    refine ⟨n, o, enc l[j], rfl, h2, ?_, rfl⟩
    have : j * z + z ≤ l.length * z := by rw [flat_len hz] at q2; rw [Nat.add_mul, Nat.one_mul] at q2; exact q2
    show h.cells n (o + j * z) z = _
    rw [cells_sub h3 this, q1]
theorem OF.fl {α : Type} {enc : α → List Value} {z : Nat} {h : Hp} {n c : Nat} {l : List α} (hz : ∀ x, (enc x).length = z) (o : OF enc h n l) (hn : n < h.next) : FL enc z h (some ⟨n, 0, none⟩) c l := by
  refine .inr ⟨n, 0, rfl, hn, ?_⟩
  unfold Hp.cells
  rw [o]
  simp only [Option.bind_some, Nat.zero_add, List.drop_zero]
  rw [flat_len hz, if_pos (Nat.le_refl _), ← flat_len hz l, List.take_length]
theorem OA.fl {α : Type} {enc : α → List Value} {z : Nat} {h : Hp} {a : Option Addr} {c : Nat} {l : List α} (hz : ∀ x, (enc x).length = z) (o : OA enc h a l) (hc : a = none → c = 0) : FL enc z h a c l := by
  rcases o with ⟨rfl, rfl⟩ | ⟨n, rfl, h1, h2⟩
  · exact .inl ⟨rfl, rfl, hc rfl⟩
  · exact h2.fl hz h1

theorem OF.int {h : Hp} {n : Nat} {W : List Int} (b : OF encI h n W) (q : Nat) (hq : q < W.length) : h.cell n q = some (.int .i64 W[q]) := by
  obtain ⟨h1, h2⟩ := flat_get encI_len W q hq
  unfold Hp.cell
  rw [b]
  simp only [Option.bind_some]
  rw [Nat.mul_one] at h1
  have : ((W.flatMap encI).drop q)[0]? = some (.int .i64 W[q]) := by
    have h3 : (((W.flatMap encI).drop q).take 1)[0]? = some (.int .i64 W[q]) := by rw [h1]; rfl
    rw [List.getElem?_take, if_pos (by omega)] at h3
    exact h3
  rw [List.getElem?_drop, Nat.add_zero] at this
  exact this
theorem OF.step {h : Hp} {n : Nat} {l : List StepD} (b : OF StepD.enc h n l) (hn : n < h.next) (j : Nat) (hj : j < l.length) : h.cells n (j * 5) 5 = some l[j].enc := by
  obtain ⟨n', o', cs, r1, _, r2, r3⟩ := OF.sl (z := 5) enc_len b hn j hj
  injection r1 with r1; injection r1 with r1 r4
  subst r1; subst r4
  have r5 : cs = l[j].enc := r3
  subst r5
  have : h.cells n (0 + j * 5) 5 = some l[j].enc := r2
  rw [Nat.zero_add] at this
  exact this
def jumpB (s : StepD) : Bool := s.op == 9 || s.op == 10
def idleB (s : StepD) (at_ : Int) : Bool := s.op == 2 && s.r == s.a || jumpB s && s.n == IntKind.wrap .i64 (at_ + 1)
def keepB (l : List StepD) (j : Nat) : Bool := match l[j]? with
  | some s => ((j : Int) == (l.length : Int) - 1) || !idleB s j
  | none => false
def outAt (l : List StepD) : Nat → List StepD
  | 0 => []
  | j + 1 => if keepB l j = true then outAt l j ++ (l[j]?).toList else outAt l j
def nowAt (l : List StepD) : Nat → List Int
  | 0 => []
  | j + 1 => nowAt l j ++ [((outAt l j).length : Int)]
def fixS (w : List Int) (s : StepD) : StepD := if jumpB s = true then { s with n := w.getD s.n.toNat 0 } else s
def trimD (l : List StepD) : List StepD := if machineOk l = true then (outAt l l.length).map (fixS (nowAt l l.length)) else l

theorem outAt_len (l : List StepD) : ∀ j, (outAt l j).length ≤ j
  | 0 => Nat.le_refl _
  | j + 1 => by
    have := outAt_len l j
    unfold outAt
    split
    · rw [List.length_append]
      cases l[j]? <;> simp <;> omega
    · omega
theorem nowAt_len (l : List StepD) : ∀ j, (nowAt l j).length = j
  | 0 => rfl
  | j + 1 => by unfold nowAt; rw [List.length_append, nowAt_len l j]; rfl
theorem outAt_mem (l : List StepD) : ∀ j, ∀ x ∈ outAt l j, x ∈ l
  | 0, x, hx => by simp [outAt] at hx
  | j + 1, x, hx => by
    unfold outAt at hx
    split at hx
    · rcases List.mem_append.1 hx with h | h
      · exact outAt_mem l j x h
      · cases hl : l[j]? with
        | none => rw [hl] at h; simp at h
        | some y => rw [hl] at h; simp at h; subst h; exact List.mem_of_getElem? hl
    · exact outAt_mem l j x hx
theorem out_keep (l : List StepD) {j : Nat} (hj : j < l.length) (hk : keepB l j = true) : outAt l (j + 1) = outAt l j ++ [l[j]] := by
  conv => lhs; unfold outAt
  rw [if_pos hk, List.getElem?_eq_getElem hj]; rfl
theorem out_drop (l : List StepD) {j : Nat} (hk : keepB l j = false) : outAt l (j + 1) = outAt l j := by
  conv => lhs; unfold outAt
  rw [if_neg (by rw [hk]; simp)]
theorem keep_at (l : List StepD) {j : Nat} (hj : j < l.length) : keepB l j = (((j : Int) == (l.length : Int) - 1) || !idleB l[j] j) := by
  unfold keepB; rw [List.getElem?_eq_getElem hj]

theorem flat_set {α : Type} {enc : α → List Value} {z : Nat} (hz : ∀ x, (enc x).length = z) {v : Value} {k : Nat} (hk : k < z) : ∀ (l : List α) (i : Nat) (hi : i < l.length) (x : α), (enc l[i]).set k v = enc x → (l.flatMap enc).set (i * z + k) v = (l.set i x).flatMap enc
  | y :: l, 0, _, x, h => by
    simp only [List.flatMap_cons, Nat.zero_mul, Nat.zero_add, List.set_cons_zero, List.getElem_cons_zero] at h ⊢
    rw [List.set_append_left _ _ (by rw [hz]; exact hk), h]
  | y :: l, i + 1, hi, x, h => by
    simp only [List.flatMap_cons, List.set_cons_succ, List.getElem_cons_succ] at h ⊢
    rw [List.set_append_right _ _ (by rw [hz, Nat.add_mul]; omega)]
    have : (i + 1) * z + k - (enc y).length = i * z + k := by rw [hz, Nat.add_mul]; omega
    rw [this, flat_set hz hk l i (by simpa using hi) x h]
/-- A list whose beginning has turned. -/
def mapTo {α : Type} (f : α → α) (l : List α) (i : Nat) : List α := (l.take i).map f ++ l.drop i
theorem mapTo_zero {α : Type} (f : α → α) (l : List α) : mapTo f l 0 = l := by simp [mapTo]
theorem mapTo_all {α : Type} (f : α → α) (l : List α) : mapTo f l l.length = l.map f := by simp [mapTo]
theorem mapTo_len {α : Type} (f : α → α) (l : List α) (i : Nat) : (mapTo f l i).length = l.length := by
  unfold mapTo
  rw [List.length_append, List.length_map, List.length_take, List.length_drop]; omega
theorem mapTo_at {α : Type} (f : α → α) (l : List α) (i : Nat) (hi : i < l.length) : (mapTo f l i)[i]'(by rw [mapTo_len]; exact hi) = l[i] := by
  unfold mapTo
  rw [List.getElem_append_right (by simp; omega)]
  simp only [List.length_map, List.length_take, List.getElem_drop]
  congr 1
  omega
theorem mapTo_next {α : Type} (f : α → α) (l : List α) (i : Nat) (hi : i < l.length) : mapTo f l (i + 1) = (mapTo f l i).set i (f l[i]) := by
  unfold mapTo
  have h1 : ((l.take i).map f).length = i := by rw [List.length_map, List.length_take]; omega
  rw [List.set_append_right _ _ (by omega), h1, Nat.sub_self, List.drop_eq_getElem_cons hi, List.set_cons_zero, List.take_add_one, List.getElem?_eq_getElem hi]
  simp only [Option.toList_some, List.map_append, List.map_cons, List.map_nil, List.append_assoc, List.cons_append, List.nil_append]
theorem mapTo_same {α : Type} (f : α → α) (l : List α) (i : Nat) (hi : i < l.length) (h : f l[i] = l[i]) : mapTo f l (i + 1) = mapTo f l i := by
  rw [mapTo_next f l i hi, h]
  have := mapTo_at f l i hi
  conv => lhs; arg 3; rw [← this]
  exact List.set_getElem_self _
theorem jump_in {l : List StepD} (hm : machineOk l = true) {s : StepD} (hs : s ∈ l) (hj : jumpB s = true) : 0 ≤ s.n ∧ s.n < l.length := by
  unfold machineOk at hm
  simp only [Bool.and_eq_true, List.all_eq_true] at hm
  have h1 := hm.1.2 s hs
  unfold jumpB at hj
  rw [Bool.or_eq_true] at hj
  unfold stepOk sStepOk at h1
  rcases hj with hj | hj
  · have : s.op = 9 := by simpa using hj
    simp [this] at h1
    exact h1.2.1.1.1
  · have : s.op = 10 := by simpa using hj
    simp [this] at h1
    exact h1.2.1.1
theorem impl_jumps_ok (s : StepD) (h : Hp) : CC F_impl_jumps [sv s] h (.bool (jumpB s)) h := by
  refine call_go (p := c_impl_jumps) rfl rfl c_impl_jumps_ok (Nat.le_of_ble_eq_true rfl) ?_
  rw [res_impl_jumps]
  unfold c_impl_jumps
  repeat' first
   | exact isPut_ok
   | (refine op_gv (v := ?_) (by simp only [go_sem, reduceIte, Nat.reduceEqDiff, Nat.reduceAdd, Nat.reduceMul, Nat.reduceLeDiff, Nat.reduceLT]; rfl) (fun hg => ?_) ?_; rotate_left; (focus ((try (have hgo := hg; simp only [Bool.and_eq_true, Bool.or_eq_false_iff, Bool.not_eq_true', Bool.not_eq_false', decide_eq_true_eq, decide_eq_false_iff_not, beqT, beqF, bneT, bneF] at hgo)); (try (have hgb := hg; simp only [Bool.and_eq_true, Bool.or_eq_false_iff, Bool.not_eq_true', Bool.not_eq_false'] at hgb)))))
   | (refine end_gen (by first | exact .inl rfl | exact .inr rfl) (tidy_scal rfl fun m b hm hb => by simp (disch := first | omega | (simp only [hput_next, hto_next, plus_next, cl_next, List.length_set]; omega)) only [go_sem, reduceIte, Nat.reduceEqDiff, Nat.reduceAdd, Nat.reduceMul, Nat.reduceLeDiff, Nat.reduceLT, wrapI, cl_blk, cl_cell, cl_cells, hput_blk_ne, hput_cell_ne, hput_cells_ne, plus_blk_ne, plus_cell_ne, plus_cells_ne, ixO_nat, ixO_ok, bin_quo, bin_rem, stB_int, stB_bool, stB_slice, stB_agg, apO_nil, apO_some, apB_own, *]) ?_)
   | (refine end_ex (v := ?_) (by first | exact .inl rfl | exact .inr rfl) (by simp only [go_sem, reduceIte, Nat.reduceEqDiff, Nat.reduceAdd, Nat.reduceMul, Nat.reduceLeDiff, Nat.reduceLT, *] <;> rfl) ?_; rotate_left)
   | (simp (maxSteps := 1000000) only [go_sem, reduceIte, Nat.reduceEqDiff, Nat.reduceAdd, Nat.reduceMul, Nat.reduceLeDiff, Nat.reduceLT])
   | (simp only [pickO_bool])
   | (simp (maxSteps := 1000000) only [go_sem, *, reduceIte, Nat.reduceEqDiff, Nat.reduceAdd, Nat.reduceMul, Nat.reduceLeDiff, Nat.reduceLT])
   | (refine go_cond (by simp only [go_sem, reduceIte, Nat.reduceEqDiff, Nat.reduceAdd, Nat.reduceMul, Nat.reduceLeDiff, Nat.reduceLT]; rfl) (fun hg => ?_) (fun hg => ?_) <;> ((try (have hgo := hg; simp only [Bool.and_eq_true, Bool.or_eq_false_iff, Bool.not_eq_true', Bool.not_eq_false', decide_eq_true_eq, decide_eq_false_iff_not, beqT, beqF, bneT, bneF] at hgo)); (try (have hgb := hg; simp only [Bool.and_eq_true, Bool.or_eq_false_iff, Bool.not_eq_true', Bool.not_eq_false'] at hgb))))
   | (simp (maxSteps := 1000000) (disch := first | omega | (simp only [hput_next, hto_next, plus_next, cl_next, List.length_set]; omega)) only [go_sem, *, wrapI, cl_blk, cl_cell, cl_cells, hput_blk_ne, hput_cell_ne, hput_cells_ne, plus_blk_ne, plus_cell_ne, plus_cells_ne, ixO_nat, ixO_ok, bin_quo, bin_rem, stB_int, stB_bool, stB_slice, stB_agg, apO_nil, apO_some, apB_own, reduceIte, Nat.reduceEqDiff, Nat.reduceAdd, Nat.reduceMul, Nat.reduceLeDiff, Nat.reduceLT])
  all_goals try first | (simp only [jumpB, *, if_true, if_false, Bool.false_eq_true]; done) | (simp only [jumpB, *, go_sem, reduceIte]; done) | (simp [jumpB, *]; done)
theorem impl_Idle_ok (s : StepD) (at_ : Int) (h : Hp) : CC F_impl_Idle [sv s, .int .i64 at_] h (.bool (idleB s at_)) h := by
  refine call_go (p := c_impl_Idle) rfl rfl c_impl_Idle_ok (Nat.le_of_ble_eq_true rfl) ?_
  rw [res_impl_Idle]
  unfold c_impl_Idle
  repeat' first
   | (refine op_callF (by simp only [go_sem, reduceIte, Nat.reduceEqDiff, Nat.reduceAdd, Nat.reduceMul, Nat.reduceLeDiff, Nat.reduceLT]; rfl) (by simp only [go_sem, reduceIte, Nat.reduceEqDiff, Nat.reduceAdd, Nat.reduceMul, Nat.reduceLeDiff, Nat.reduceLT]; rfl) (by first | exact impl_jumps_ok s _ | exact tc_quiet (by decide) (impl_jumps_ok s _)) ?_)
   | exact isPut_ok
   | (refine op_gv (v := ?_) (by simp only [go_sem, reduceIte, Nat.reduceEqDiff, Nat.reduceAdd, Nat.reduceMul, Nat.reduceLeDiff, Nat.reduceLT]; rfl) (fun hg => ?_) ?_; rotate_left; (focus ((try (have hgo := hg; simp only [Bool.and_eq_true, Bool.or_eq_false_iff, Bool.not_eq_true', Bool.not_eq_false', decide_eq_true_eq, decide_eq_false_iff_not, beqT, beqF, bneT, bneF] at hgo)); (try (have hgb := hg; simp only [Bool.and_eq_true, Bool.or_eq_false_iff, Bool.not_eq_true', Bool.not_eq_false'] at hgb)))))
   | (refine op_gv2 (v := ?_) (by simp only [go_sem, reduceIte, Nat.reduceEqDiff, Nat.reduceAdd, Nat.reduceMul, Nat.reduceLeDiff, Nat.reduceLT]; rfl) (fun hg hg2 => ?_) ?_; rotate_left; (focus ((try (have hgo := hg; simp only [Bool.and_eq_true, Bool.or_eq_false_iff, Bool.not_eq_true', Bool.not_eq_false', decide_eq_true_eq, decide_eq_false_iff_not, beqT, beqF, bneT, bneF] at hgo)); (try (have hgb := hg; simp only [Bool.and_eq_true, Bool.or_eq_false_iff, Bool.not_eq_true', Bool.not_eq_false'] at hgb)); (try (have hgo2 := hg2; simp only [Bool.and_eq_true, Bool.or_eq_false_iff, Bool.not_eq_true', Bool.not_eq_false', decide_eq_true_eq, decide_eq_false_iff_not, beqT, beqF, bneT, bneF] at hgo2)); (try (have hgb2 := hg2; simp only [Bool.and_eq_true, Bool.or_eq_false_iff, Bool.not_eq_true', Bool.not_eq_false'] at hgb2)))))
   | (refine end_gen (by first | exact .inl rfl | exact .inr rfl) (tidy_scal rfl fun m b hm hb => by simp (disch := first | omega | (simp only [hput_next, hto_next, plus_next, cl_next, List.length_set]; omega)) only [go_sem, reduceIte, Nat.reduceEqDiff, Nat.reduceAdd, Nat.reduceMul, Nat.reduceLeDiff, Nat.reduceLT, wrapI, cl_blk, cl_cell, cl_cells, hput_blk_ne, hput_cell_ne, hput_cells_ne, plus_blk_ne, plus_cell_ne, plus_cells_ne, ixO_nat, ixO_ok, bin_quo, bin_rem, stB_int, stB_bool, stB_slice, stB_agg, apO_nil, apO_some, apB_own, *]) ?_)
   | (refine end_ex (v := ?_) (by first | exact .inl rfl | exact .inr rfl) (by simp only [go_sem, reduceIte, Nat.reduceEqDiff, Nat.reduceAdd, Nat.reduceMul, Nat.reduceLeDiff, Nat.reduceLT, *] <;> rfl) ?_; rotate_left)
   | (simp (maxSteps := 1000000) only [go_sem, reduceIte, Nat.reduceEqDiff, Nat.reduceAdd, Nat.reduceMul, Nat.reduceLeDiff, Nat.reduceLT])
   | (simp only [pickO_bool])
   | (simp (maxSteps := 1000000) only [go_sem, *, reduceIte, Nat.reduceEqDiff, Nat.reduceAdd, Nat.reduceMul, Nat.reduceLeDiff, Nat.reduceLT])
   | (refine go_cond (by simp only [go_sem, reduceIte, Nat.reduceEqDiff, Nat.reduceAdd, Nat.reduceMul, Nat.reduceLeDiff, Nat.reduceLT]; rfl) (fun hg => ?_) (fun hg => ?_) <;> ((try (have hgo := hg; simp only [Bool.and_eq_true, Bool.or_eq_false_iff, Bool.not_eq_true', Bool.not_eq_false', decide_eq_true_eq, decide_eq_false_iff_not, beqT, beqF, bneT, bneF] at hgo)); (try (have hgb := hg; simp only [Bool.and_eq_true, Bool.or_eq_false_iff, Bool.not_eq_true', Bool.not_eq_false'] at hgb))))
   | (simp (maxSteps := 1000000) (disch := first | omega | (simp only [hput_next, hto_next, plus_next, cl_next, List.length_set]; omega)) only [go_sem, *, wrapI, cl_blk, cl_cell, cl_cells, hput_blk_ne, hput_cell_ne, hput_cells_ne, plus_blk_ne, plus_cell_ne, plus_cells_ne, ixO_nat, ixO_ok, bin_quo, bin_rem, stB_int, stB_bool, stB_slice, stB_agg, apO_nil, apO_some, apB_own, reduceIte, Nat.reduceEqDiff, Nat.reduceAdd, Nat.reduceMul, Nat.reduceLeDiff, Nat.reduceLT])
  all_goals try first | (simp only [idleB, *, if_true, if_false, Bool.false_eq_true]; done) | (simp only [idleB, *, go_sem, reduceIte]; done) | (simp [idleB, *]; done)
theorem idle_same (s : StepD) (at_ : Int) : idleB s at_ = (if (s.op == 2) = true then s.r == s.a else if (s.op == 9) = true then s.n == IntKind.wrap .i64 (at_ + 1) else if (s.op == 10) = true then s.n == IntKind.wrap .i64 (at_ + 1) else false) := by
  unfold idleB jumpB
  by_cases h2 : s.op = 2
  · simp [h2]
  · by_cases h9 : s.op = 9
    · simp [h9]
    · by_cases h10 : s.op = 10
      · simp [h10]
      · simp [h2, h9, h10]
theorem spec_Idle_ok (s : StepD) (at_ : Int) (h : Hp) : CC F_spec_Idle [sv s, .int .i64 at_] h (.bool (idleB s at_)) h := by
  refine call_go (p := c_spec_Idle) rfl rfl c_spec_Idle_ok (Nat.le_of_ble_eq_true rfl) ?_
  rw [res_spec_Idle]
  unfold c_spec_Idle
  repeat' first
   | exact isPut_ok
   | (refine op_gv (v := ?_) (by simp only [go_sem, reduceIte, Nat.reduceEqDiff, Nat.reduceAdd, Nat.reduceMul, Nat.reduceLeDiff, Nat.reduceLT]; rfl) (fun hg => ?_) ?_; rotate_left; (focus ((try (have hgo := hg; simp only [Bool.and_eq_true, Bool.or_eq_false_iff, Bool.not_eq_true', Bool.not_eq_false', decide_eq_true_eq, decide_eq_false_iff_not, beqT, beqF, bneT, bneF] at hgo)); (try (have hgb := hg; simp only [Bool.and_eq_true, Bool.or_eq_false_iff, Bool.not_eq_true', Bool.not_eq_false'] at hgb)))))
   | (refine end_gen (by first | exact .inl rfl | exact .inr rfl) (tidy_scal rfl fun m b hm hb => by simp (disch := first | omega | (simp only [hput_next, hto_next, plus_next, cl_next, List.length_set]; omega)) only [go_sem, reduceIte, Nat.reduceEqDiff, Nat.reduceAdd, Nat.reduceMul, Nat.reduceLeDiff, Nat.reduceLT, wrapI, cl_blk, cl_cell, cl_cells, hput_blk_ne, hput_cell_ne, hput_cells_ne, plus_blk_ne, plus_cell_ne, plus_cells_ne, ixO_nat, ixO_ok, bin_quo, bin_rem, stB_int, stB_bool, stB_slice, stB_agg, apO_nil, apO_some, apB_own, *]) ?_)
   | (refine end_ex (v := ?_) (by first | exact .inl rfl | exact .inr rfl) (by simp only [go_sem, reduceIte, Nat.reduceEqDiff, Nat.reduceAdd, Nat.reduceMul, Nat.reduceLeDiff, Nat.reduceLT, *] <;> rfl) ?_; rotate_left)
   | (simp (maxSteps := 1000000) only [go_sem, reduceIte, Nat.reduceEqDiff, Nat.reduceAdd, Nat.reduceMul, Nat.reduceLeDiff, Nat.reduceLT])
   | (simp only [pickO_bool])
   | (simp (maxSteps := 1000000) only [go_sem, *, reduceIte, Nat.reduceEqDiff, Nat.reduceAdd, Nat.reduceMul, Nat.reduceLeDiff, Nat.reduceLT])
   | (refine go_cond (by simp only [go_sem, reduceIte, Nat.reduceEqDiff, Nat.reduceAdd, Nat.reduceMul, Nat.reduceLeDiff, Nat.reduceLT]; rfl) (fun hg => ?_) (fun hg => ?_) <;> ((try (have hgo := hg; simp only [Bool.and_eq_true, Bool.or_eq_false_iff, Bool.not_eq_true', Bool.not_eq_false', decide_eq_true_eq, decide_eq_false_iff_not, beqT, beqF, bneT, bneF] at hgo)); (try (have hgb := hg; simp only [Bool.and_eq_true, Bool.or_eq_false_iff, Bool.not_eq_true', Bool.not_eq_false'] at hgb))))
   | (simp (maxSteps := 1000000) (disch := first | omega | (simp only [hput_next, hto_next, plus_next, cl_next, List.length_set]; omega)) only [go_sem, *, wrapI, cl_blk, cl_cell, cl_cells, hput_blk_ne, hput_cell_ne, hput_cells_ne, plus_blk_ne, plus_cell_ne, plus_cells_ne, ixO_nat, ixO_ok, bin_quo, bin_rem, stB_int, stB_bool, stB_slice, stB_agg, apO_nil, apO_some, apB_own, reduceIte, Nat.reduceEqDiff, Nat.reduceAdd, Nat.reduceMul, Nat.reduceLeDiff, Nat.reduceLT])
  all_goals try first | (simp only [idle_same, *, if_true, if_false, Bool.false_eq_true]; done) | (simp only [idle_same, *, go_sem, reduceIte]; done) | (simp [idle_same, *]; done)

end Go.Proofs.YtbgaljpilmmefaaM
