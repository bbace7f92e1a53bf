import Derived.Test.YtonpnjfclelpiaaGreatVDMv6
namespace Go.Proofs.YtonpnjfclelpiaaGreatM
open Go
set_option linter.unusedVariables false
set_option linter.unusedSimpArgs false
section
variable {val val' : Nat → Value} {h h' : Hp} {ow ow' : Nat → Ow} {B B' : Nat} {st st' : St}
theorem Core.reval (C : Core val h ow B st) (hv : ∀ q d, get st q = some d → val' q = val q) : Core val' h ow B st := ⟨fun r d hd => by rw [hv r d hd]; exact C.regs r d hd, C.inj, C.nn, C.lim⟩
def stO (T : Pt) (ow : Nat → Ow) : Nat → Ow := fun m => match ow m with
 | .of p z k => if p.1 = LB then .of (T.1, T.2 ++ p.2) z k else if belB T p = true then .no else .of p z k
 | o => o
theorem stO_fz {T : Pt} {n : Nat} (hn : ow n = .fz) : stO T ow n = .fz := by unfold stO; rw [hn]
theorem stO_no {T : Pt} {n : Nat} (hn : ow n = .no) : stO T ow n = .no := by unfold stO; rw [hn]
theorem stO_out {T p : Pt} {n z k : Nat} (hn : ow n = .of p z k) (h1 : ¬ Bel T p) (h2 : p.1 ≠ LB) : stO T ow n = .of p z k := by
 unfold stO; rw [hn]; simp only; rw [if_neg h2, if_neg (by rw [belB_iff]; exact h1)]
theorem stO_in {T : Pt} {w : List Nat} {n z k : Nat} (hn : ow n = .of (LB, w) z k) : stO T ow n = .of (T.1, T.2 ++ w) z k := by
 unfold stO; rw [hn]; simp only; rw [if_pos trivial]
theorem stO_of {T p : Pt} {n z k : Nat} (hh : stO T ow n = .of p z k) : (∃ w, p = (T.1, T.2 ++ w) ∧ ow n = .of (LB, w) z k) ∨ (ow n = .of p z k ∧ ¬ Bel T p ∧ p.1 ≠ LB) := by
 unfold stO at hh
 cases ho : ow n with
 | fz => rw [ho] at hh; cases hh
 | no => rw [ho] at hh; cases hh
 | of p' z' k' =>
  rw [ho] at hh
  simp only at hh
  split at hh
  ·rename_i hl
   injection hh with e1 e2 e3
   subst e2; subst e3
   exact .inl ⟨p'.2, e1.symm, by obtain ⟨a, b⟩ := p'; simp only at hl; subst hl; rfl⟩
  ·rename_i hl
   split at hh
   ·cases hh
   ·rename_i hb
    injection hh with e1 e2 e3
    subst e1; subst e2; subst e3
    exact .inr ⟨rfl, by rw [← belB_iff]; exact hb, hl⟩
theorem setD_node {w : List Nat} {nd nd' x : DV} (hn : isNode nd = true) (hw : w ≠ []) (hs : setD w nd x = some nd') : isNode nd' = true := by
 cases w with
 | nil => exact absurd rfl hw
 | cons i w =>
  cases nd with
  | own z l =>
   simp only [setD] at hs
   obtain ⟨d, _, h2⟩ := Option.bind_eq_some_iff.1 hs
   obtain ⟨y, _, rfl⟩ := Option.map_eq_some_iff.1 h2
   rfl
  | box d =>
   simp only [setD] at hs
   split at hs
   ·obtain ⟨y, _, rfl⟩ := Option.map_eq_some_iff.1 hs; rfl
   ·cases hs
  | _ => cases hn
theorem node_blk {top : Bool} {q : Pt} {nd : DV} {hc : List Value} (hn : isNode nd = true) (e : DR h ow B top q nd hc) : ∃ n z k cells, n < B ∧ ow n = .of q z k ∧ h.blk n = some ⟨cells, true⟩ := by
 cases nd with
 | own z l => obtain ⟨n, css, _, _, h0, h1, h2, _⟩ := own_blk e; exact ⟨n, _, _, _, h0, h1, h2⟩
 | box d => obtain ⟨n, c, _, h0, h1, h2, _⟩ := box_blk e; exact ⟨n, _, _, _, h0, h1, h2⟩
 | _ => cases hn
theorem Core.store (C : Core val h ow B st) {q : Pt} {nd nd' d0 x : DV} {w : List Nat} {o : Nat} {xs : List Value} (hn : node st q = some nd) (ho : offN w nd = some o) (ha : atD w nd = some d0) (hz : szD x = szD d0) (hs : setD w nd x = some nd')
  (hst : nset (fun p => belB (q.1, q.2 ++ w) p || atL p) st q nd' = some st') (hx : DR h ow B false (LB, []) x xs) :
  ∃ n z k cells, n < B ∧ ow n = .of q z k ∧ h.blk n = some ⟨cells, true⟩ ∧ o + xs.length ≤ cells.length ∧ Core val (h.put n (some ⟨splice cells o xs, true⟩)) (stO (q.1, q.2 ++ w) ow) B st' := by
 obtain ⟨hc, hd⟩ := node_dr C hn
 obtain ⟨dr, hr1, hr2, hr3, hnode⟩ := node_at hn
 have hL : q.1 ≠ LB := C.lim _ _ hr1
 obtain ⟨n, z, k, cells, hnB, hown, hblk⟩ := node_blk hnode hd
 have hfz : FzSame h ow (h.put n (some ⟨splice cells o xs, true⟩)) (stO (q.1, q.2 ++ w) ow) := fun m hm => by
  have : m ≠ n := fun hh => by subst hh; rw [hown] at hm; cases hm
  exact ⟨stO_fz hm, hput_blk_ne this⟩
 have hw : w ≠ [] := by rintro rfl; simp [offN] at ho
 have hxx : DR (h.put n (some ⟨splice cells o xs, true⟩)) (stO (q.1, q.2 ++ w) ow) B false (q.1, q.2 ++ w) x xs := by
  refine hx.mv ⟨hfz, fun m v z' k' hm => ?_⟩ (.inr ⟨fun x => x, fun _ _ _ _ hh => Bool.noConfusion hh⟩) (Nat.le_refl _)
  simp only [List.nil_append] at hm
  refine ⟨by have := stO_in (T := (q.1, q.2 ++ w)) hm; simpa using this, hput_blk_ne ?_⟩
  rintro rfl
  rw [hown] at hm; injection hm with hm
  exact hL (by rw [hm])
 have hi : ∀ m p z k z' k', ow n = .of p z k → ow m = .of p z' k' → n = m := fun m p z k z' k' => C.inj n m p z k z' k'
 have main := DR.nodeSet hd ho ha hz hs hown hi hblk hfz (fun m p z k h1 h2 h3 => stO_out h1 h2 h3) hL hxx
 refine ⟨n, z, k, cells, hnB, hown, hblk, main.2, ?_⟩
 have hnode' := setD_node hnode hw hs
 have hag : isAgg nd' = false := by cases nd' <;> first | rfl | cases hnode'
 refine C.setN hn hag hst (fun hc' hd' => ?_) ⟨hfz, fun m p z' k' g1 g2 g3 => ⟨stO_out g1 (fun hb => g2 ((Bel.ext q w).trans hb)) g3, hput_blk_ne ?_⟩⟩ ⟨hfz, fun m p z' k' g1 g2 => ?_⟩ ?_ ?_
 ·exact (DR.nodeSet hd' ho ha hz hs hown hi hblk hfz (fun m p z k h1 h2 h3 => stO_out h1 h2 h3) hL hxx).1
 ·rintro rfl; rw [hown] at g1; injection g1 with g1; subst g1; exact g2 (Bel.refl _)
 ·rw [Bool.or_eq_false_iff] at g1
  exact stO_out g2 (belB_not.1 g1.1) (atL_f.1 g1.2)
 ·intro a b p z1 k1 z2 k2 h1 h2
  rcases stO_of h1 with ⟨w1, e1, e2⟩ | ⟨e1, e2, e3⟩ <;> rcases stO_of h2 with ⟨v, f1, f2⟩ | ⟨f1, f2, f3⟩
  ·rw [e1] at f1; injection f1 with _ f1
   have := List.append_cancel_left f1
   subst this; exact C.inj _ _ _ _ _ _ _ e2 f2
  ·subst e1; exact absurd (Bel.ext (q.1, q.2 ++ w) w1) f2
  ·subst f1; exact absurd (Bel.ext (q.1, q.2 ++ w) v) e2
  ·exact C.inj _ _ _ _ _ _ _ e1 f1
 ·intro m hm
  by_cases hmn : m = n
  ·subst hmn; rw [hput_blk_eq] at hm; cases hm
  ·rw [hput_blk_ne hmn] at hm; exact stO_no (C.nn m hm)
mutual
def fzD : DV → Option FV
 | .fv v => some v
 | .own z l => (fzL l).map (.row z)
 | .agg l => (fzL l).map .agg
 | .box d => (fzD d).map .fp
 | _ => none
def fzL : List DV → Option (List FV)
 | [] => some []
 | d :: l => (fzD d).bind fun v => (fzL l).map fun r => v :: r
end
theorem fz_agg : ∀ {d : DV} {v : FV}, fzD d = some v → isAggF v = isAgg d := by
 intro d v hv
 cases d <;> simp only [fzD] at hv
 ·injection hv with hv; subst hv; rfl
 ·obtain ⟨l, _, rfl⟩ := Option.map_eq_some_iff.1 hv; rfl
 ·obtain ⟨l, _, rfl⟩ := Option.map_eq_some_iff.1 hv; rfl
 ·obtain ⟨l, _, rfl⟩ := Option.map_eq_some_iff.1 hv; rfl
 all_goals cases hv
theorem fzL_len : ∀ {l : List DV} {m : List FV}, fzL l = some m → m.length = l.length
 | [], m, hh => by unfold fzL at hh; injection hh with hh; subst hh; rfl
 | d :: l, m, hh => by
  unfold fzL at hh
  obtain ⟨v, _, h2⟩ := Option.bind_eq_some_iff.1 hh
  obtain ⟨r, h3, rfl⟩ := Option.map_eq_some_iff.1 h2
  simp [fzL_len h3]
mutual
theorem fz_ok (hfz : FzSame h ow h' ow') : ∀ {d : DV} {v : FV} {top : Bool} {p : Pt} {cs : List Value}, (∀ n w z k, ow n = .of (p.1, p.2 ++ w) z k → ow' n = .fz ∧ h'.blk n = h.blk n) → DR h ow B top p d cs → fzD d = some v → FR h' ow' B v cs
 | .fv u, v, top, p, cs, K, e, hv => by
  unfold fzD at hv; injection hv with hv; subst hv
  unfold DR at e; exact e.mono hfz (Nat.le_refl _)
 | .own z l, v, top, p, cs, K, e, hv => by
  unfold fzD at hv
  obtain ⟨m, h1, rfl⟩ := Option.map_eq_some_iff.1 hv
  obtain ⟨n, css, g1, g0, g2, g3, g4, g5, g6⟩ := own_blk e
  obtain ⟨k1, k2⟩ := K n [] z l.length (by simpa using g3)
  have hl := fzL_len h1
  unfold FR
  refine .inr ⟨n, 0, U z, css, by rw [hl]; exact g1, .inl rfl, fzL_ok hfz K g6 h1, g5, fun _ => ⟨g2, k1, ?_⟩⟩
  unfold Hp.cells
  rw [k2, g4]
  have h3 : css.flatten.length = m.length * z := by rw [flat_mul g5, g6.count, hl]
  simp only [Option.bind_some, Nat.zero_add, List.drop_zero]
  rw [if_pos (by omega), ← h3, List.take_length]
 | .agg l, v, top, p, cs, K, e, hv => by
  unfold fzD at hv
  obtain ⟨m, h1, rfl⟩ := Option.map_eq_some_iff.1 hv
  unfold DR at e
  obtain ⟨css, g1, g2⟩ := e
  unfold FR
  exact ⟨css, g1, fzL_ok hfz K g2 h1⟩
 | .box d, v, top, p, cs, K, e, hv => by
  unfold fzD at hv
  obtain ⟨u, h1, rfl⟩ := Option.map_eq_some_iff.1 hv
  obtain ⟨n, c, g1, g2, g3, g4, g6⟩ := box_blk e
  obtain ⟨k1, k2⟩ := K n [] 0 0 (by simpa using g3)
  unfold FR
  refine ⟨n, 0, c, g1, g2, k1, ?_, fz_ok hfz (p := (p.1, p.2 ++ [0])) (fun n w z k hn => K n (0 :: w) z k (by simpa using hn)) g6 h1⟩
  unfold Hp.cells
  rw [k2, g4]
  simp
 | .hdr _ _ _, v, top, p, cs, K, e, hv => by simp [fzD] at hv
 | .ptr _ _ _, v, top, p, cs, K, e, hv => by simp [fzD] at hv
 | .tup _, v, top, p, cs, K, e, hv => by simp [fzD] at hv
 | .junk _, v, top, p, cs, K, e, hv => by simp [fzD] at hv
theorem fzL_ok (hfz : FzSame h ow h' ow') : ∀ {l : List DV} {m : List FV} {top : Bool} {p : Pt} {i : Nat} {css : List (List Value)}, (∀ n w z k, ow n = .of (p.1, p.2 ++ w) z k → ow' n = .fz ∧ h'.blk n = h.blk n) → DRs h ow B top p i l css → fzL l = some m → FRs h' ow' B m css
 | [], m, top, p, i, css, K, e, hv => by
  unfold fzL at hv; injection hv with hv; subst hv
  unfold DRs at e; unfold FRs; exact e
 | d :: l, m, top, p, i, css, K, e, hv => by
  unfold fzL at hv
  obtain ⟨v, h1, h2⟩ := Option.bind_eq_some_iff.1 hv
  obtain ⟨r, h3, rfl⟩ := Option.map_eq_some_iff.1 h2
  unfold DRs at e
  obtain ⟨c, rr, g1, g2, g3⟩ := e
  unfold FRs
  exact ⟨c, rr, g1, fz_ok hfz (p := (p.1, p.2 ++ [i])) (fun n w z k hn => K n (i :: w) z k (by simpa using hn)) g2 h1, fzL_ok hfz K g3 h3⟩
end
def isFp : FV → Bool
 | .fp _ => true
 | _ => false
mutual
def rf (q : Pt) (v : FV) : DV → DV
 | .hdr p z k => if belB q p = true then (if p = q ∧ isFp v = false then .fv v else .junk 1) else .hdr p z k
 | .ptr p w o => if belB q p = true then (if p = q ∧ o = 0 ∧ isFp v = true then .fv v else .junk 1) else .ptr p w o
 | .agg l => .agg (rfs q v l)
 | .tup l => .tup (rfs q v l)
 | d => d
def rfs (q : Pt) (v : FV) : List DV → List DV
 | [] => []
 | d :: l => rf q v d :: rfs q v l
end
def rfS (q : Pt) (v : FV) : St → St
 | [] => []
 | (k, d) :: st => (k, rf q v d) :: rfS q v st
theorem get_rfS (q : Pt) (v : FV) : ∀ (st : St) (r : Nat), get (rfS q v st) r = (get st r).map (rf q v)
 | [], _ => rfl
 | (k, d) :: st, r => by unfold rfS get; split <;> simp [get_rfS q v st]
theorem rf_agg {q : Pt} {v : FV} (hv : isAggF v = false) (d : DV) : isAgg (rf q v d) = isAgg d := by
 cases d with
 | hdr p z k => unfold rf; split <;> (try split) <;> first | rfl | exact hv
 | ptr p z k => unfold rf; split <;> (try split) <;> first | rfl | exact hv
 | _ => unfold rf; rfl
def fzO (q : Pt) (ow : Nat → Ow) : Nat → Ow := fun n => match ow n with
 | .of p z k => if belB q p = true then .fz else .of p z k
 | o => o
theorem fzO_in {q p : Pt} {n z k : Nat} (hn : ow n = .of p z k) (hb : Bel q p) : fzO q ow n = .fz := by unfold fzO; rw [hn]; simp only; rw [if_pos (belB_iff.2 hb)]
theorem fzO_out {q p : Pt} {n z k : Nat} (hn : ow n = .of p z k) (hb : ¬ Bel q p) : fzO q ow n = .of p z k := by unfold fzO; rw [hn]; simp only; rw [if_neg (by rw [belB_iff]; exact hb)]
theorem fzO_fz {q : Pt} {n : Nat} (hn : ow n = .fz) : fzO q ow n = .fz := by unfold fzO; rw [hn]
theorem fzO_no {q : Pt} {n : Nat} (hn : ow n = .no) : fzO q ow n = .no := by unfold fzO; rw [hn]
theorem fzO_of {q p : Pt} {n z k : Nat} (hh : fzO q ow n = .of p z k) : ow n = .of p z k ∧ ¬ Bel q p := by
 unfold fzO at hh
 cases ho : ow n with
 | fz => rw [ho] at hh; cases hh
 | no => rw [ho] at hh; cases hh
 | of p' z' k' =>
  rw [ho] at hh
  simp only at hh
  split at hh
  ·cases hh
  ·rename_i hb
   injection hh with e1 e2 e3
   subst e1; subst e2; subst e3
   exact ⟨rfl, by rw [← belB_iff]; exact hb⟩
mutual
theorem DR.rf {q : Pt} {v : FV} (H : ∀ p d cs, (∃ z k, d = DV.hdr q z k ∧ isFp v = false) ∨ (∃ w, d = DV.ptr q w 0 ∧ isFp v = true) → DR h ow B true p d cs → FR h (fzO q ow) B v cs) : ∀ {d : DV} {p : Pt} {cs : List Value}, p.1 ≠ q.1 → DR h ow B true p d cs → DR h (fzO q ow) B true p (rf q v d) cs
 | .hdr p z k, p0, cs, hp, e => by
  unfold Go.Proofs.YtonpnjfclelpiaaGreatM.rf
  split
  ·split
   ·rename_i hc
    obtain ⟨rfl, hc⟩ := hc
    unfold DR; exact H _ _ _ (.inl ⟨z, k, rfl, hc⟩) e
   ·have := e.len; unfold DR; exact this
  ·rename_i hb
   unfold DR at e ⊢
   obtain ⟨h1, n, h2, h3, h4⟩ := e
   exact ⟨h1, n, h2, fzO_out h3 (by rw [← belB_iff]; exact hb), h4⟩
 | .ptr p w o, p0, cs, hp, e => by
  unfold Go.Proofs.YtonpnjfclelpiaaGreatM.rf
  split
  ·split
   ·rename_i hc
    obtain ⟨rfl, rfl, hc⟩ := hc
    unfold DR; exact H _ _ _ (.inr ⟨w, rfl, hc⟩) e
   ·have := e.len; unfold DR; exact this
  ·rename_i hb
   unfold DR at e ⊢
   obtain ⟨h1, n, z, k, h2, h3, h4⟩ := e
   exact ⟨h1, n, z, k, h2, fzO_out h3 (by rw [← belB_iff]; exact hb), h4⟩
 | .agg l, p0, cs, hp, e => by
  unfold Go.Proofs.YtonpnjfclelpiaaGreatM.rf
  unfold DR at e ⊢
  obtain ⟨css, h1, h2⟩ := e
  exact ⟨css, h1, DRs.rf H hp h2⟩
 | .tup l, p0, cs, hp, e => by unfold DR at e; exact e.elim
 | .fv u, p0, cs, hp, e => by unfold Go.Proofs.YtonpnjfclelpiaaGreatM.rf; unfold DR at e ⊢; exact e.mono (fun n hn => ⟨fzO_fz hn, rfl⟩) (Nat.le_refl _)
 | .own z l, p0, cs, hp, e => by
  unfold Go.Proofs.YtonpnjfclelpiaaGreatM.rf
  exact (e.topI (top' := false) rfl).mv ⟨fun n hn => ⟨fzO_fz hn, rfl⟩, fun n w z k hn => ⟨fzO_out hn (fun hb => hp hb.1.symm), rfl⟩⟩ (.inr ⟨(fun x => by cases x), fun n q z k hq hn => Bool.noConfusion hq⟩) (Nat.le_refl _)
 | .box d, p0, cs, hp, e => by
  unfold Go.Proofs.YtonpnjfclelpiaaGreatM.rf
  exact (e.topI (top' := false) rfl).mv ⟨fun n hn => ⟨fzO_fz hn, rfl⟩, fun n w z k hn => ⟨fzO_out hn (fun hb => hp hb.1.symm), rfl⟩⟩ (.inr ⟨(fun x => by cases x), fun n q z k hq hn => Bool.noConfusion hq⟩) (Nat.le_refl _)
 | .junk k, p0, cs, hp, e => by unfold Go.Proofs.YtonpnjfclelpiaaGreatM.rf; unfold DR at e ⊢; exact e
theorem DRs.rf {q : Pt} {v : FV} (H : ∀ p d cs, (∃ z k, d = DV.hdr q z k ∧ isFp v = false) ∨ (∃ w, d = DV.ptr q w 0 ∧ isFp v = true) → DR h ow B true p d cs → FR h (fzO q ow) B v cs) : ∀ {l : List DV} {p : Pt} {i : Nat} {css : List (List Value)}, p.1 ≠ q.1 → DRs h ow B true p i l css → DRs h (fzO q ow) B true p i (rfs q v l) css
 | [], p, i, css, hp, e => by unfold rfs; unfold DRs at e ⊢; exact e
 | d :: l, p, i, css, hp, e => by
  unfold rfs; unfold DRs at e ⊢
  obtain ⟨c, r, h1, h2, h3⟩ := e
  exact ⟨c, r, h1, DR.rf H (p := (p.1, p.2 ++ [i])) hp h2, DRs.rf H hp h3⟩
end
theorem VRc.rf {q : Pt} {v : FV} (hv : isAggF v = false) (H : ∀ p d cs, (∃ z k, d = DV.hdr q z k ∧ isFp v = false) ∨ (∃ w, d = DV.ptr q w 0 ∧ isFp v = true) → DR h ow B true p d cs → FR h (fzO q ow) B v cs) {d : DV} {p : Pt} {x : Value} (hp : p.1 ≠ q.1) (e : VRc h ow B p d x) : VRc h (fzO q ow) B p (rf q v d) x := by
 rcases e with ⟨k, rfl⟩ | ⟨cs, h1, h2⟩
 ·left; unfold Go.Proofs.YtonpnjfclelpiaaGreatM.rf; exact ⟨k, rfl⟩
 ·right; exact ⟨cs, DR.rf H hp h1, by rw [rf_agg hv]; exact h2⟩
theorem VRs.rf {q : Pt} {v : FV} (hv : isAggF v = false) (H : ∀ p d cs, (∃ z k, d = DV.hdr q z k ∧ isFp v = false) ∨ (∃ w, d = DV.ptr q w 0 ∧ isFp v = true) → DR h ow B true p d cs → FR h (fzO q ow) B v cs) : ∀ {l : List DV} {i : Nat} {p : Pt} {vs : List Value}, p.1 ≠ q.1 → VRs h ow B p i l vs → VRs h (fzO q ow) B p i (rfs q v l) vs
 | [], i, p, vs, hp, e => by unfold rfs; unfold VRs at *; exact e
 | d :: l, i, p, vs, hp, e => by
  unfold rfs; unfold VRs at *
  obtain ⟨c, r, h1, h2, h3⟩ := e
  exact ⟨c, r, h1, VRc.rf hv H (p := (p.1, p.2 ++ [i])) hp h2, VRs.rf hv H hp h3⟩
theorem VR2.rf {q : Pt} {v : FV} (hv : isAggF v = false) (H : ∀ p d cs, (∃ z k, d = DV.hdr q z k ∧ isFp v = false) ∨ (∃ w, d = DV.ptr q w 0 ∧ isFp v = true) → DR h ow B true p d cs → FR h (fzO q ow) B v cs) {d : DV} {p : Pt} {x : Value} (hp : p.1 ≠ q.1) (e : VR2 h ow B p d x) : VR2 h (fzO q ow) B p (rf q v d) x := by
 rcases e with ⟨l, vs, rfl, h1, h2⟩ | e
 ·left; unfold Go.Proofs.YtonpnjfclelpiaaGreatM.rf; exact ⟨_, vs, rfl, h1, VRs.rf hv H hp h2⟩
 ·exact .inr (e.rf hv H hp)
def frz (st : St) (q : Pt) : Option (FV × St) := (get st q.1).bind fun d => (node st q).bind fun nd => (fzD nd).bind fun v => (setD q.2 d (.fv v)).map fun d' => (v, setR q.1 d' (rfS q v st))
theorem Core.frz (C : Core val h ow B st) {q : Pt} {v : FV} (hs : Go.Proofs.YtonpnjfclelpiaaGreatM.frz st q = some (v, st')) : Core val h (fzO q ow) B st' ∧ ∃ nd, node st q = some nd ∧ fzD nd = some v ∧ isAggF v = false ∧ ∀ hc, DR h ow B false q nd hc → FR h (fzO q ow) B v hc := by
 unfold Go.Proofs.YtonpnjfclelpiaaGreatM.frz at hs
 obtain ⟨d, h1, hs⟩ := Option.bind_eq_some_iff.1 hs
 obtain ⟨nd, h2, hs⟩ := Option.bind_eq_some_iff.1 hs
 obtain ⟨v', h3, hs⟩ := Option.bind_eq_some_iff.1 hs
 obtain ⟨d', h4, hs⟩ := Option.map_eq_some_iff.1 hs
 injection hs with hs1 hs2; subst hs1; subst hs2
 obtain ⟨d2, k1, k2, k3, k4⟩ := node_at h2
 rw [h1] at k1; injection k1 with k1; subst k1
 have hvn : isAggF v' = false := by rw [fz_agg h3]; cases nd <;> first | rfl | cases k4
 have hfz : FzSame h ow h (fzO q ow) := fun n hn => ⟨fzO_fz hn, rfl⟩
 have hfr : ∀ hc, DR h ow B false q nd hc → FR h (fzO q ow) B v' hc := fun hc hd => fz_ok hfz (fun n w z k hn => ⟨fzO_in hn (Bel.ext q w), rfl⟩) hd h3
 have hnodefp : isFp v' = isBox nd := by
  cases nd with
  | own z l => simp only [fzD] at h3; obtain ⟨_, _, rfl⟩ := Option.map_eq_some_iff.1 h3; rfl
  | box d => simp only [fzD] at h3; obtain ⟨_, _, rfl⟩ := Option.map_eq_some_iff.1 h3; rfl
  | _ => cases k4
 have H : ∀ p d cs, (∃ z k, d = DV.hdr q z k ∧ isFp v' = false) ∨ (∃ w, d = DV.ptr q w 0 ∧ isFp v' = true) → DR h ow B true p d cs → FR h (fzO q ow) B v' cs := by
  intro p d cs hor hd
  obtain ⟨hc, hdn⟩ := node_dr C h2
  rcases hor with ⟨z, k, rfl, hb⟩ | ⟨w, rfl, hb⟩
  ·cases nd with
   | own z' l => obtain ⟨rfl, _, _⟩ := ref_own C hd hdn; exact hfr _ hdn
   | box _ => rw [hnodefp] at hb; cases hb
   | _ => cases k4
  ·cases nd with
   | own z' l => rw [hnodefp] at hb; cases hb
   | box _ => have := ptr_own C hd hdn rfl; rw [this]; exact hfr _ hdn
   | _ => cases k4
 refine ⟨?_, nd, h2, h3, hvn, hfr⟩
 have hg : get (rfS q v' st) q.1 = some (rf q v' d) := by rw [get_rfS, h1]; rfl
 refine ⟨fun r x hx => ?_, ?_, ?_, fun r x hx => ?_⟩
 ·rw [get_setR hg] at hx
  by_cases hr : r = q.1
  ·subst hr
   rw [if_pos rfl] at hx; injection hx with hx; subst hx
   obtain ⟨cs, h6, h7⟩ := at_reg C h1 k3 k4
   have ho : Out h ow h (fzO q ow) q := ⟨hfz, fun n p z k g1 g2 _ => ⟨fzO_out g1 g2, rfl⟩⟩
   have h8 := DR.upd (p := (q.1, [])) (nd' := .fv v') (C.lim _ _ h1) h6 k3 h4 (fun _ => k2.symm) (ndA_node k4) (by
    intro hc hd
    simp only [List.nil_append] at hd ⊢
    unfold DR; exact hfr hc hd) (by simpa using ho.toR)
   have hnag : isAgg nd = false := by cases nd <;> first | rfl | cases k4
   right; right
   refine ⟨cs, ?_, by rw [setD_agg k3 h4 hnag (show isAgg (.fv v') = false from hvn)]; exact h7⟩
   exact h8.mv (top' := true) ⟨fun _ hh => ⟨hh, rfl⟩, fun _ _ _ _ hh => ⟨hh, rfl⟩⟩ (.inr ⟨fun _ => rfl, fun _ _ _ _ _ hh => hh⟩) (Nat.le_refl _)
  ·rw [if_neg hr, get_rfS] at hx
   obtain ⟨d0, h6, rfl⟩ := Option.map_eq_some_iff.1 hx
   exact (C.regs r d0 h6).rf hvn H hr
 ·intro a b p z k z' k' e1 e2
  exact C.inj _ _ _ _ _ _ _ (fzO_of e1).1 (fzO_of e2).1
 ·intro n hn; exact fzO_no (C.nn n hn)
 ·rw [get_setR hg] at hx
  by_cases hr : r = q.1
  ·subst hr; exact C.lim _ _ h1
  ·rw [if_neg hr, get_rfS] at hx
   obtain ⟨d0, h6, _⟩ := Option.map_eq_some_iff.1 hx
   exact C.lim _ _ h6
end
end Go.Proofs.YtonpnjfclelpiaaGreatM
