import Derived.Test.YtonpnjfclelpiaaGreatVDMv5
namespace Go.Proofs.YtonpnjfclelpiaaGreatM
open Go
set_option linter.unusedVariables false
set_option linter.unusedSimpArgs false
def atL : Pt → Bool := fun p => p.1 == LB
theorem atL_f {p : Pt} : atL p = false ↔ p.1 ≠ LB := by unfold atL; simp
section
variable {val val' : Nat → Value} {h h' : Hp} {ow ow' : Nat → Ow} {B B' : Nat} {st st' : St}
theorem Core.tr (C : Core val h ow B st) {a : Pt → Bool} (t : Tr a h ow h' ow') (m : ∀ r, r ≠ LB → Mv h ow h' ow' (r, []) (r, [])) (hi : ∀ n m p z k z' k', ow' n = .of p z k → ow' m = .of p z' k' → n = m) (hnn : ∀ n, h'.blk n = none → ow' n = .no)
  (hB : B ≤ B') (hv : ∀ r d, get st r = some d → val' r = val r) : Core val' h' ow' B' (klS a st) := by
 refine ⟨fun r x hx => ?_, hi, hnn, fun r x hx => ?_⟩
 ·rw [get_klS] at hx
  obtain ⟨d0, h6, rfl⟩ := Option.map_eq_some_iff.1 hx
  rw [hv r d0 h6]
  exact (C.regs r d0 h6).kl t hB (m r (C.lim r d0 h6))
 ·rw [get_klS] at hx
  obtain ⟨d0, h6, rfl⟩ := Option.map_eq_some_iff.1 hx
  exact C.lim r d0 h6
def noO (n : Nat) (ow : Nat → Ow) : Nat → Ow := fun m => if m = n then .no else ow m
theorem Core.open_ (C : Core val h ow B st) {z : Nat} {l : List DV} {hc : List Value} (hd : DR h ow B false (LB, []) (.own z l) hc) :
  ∃ n css, hc = [.slice (some ⟨n, 0, none⟩) l.length (U z)] ∧ z ≠ 0 ∧ n < B ∧ ow n = .of (LB, []) z l.length ∧ h.blk n = some ⟨css.flatten, true⟩ ∧ (∀ x ∈ css, x.length = z) ∧ Core val (h.put n none) (noO n ow) B (klS atL st) ∧ DRs (h.put n none) (noO n ow) B false (LB, []) 0 l css := by
 obtain ⟨n, css, g1, g0, g2, g3, g4, g5, g6⟩ := own_blk hd
 have hfz : FzSame h ow (h.put n none) (noO n ow) := fun m hm => by
  have : m ≠ n := fun hh => by subst hh; rw [g3] at hm; cases hm
  exact ⟨by unfold noO; rw [if_neg this]; exact hm, hput_blk_ne this⟩
 have hof : ∀ m p z k, ow m = .of p z k → p ≠ (LB, []) → noO n ow m = .of p z k ∧ (h.put n none).blk m = h.blk m := by
  intro m p z k hm hp
  have : m ≠ n := fun hh => by subst hh; rw [g3] at hm; injection hm with hm; exact hp hm.symm
  exact ⟨by unfold noO; rw [if_neg this]; exact hm, hput_blk_ne this⟩
 refine ⟨n, css, g1, g0, g2, g3, g4, g5, C.tr ⟨hfz, fun m p z k g1 g2 => (hof m p z k g2 (fun hh => by subst hh; exact absurd rfl (atL_f.1 g1))).1⟩ (fun r hr => ⟨hfz, fun m w z k hm => hof m _ z k hm (fun hh => by injection hh with hh; exact hr hh)⟩) ?_ ?_ (Nat.le_refl _) (fun _ _ _ => rfl), ?_⟩
 ·intro a b p z k z' k' h1 h2
  unfold noO at h1 h2
  split at h1
  ·cases h1
  ·split at h2
   ·cases h2
   ·exact C.inj _ _ _ _ _ _ _ h1 h2
 ·intro m hm
  unfold noO
  split
  ·rfl
  ·rename_i hmn; rw [hput_blk_ne hmn] at hm; exact C.nn m hm
 ·have : ∀ {l : List DV} {i : Nat} {css : List (List Value)}, DRs h ow B false (LB, []) i l css → DRs (h.put n none) (noO n ow) B false (LB, []) i l css := by
   intro l
   induction l with
   | nil => intro i css e; unfold DRs at *; exact e
   | cons d l ih =>
    intro i css e
    unfold DRs at e ⊢
    obtain ⟨c, r, h1, h2, h3⟩ := e
    refine ⟨c, r, h1, h2.mv ⟨hfz, fun m w z k hm => hof m _ z k hm (fun hh => by injection hh with _ hh; simp at hh)⟩ (.inr ⟨fun x => x, fun _ _ _ _ hh => Bool.noConfusion hh⟩) (Nat.le_refl _), ih h3⟩
  exact this g6
theorem DRs.mv1 {l : List DV} {p p' : Pt} {i : Nat} {css : List (List Value)} (m : ∀ j, Mv h ow h' ow' (p.1, p.2 ++ [j]) (p'.1, p'.2 ++ [j])) (hB : B ≤ B') (e : DRs h ow B false p i l css) : DRs h' ow' B' false p' i l css := by
 induction l generalizing i css with
 | nil => unfold DRs at *; exact e
 | cons d l ih =>
  unfold DRs at e ⊢
  obtain ⟨c, r, h1, h2, h3⟩ := e
  exact ⟨c, r, h1, h2.mv (m i) (.inr ⟨fun x => x, fun _ _ _ _ hh => Bool.noConfusion hh⟩) hB, ih h3⟩
def newO (nm r z k : Nat) (ow : Nat → Ow) : Nat → Ow := fun n => if n = nm then .of (r, []) z k else mvO (LB, []) (r, []) ow n
theorem newO_ok (C : Core val h ow B st) {nm r z k : Nat} {b : Blk} (hnm : h.blk nm = none) (hr : r ≠ LB) (hfr : ∀ n p z k, ow n = .of p z k → p.1 ≠ r) (hno : ∀ n z k, ow n ≠ .of (LB, []) z k) (hv : ∀ q d, get st q = some d → val' q = val q) :
  Core val' (h.put nm (some b)) (newO nm r z k ow) B (klS atL st) ∧ FzSame h ow (h.put nm (some b)) (newO nm r z k ow) ∧ (∀ w, Mv h ow (h.put nm (some b)) (newO nm r z k ow) (LB, w) (r, w)) := by
 have hno' : ow nm = .no := C.nn nm hnm
 have hne : ∀ m, ow m ≠ .no → m ≠ nm := fun m hm hh => hm (by rw [hh, hno'])
 have hfz : FzSame h ow (h.put nm (some b)) (newO nm r z k ow) := fun m hm => by
  have : m ≠ nm := hne m (by rw [hm]; simp)
  exact ⟨by unfold newO; rw [if_neg this]; exact mvO_fz.2 hm, hput_blk_ne this⟩
 have hof : ∀ m p z' k', ow m = .of p z' k' → p.1 ≠ LB → newO nm r z k ow m = .of p z' k' ∧ (h.put nm (some b)).blk m = h.blk m := by
  intro m p z' k' hm hp
  have : m ≠ nm := hne m (by rw [hm]; simp)
  exact ⟨by unfold newO; rw [if_neg this]; exact mvO_out hm (fun hb => hp hb.1.symm), hput_blk_ne this⟩
 refine ⟨C.tr ⟨hfz, fun m p z k g1 g2 => (hof m p z k g2 (atL_f.1 g1)).1⟩ (fun r hr => ⟨hfz, fun m w z k hm => hof m _ z k hm hr⟩) ?_ ?_ (Nat.le_refl _) hv, hfz, fun w => ⟨hfz, fun m v z' k' hm => ?_⟩⟩
 ·have key : ∀ a p z' k', newO nm r z k ow a = .of p z' k' → (a = nm ∧ p = (r, [])) ∨ (∃ w, w ≠ [] ∧ p = (r, w) ∧ ow a = .of (LB, w) z' k') ∨ (ow a = .of p z' k' ∧ p.1 ≠ r) := by
   intro a p z' k' hh
   unfold newO at hh
   split at hh
   ·rename_i ha; injection hh with hh; exact .inl ⟨ha, hh.symm⟩
   ·rcases mvO_of hh with ⟨w, e1, e2⟩ | ⟨e1, e2⟩
    ·refine .inr (.inl ⟨w, ?_, by simpa using e1, by simpa using e2⟩)
     intro hw; subst hw; exact hno _ _ _ (by simpa using e2)
    ·exact .inr (.inr ⟨e1, hfr _ _ _ _ e1⟩)
  intro a c p z1 k1 z2 k2 h1 h2
  rcases key _ _ _ _ h1 with ⟨e1, e2⟩ | ⟨w, e0, e1, e2⟩ | ⟨e1, e2⟩ <;> rcases key _ _ _ _ h2 with ⟨f1, f2⟩ | ⟨v, f0, f1, f2⟩ | ⟨f1, f2⟩
  ·rw [e1, f1]
  ·rw [e2] at f1; injection f1 with _ f1; exact absurd f1.symm f0
  ·rw [e2] at f2; exact absurd rfl f2
  ·rw [f2] at e1; injection e1 with _ e1; exact absurd e1.symm e0
  ·rw [e1] at f1; injection f1 with _ f1; subst f1; exact C.inj _ _ _ _ _ _ _ e2 f2
  ·rw [e1] at f2; exact absurd rfl f2
  ·rw [f2] at e2; exact absurd rfl e2
  ·rw [f1] at e2; exact absurd rfl e2
  ·exact C.inj _ _ _ _ _ _ _ e1 f1
 ·intro m hm
  unfold newO
  split
  ·rename_i hh; subst hh; rw [hput_blk_eq] at hm; cases hm
  ·rename_i hh; rw [hput_blk_ne hh] at hm; exact mvO_no.2 (C.nn m hm)
 ·have : m ≠ nm := hne m (by rw [hm]; simp)
  refine ⟨?_, hput_blk_ne this⟩
  unfold newO; rw [if_neg this]
  have := mvO_in (T := (r, [])) (q := (LB, [])) (w := w ++ v) (ow := ow) (n := m) (z := z') (k := k') (by simpa using hm)
  simpa using this
theorem Core.settle (C : Core val h ow B st) {nm r z : Nat} {l : List DV} {css : List (List Value)} (hD : DRs h ow B false (LB, []) 0 l css) (hz : ∀ x ∈ css, x.length = z) (hz0 : z ≠ 0) (hnm : h.blk nm = none) (hB : nm < B) (hr : r ≠ LB) (hfr : ∀ n p z k, ow n = .of p z k → p.1 ≠ r)
  (hno : ∀ n z k, ow n ≠ .of (LB, []) z k) (hv : ∀ q d, get st q = some d → val' q = val q) (hvr : val' r = .slice (some ⟨nm, 0, none⟩) l.length (U z)) : Core val' (h.put nm (some ⟨css.flatten, true⟩)) (newO nm r z l.length ow) B ((r, .own z l) :: klS atL st) := by
 obtain ⟨C1, _, hm⟩ := newO_ok C (nm := nm) (r := r) (z := z) (k := l.length) (b := ⟨css.flatten, true⟩) hnm hr hfr hno hv
 refine C1.add hr (.inr (.inr ⟨[.slice (some ⟨nm, 0, none⟩) l.length (U z)], ?_, hvr⟩))
 unfold DR
 refine ⟨nm, css, rfl, hz0, hB, by unfold newO; rw [if_pos rfl], hput_blk_eq, hz, ?_⟩
 exact hD.mv1 (fun j => by simpa using hm [j]) (Nat.le_refl _)
theorem Core.settleB (C : Core val h ow B st) {nm r : Nat} {d : DV} {c : List Value} (hD : DR h ow B false (LB, [0]) d c) (hnm : h.blk nm = none) (hB : nm < B) (hr : r ≠ LB) (hfr : ∀ n p z k, ow n = .of p z k → p.1 ≠ r)
  (hno : ∀ n z k, ow n ≠ .of (LB, []) z k) (hv : ∀ q d, get st q = some d → val' q = val q) (hvr : val' r = .pointer (some ⟨nm, 0, none⟩)) : Core val' (h.put nm (some ⟨c, true⟩)) (newO nm r 0 0 ow) B ((r, .box d) :: klS atL st) := by
 obtain ⟨C1, _, hm⟩ := newO_ok C (nm := nm) (r := r) (z := 0) (k := 0) (b := ⟨c, true⟩) hnm hr hfr hno hv
 refine C1.add hr (.inr (.inr ⟨[.pointer (some ⟨nm, 0, none⟩)], ?_, hvr⟩))
 unfold DR
 refine ⟨nm, c, rfl, hB, by unfold newO; rw [if_pos rfl], hput_blk_eq, ?_⟩
 exact hD.mv (by simpa using hm [0]) (.inr ⟨fun x => x, fun _ _ _ _ hh => Bool.noConfusion hh⟩) (Nat.le_refl _)
theorem DR.nodeSet {w : List Nat} {nd nd' d0 x : DV} {q : Pt} {hc xs cells : List Value} {o n z k : Nat} (e : DR h ow B false q nd hc) (ho : offN w nd = some o) (ha : atD w nd = some d0) (hz : szD x = szD d0) (hs : setD w nd x = some nd') (hn : ow n = .of q z k) (hi : ∀ m p z k z' k', ow n = .of p z k → ow m = .of p z' k' → n = m)
  (hb : h.blk n = some ⟨cells, true⟩) (hfz : FzSame h ow (h.put n (some ⟨splice cells o xs, true⟩)) ow') (hof : ∀ m p z k, ow m = .of p z k → ¬ Bel (q.1, q.2 ++ w) p → p.1 ≠ LB → ow' m = .of p z k) (hL : q.1 ≠ LB)
  (hx : DR (h.put n (some ⟨splice cells o xs, true⟩)) ow' B false (q.1, q.2 ++ w) x xs) : DR (h.put n (some ⟨splice cells o xs, true⟩)) ow' B false q nd' hc ∧ o + xs.length ≤ cells.length := by
 have sib : ∀ (i : Nat) (φ : List Nat), w = i :: φ → ∀ (q2 : Pt) (y : DV) (ys : List Value), Bel (q.1, q.2 ++ [i]) q2 ∨ (∃ j, j ≠ i ∧ q2 = (q.1, q.2 ++ [j])) → ¬ Bel (q.1, q.2 ++ w) q2 → ¬ Bel q2 (q.1, q.2 ++ w) → DR h ow B false q2 y ys → DR (h.put n (some ⟨splice cells o xs, true⟩)) ow' B false q2 y ys := by
  intro i φ hw q2 y ys h1 h2 h3 hd
  have hq2 : ∃ v, v ≠ [] ∧ q2 = (q.1, q.2 ++ v) := by
   rcases h1 with ⟨b1, v, b2⟩ | ⟨j, _, rfl⟩
   ·refine ⟨i :: v, by simp, ?_⟩
    obtain ⟨a, b⟩ := q2; simp only at b1 b2; rw [← b1, b2]; simp
   ·exact ⟨[j], by simp, rfl⟩
  obtain ⟨v, hv0, rfl⟩ := hq2
  refine hd.mv ⟨hfz, fun m u z' k' hm => ⟨hof m _ z' k' hm (bel_cmp (Bel.ext _ u) h2 h3) hL, ?_⟩⟩ (.inr ⟨fun x => x, fun _ _ _ _ hh => Bool.noConfusion hh⟩) (Nat.le_refl _)
  have : m ≠ n := fun hh => by
   subst hh
   rw [hn] at hm; injection hm with hm
   have := congrArg (fun p : Pt => p.2.length) hm
   simp at this
   exact hv0 (by cases v with | nil => rfl | cons _ _ => simp at this)
  exact hput_blk_ne this
 have hown : ow' n = .of q z k := hof n q z k hn (by
  rintro ⟨_, v, hv⟩
  have : w ≠ [] := by rintro rfl; simp [offN] at ho
  have := congrArg List.length hv
  simp at this; cases w with | nil => contradiction | cons _ _ => simp at this) hL
 cases w with
 | nil => simp [offN] at ho
 | cons i φ =>
  cases nd with
  | own z' l =>
   simp only [offN] at ho
   obtain ⟨d, h1, h2⟩ := Option.bind_eq_some_iff.1 ho
   obtain ⟨o', h3, rfl⟩ := Option.map_eq_some_iff.1 h2
   simp only [atD, h1, Option.bind_some] at ha
   simp only [setD, h1, Option.bind_some] at hs
   obtain ⟨y, h4, rfl⟩ := Option.map_eq_some_iff.1 hs
   obtain ⟨m, css, g1, g0, g2, g3, g4, g5, g6⟩ := own_blk e
   obtain rfl := hi m q _ _ _ _ hn g3
   rw [g4] at hb; injection hb with hb; injection hb with hb; subst hb
   obtain ⟨c, h5, h6⟩ := g6.get h1
   rw [Nat.zero_add] at h6
   obtain ⟨d2, k1, k2, k3⟩ := DR.inl h6 h3
   rw [ha] at k1; injection k1 with k1; subst k1
   have hil : i < css.length := (List.getElem?_eq_some_iff.1 h5).1
   have hti : (css.take i).flatten.length = i * z' := flat_mulT g5 (by omega)
   have hcz : c.length = z' := g5 c (List.mem_of_getElem? h5)
   have hxs : o' + xs.length ≤ c.length := by rw [hx.len, hz]; exact k2
   obtain ⟨q1, q2⟩ := flat_off h5
   have h7 := DR.inlSet h6 h3 ha hz h4 (by rw [List.append_assoc]; exact hx) (fun q y ys b1 b2 b3 hq => sib i φ rfl q y ys (.inl b1) (by rw [List.append_assoc] at b2; exact b2) (by rw [List.append_assoc] at b3; exact b3) hq)
   have h8 := g6.set h1 h5 (by rw [Nat.zero_add]; exact h7) (fun k x y hk hq => by
    rw [Nat.zero_add] at hk
    exact sib i φ rfl _ x y (.inr ⟨k, hk, rfl⟩) (not_bel_step (Ne.symm hk)) (not_bel_step' (Ne.symm hk)) hq)
   refine ⟨?_, by omega⟩
   unfold DR
   rw [List.length_set]
   rw [hn] at g3; injection g3 with e1 e2 e3
   refine ⟨n, css.set i (splice c o' xs), g1, g0, g2, by rw [hown, e2, e3], ?_, ?_, h8⟩
   ·rw [hput_blk_eq, flat_splice h5 hxs, hti]
   ·intro y hy
    rcases List.mem_or_eq_of_mem_set hy with hy | rfl
    ·exact g5 y hy
    ·rw [splice_len hxs, hcz]
  | box d =>
   simp only [offN] at ho
   split at ho
   ·rename_i hi0; subst hi0
    simp only [atD, if_true] at ha
    simp only [setD, if_true] at hs
    obtain ⟨y, h4, rfl⟩ := Option.map_eq_some_iff.1 hs
    obtain ⟨m, c, g1, g2, g3, g4, g6⟩ := box_blk e
    obtain rfl := hi m q _ _ _ _ hn g3
    rw [g4] at hb; injection hb with hb; injection hb with hb; subst hb
    obtain ⟨d2, k1, k2, k3⟩ := DR.inl g6 ho
    rw [ha] at k1; injection k1 with k1; subst k1
    have hxs : o + xs.length ≤ c.length := by rw [hx.len, hz]; exact k2
    have h7 := DR.inlSet g6 ho ha hz h4 (by rw [List.append_assoc]; exact hx) (fun q y ys b1 b2 b3 hq => sib 0 φ rfl q y ys (.inl b1) (by rw [List.append_assoc] at b2; exact b2) (by rw [List.append_assoc] at b3; exact b3) hq)
    refine ⟨?_, hxs⟩
    unfold DR
    rw [hn] at g3; injection g3 with e1 e2 e3
    exact ⟨n, _, g1, g2, by rw [hown, e2, e3], hput_blk_eq, h7⟩
   ·cases ho
  | _ => simp [offN] at ho
end
end Go.Proofs.YtonpnjfclelpiaaGreatM
