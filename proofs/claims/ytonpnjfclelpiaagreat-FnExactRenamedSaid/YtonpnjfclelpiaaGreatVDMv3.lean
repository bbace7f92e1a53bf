import Derived.Test.YtonpnjfclelpiaaGreatVDMv2
namespace Go.Proofs.YtonpnjfclelpiaaGreatM
open Go
set_option linter.unusedVariables false
set_option linter.unusedSimpArgs false
def isNode : DV → Bool
 | .own _ _ => true
 | .box _ => true
 | _ => false
section
variable {h h' : Hp} {ow ow' : Nat → Ow} {B : Nat}
theorem pt_app (p : Pt) (i : Nat) (w : List Nat) : (p.1, p.2 ++ i :: w) = (((p.1, p.2 ++ [i]) : Pt).1, ((p.1, p.2 ++ [i]) : Pt).2 ++ w) := by simp
theorem DR.topI {d : DV} (hn : isNode d = true) {top top' : Bool} {p : Pt} {cs : List Value} (e : DR h ow B top p d cs) : DR h ow B top' p d cs := by
 cases d with
 | own _ _ => unfold DR at *; exact e
 | box _ => unfold DR at *; exact e
 | _ => cases hn
theorem DR.sub : ∀ {w : List Nat} {d nd : DV} {top : Bool} {p : Pt} {cs : List Value}, DR h ow B top p d cs → atD w d = some nd → isNode nd = true → ∃ hc, DR h ow B false (p.1, p.2 ++ w) nd hc
 | [], d, nd, top, p, cs, e, ha, hn => by
  simp only [atD, Option.some.injEq] at ha; subst ha
  exact ⟨cs, by rw [List.append_nil]; exact e.topI hn⟩
 | i :: w, .own z l, nd, top, p, cs, e, ha, hn => by
  simp only [atD] at ha
  obtain ⟨d, h1, h2⟩ := Option.bind_eq_some_iff.1 ha
  unfold DR at e
  obtain ⟨n, css, _, _, _, _, _, _, e2⟩ := e
  obtain ⟨c, h4, h5⟩ := e2.get h1
  rw [Nat.zero_add] at h5
  obtain ⟨hc, h6⟩ := DR.sub h5 h2 hn
  exact ⟨hc, by rw [pt_app]; exact h6⟩
 | i :: w, .agg l, nd, top, p, cs, e, ha, hn => by
  simp only [atD] at ha
  obtain ⟨d, h1, h2⟩ := Option.bind_eq_some_iff.1 ha
  unfold DR at e
  obtain ⟨css, _, e2⟩ := e
  obtain ⟨c, h4, h5⟩ := e2.get h1
  rw [Nat.zero_add] at h5
  obtain ⟨hc, h6⟩ := DR.sub h5 h2 hn
  exact ⟨hc, by rw [pt_app]; exact h6⟩
 | i :: w, .box d, nd, top, p, cs, e, ha, hn => by
  simp only [atD] at ha
  split at ha
  ·rename_i hi; subst hi
   unfold DR at e
   obtain ⟨n, c, _, _, _, _, e2⟩ := e
   obtain ⟨hc, h6⟩ := DR.sub e2 ha hn
   exact ⟨hc, by rw [pt_app]; exact h6⟩
  ·cases ha
 | i :: w, .fv (.agg l), nd, top, p, cs, e, ha, hn => by
  simp only [atD] at ha
  obtain ⟨d, h1, h2⟩ := Option.bind_eq_some_iff.1 ha
  unfold DR FR at e
  obtain ⟨css, _, e2⟩ := e
  obtain ⟨c, h4, h5⟩ := e2.get h1
  obtain ⟨hc, h6⟩ := DR.sub (d := .fv d) (p := (p.1, p.2 ++ [i])) (top := top) (by unfold DR; exact h5) h2 hn
  exact ⟨hc, by rw [pt_app]; exact h6⟩
 | i :: w, .hdr _ _ _, nd, top, p, cs, e, ha, hn => by simp [atD] at ha
 | i :: w, .ptr _ _ _, nd, top, p, cs, e, ha, hn => by simp [atD] at ha
 | i :: w, .tup _, nd, top, p, cs, e, ha, hn => by simp [atD] at ha
 | i :: w, .junk _, nd, top, p, cs, e, ha, hn => by simp [atD] at ha
 | i :: w, .fv (.int _ _), nd, top, p, cs, e, ha, hn => by simp [atD] at ha
 | i :: w, .fv (.bool _), nd, top, p, cs, e, ha, hn => by simp [atD] at ha
 | i :: w, .fv (.str _), nd, top, p, cs, e, ha, hn => by simp [atD] at ha
 | i :: w, .fv .nil, nd, top, p, cs, e, ha, hn => by simp [atD] at ha
 | i :: w, .fv .nilp, nd, top, p, cs, e, ha, hn => by simp [atD] at ha
 | i :: w, .fv (.row _ _), nd, top, p, cs, e, ha, hn => by simp [atD] at ha
 | i :: w, .fv (.fp _), nd, top, p, cs, e, ha, hn => by simp [atD] at ha
 | i :: w, .fv (.fn _ _ _), nd, top, p, cs, e, ha, hn => by simp [atD] at ha
structure Out (h : Hp) (ow : Nat → Ow) (h' : Hp) (ow' : Nat → Ow) (t : Pt) : Prop where
 fz : FzSame h ow h' ow'
 own : ∀ n q z k, ow n = .of q z k → ¬ Bel t q → q.1 ≠ LB → ow' n = .of q z k ∧ h'.blk n = h.blk n
structure OutR (h : Hp) (ow : Nat → Ow) (h' : Hp) (ow' : Nat → Ow) (t : Pt) : Prop where
 fz : FzSame h ow h' ow'
 own : ∀ n q z k, ow n = .of q z k → q.1 = t.1 → ¬ Bel t q → q.1 ≠ LB → ow' n = .of q z k ∧ h'.blk n = h.blk n
theorem Out.toR {t : Pt} (o : Out h ow h' ow' t) : OutR h ow h' ow' t := ⟨o.fz, fun n q z k h1 _ h2 h3 => o.own n q z k h1 h2 h3⟩
theorem bel_cmp {p q t : Pt} (h1 : Bel p q) (h2 : ¬ Bel t p) (h3 : ¬ Bel p t) : ¬ Bel t q := by
 obtain ⟨a1, w, a2⟩ := h1
 rintro ⟨b1, v, b2⟩
 rw [a2] at b2
 rcases List.append_eq_append_iff.1 b2 with ⟨c, q1, q2⟩ | ⟨c, q1, q2⟩
 ·exact h3 ⟨a1.trans b1.symm, c, q1⟩
 ·exact h2 ⟨b1.trans a1.symm, c, q1⟩
theorem OutR.sib {t p : Pt} (hL : p.1 ≠ LB) (hpt : p.1 = t.1) (o : OutR h ow h' ow' t) (h1 : ¬ Bel t p) (h2 : ¬ Bel p t) {d : DV} {cs : List Value} (e : DR h ow B false p d cs) : DR h' ow' B false p d cs := by
 exact e.mv ⟨o.fz, fun n w z k hn => o.own n _ z k hn hpt (bel_cmp (Bel.ext p w) h1 h2) hL⟩ (.inr ⟨id, fun n q z k hq hn => Bool.noConfusion hq⟩) (Nat.le_refl _)
theorem not_bel_step {p : Pt} {i j : Nat} {w : List Nat} (h : i ≠ j) : ¬ Bel ((p.1, p.2 ++ i :: w) : Pt) (p.1, p.2 ++ [j]) := by
 rintro ⟨_, v, hv⟩
 simp only [List.append_assoc, List.append_cancel_left_eq] at hv
 simp at hv; exact h hv.1.symm
theorem not_bel_step' {p : Pt} {i j : Nat} {w : List Nat} (h : i ≠ j) : ¬ Bel ((p.1, p.2 ++ [j]) : Pt) (p.1, p.2 ++ i :: w) := by
 rintro ⟨_, v, hv⟩
 simp only [List.append_assoc, List.append_cancel_left_eq] at hv
 simp at hv; exact h hv.1
theorem not_bel_up {p : Pt} {i : Nat} {w : List Nat} : ¬ Bel ((p.1, p.2 ++ i :: w) : Pt) p := by
 rintro ⟨_, v, hv⟩
 have := congrArg List.length hv
 simp at this
def ndA : DV → Bool
 | .agg l => noRefs l
 | d => isNode d
theorem ndA_node {d : DV} (h : isNode d = true) : ndA d = true := by cases d <;> first | rfl | cases h
theorem DR.topA {d : DV} (hn : ndA d = true) {top top' : Bool} {p : Pt} {cs : List Value} (e : DR h ow B top p d cs) : DR h ow B top' p d cs := by
 cases d with
 | own _ _ => exact e.topI rfl
 | box _ => exact e.topI rfl
 | agg l => exact e.mv ⟨fun _ hh => ⟨hh, rfl⟩, fun _ _ _ _ hh => ⟨hh, rfl⟩⟩ (.inl (by unfold noRef; exact hn)) (Nat.le_refl _)
 | _ => cases hn
theorem DR.upd : ∀ {w : List Nat} {d d' nd nd' : DV} {top : Bool} {p : Pt} {cs : List Value}, p.1 ≠ LB → DR h ow B top p d cs → atD w d = some nd → setD w d nd' = some d' → (top = true → noRef d = true ∨ isNode d = true) → ndA nd = true →
  (∀ hc, DR h ow B false (p.1, p.2 ++ w) nd hc → DR h' ow' B false (p.1, p.2 ++ w) nd' hc) → OutR h ow h' ow' (p.1, p.2 ++ w) → DR h' ow' B (top && !(w.isEmpty)) p d' cs
 | [], d, d', nd, nd', top, p, cs, hL, e, ha, hs, ht, hn, hx, o => by
  simp only [atD, Option.some.injEq] at ha; subst ha
  simp only [setD, Option.some.injEq] at hs; subst hs
  simp only [List.append_nil] at hx
  simp only [List.isEmpty_nil, Bool.not_true, Bool.and_false]
  exact hx _ (e.topA hn)
 | i :: w, .own z l, d', nd, nd', top, p, cs, hL, e, ha, hs, ht, hn, hx, o => by
  simp only [atD] at ha
  obtain ⟨d, h1, h2⟩ := Option.bind_eq_some_iff.1 ha
  simp only [setD, h1, Option.bind_some] at hs
  obtain ⟨y, h3, rfl⟩ := Option.map_eq_some_iff.1 hs
  unfold DR at e ⊢
  obtain ⟨n, css, g1, g0, g2, g3, g4, g5, e2⟩ := e
  obtain ⟨c, h4, h5⟩ := e2.get h1
  rw [Nat.zero_add] at h5
  have h6 := DR.upd (p := (p.1, p.2 ++ [i])) hL h5 h2 h3 (fun x => by cases x) hn (by rw [← pt_app]; exact hx) (by rw [← pt_app]; exact o)
  obtain ⟨q1, q2⟩ := o.own n p z l.length g3 rfl not_bel_up hL
  refine ⟨n, css, by rw [g1, List.length_set], g0, g2, by rw [q1, List.length_set], by rw [q2, g4], g5, ?_⟩
  have h7 := e2.set (h' := h') (ow' := ow') h1 h4 (d' := y) (c' := c) (by rw [Nat.zero_add]; exact h6) (fun k x y hk hy => by
   rw [Nat.zero_add] at hk
   exact OutR.sib (t := (p.1, p.2 ++ i :: w)) (p := (p.1, p.2 ++ [k])) hL rfl o (not_bel_step (Ne.symm hk)) (not_bel_step' (Ne.symm hk)) hy)
  have h8 : css.set i c = css := by
   obtain ⟨hi, rfl⟩ := List.getElem?_eq_some_iff.1 h4
   exact List.set_getElem_self hi
  rw [h8] at h7; exact h7
 | i :: w, .agg l, d', nd, nd', top, p, cs, hL, e, ha, hs, ht, hn, hx, o => by
  simp only [atD] at ha
  obtain ⟨d, h1, h2⟩ := Option.bind_eq_some_iff.1 ha
  simp only [setD, h1, Option.bind_some] at hs
  obtain ⟨y, h3, rfl⟩ := Option.map_eq_some_iff.1 hs
  have hlr : ∀ (l : List DV) (x : DV) (j : Nat), noRefs l = true → l[j]? = some x → noRef x = true := by
   intro l
   induction l with
   | nil => intro x j _ hj; simp at hj
   | cons a l ih =>
    intro x j hl hj
    unfold noRefs at hl; rw [Bool.and_eq_true] at hl
    cases j with
    | zero => simp at hj; subst hj; exact hl.1
    | succ j => simp at hj; exact ih x j hl.2 hj
  unfold DR at e ⊢
  obtain ⟨css, g1, e2⟩ := e
  obtain ⟨c, h4, h5⟩ := e2.get h1
  rw [Nat.zero_add] at h5
  have hnr : top = true → noRefs l = true := fun x => by
   rcases ht x with q | q
   ·unfold noRef at q; exact q
   ·cases q
  have h6 := DR.upd (p := (p.1, p.2 ++ [i])) hL h5 h2 h3 (fun x => .inl (hlr l d i (hnr x) h1)) hn (by rw [← pt_app]; exact hx) (by rw [← pt_app]; exact o)
  refine ⟨css, g1, ?_⟩
  have h8 : css.set i c = css := by
   obtain ⟨hi, rfl⟩ := List.getElem?_eq_some_iff.1 h4
   exact List.set_getElem_self hi
  simp only [List.isEmpty_cons, Bool.not_false, Bool.and_true]
  cases top with
  | false =>
   have h7 := e2.set (h' := h') (ow' := ow') h1 h4 (d' := y) (c' := c) (by rw [Nat.zero_add]; exact h6) (fun k x y hk hy => by
    rw [Nat.zero_add] at hk
    exact OutR.sib (t := (p.1, p.2 ++ i :: w)) (p := (p.1, p.2 ++ [k])) hL rfl o (not_bel_step (Ne.symm hk)) (not_bel_step' (Ne.symm hk)) hy)
   rw [h8] at h7; exact h7
  | true =>
   have h9 : DRs h ow B false p 0 l css := e2.mv (top' := false) ⟨fun _ hh => ⟨hh, rfl⟩, fun _ _ _ _ hh => ⟨hh, rfl⟩⟩ (.inl (hnr rfl)) (Nat.le_refl _)
   have h10 : DR h' ow' B false (p.1, p.2 ++ [i]) y c := by
    have h5' : DR h ow B false (p.1, p.2 ++ [i]) d c := h5.mv (top' := false) ⟨fun _ hh => ⟨hh, rfl⟩, fun _ _ _ _ hh => ⟨hh, rfl⟩⟩ (.inl (hlr l d i (hnr rfl) h1)) (Nat.le_refl _)
    exact DR.upd (p := (p.1, p.2 ++ [i])) hL h5' h2 h3 (fun x => by cases x) hn (by rw [← pt_app]; exact hx) (by rw [← pt_app]; exact o)
   have h7 := h9.set (h' := h') (ow' := ow') h1 h4 (d' := y) (c' := c) (by rw [Nat.zero_add]; exact h10) (fun k x y hk hy => by
    rw [Nat.zero_add] at hk
    exact OutR.sib (t := (p.1, p.2 ++ i :: w)) (p := (p.1, p.2 ++ [k])) hL rfl o (not_bel_step (Ne.symm hk)) (not_bel_step' (Ne.symm hk)) hy)
   rw [h8] at h7
   exact h7.mv (top' := true) ⟨fun _ hh => ⟨hh, rfl⟩, fun _ _ _ _ hh => ⟨hh, rfl⟩⟩ (.inr ⟨(fun x => by cases x), fun _ _ _ _ _ hh => hh⟩) (Nat.le_refl _)
 | i :: w, .box d, d', nd, nd', top, p, cs, hL, e, ha, hs, ht, hn, hx, o => by
  simp only [atD] at ha
  simp only [setD] at hs
  split at ha
  ·rename_i hi; subst hi
   simp only [if_true] at hs
   obtain ⟨y, h3, rfl⟩ := Option.map_eq_some_iff.1 hs
   unfold DR at e ⊢
   obtain ⟨n, c, g1, g2, g3, g4, e2⟩ := e
   have h6 := DR.upd (p := (p.1, p.2 ++ [0])) hL e2 ha h3 (fun x => by cases x) hn (by rw [← pt_app]; exact hx) (by rw [← pt_app]; exact o)
   obtain ⟨q1, q2⟩ := o.own n p 0 0 g3 rfl not_bel_up hL
   exact ⟨n, c, g1, g2, q1, by rw [q2, g4], h6⟩
  ·cases ha
 | i :: w, .fv (.agg l), d', nd, nd', top, p, cs, hL, e, ha, hs, ht, hn, hx, o => by
  exfalso
  have : ∀ (w : List Nat) (v : FV), atD w (.fv v) = some nd → False := by
   intro w
   induction w with
   | nil => intro v hv; simp only [atD, Option.some.injEq] at hv; subst hv; cases hn
   | cons j w ih =>
    intro v hv
    cases v with
    | agg l =>
     simp only [atD] at hv
     obtain ⟨d, _, h2⟩ := Option.bind_eq_some_iff.1 hv
     exact ih d h2
    | _ => simp [atD] at hv
  exact this _ _ ha
 | i :: w, .hdr _ _ _, d', nd, nd', top, p, cs, hL, e, ha, hs, ht, hn, hx, o => by simp [atD] at ha
 | i :: w, .ptr _ _ _, d', nd, nd', top, p, cs, hL, e, ha, hs, ht, hn, hx, o => by simp [atD] at ha
 | i :: w, .tup _, d', nd, nd', top, p, cs, hL, e, ha, hs, ht, hn, hx, o => by simp [atD] at ha
 | i :: w, .junk _, d', nd, nd', top, p, cs, hL, e, ha, hs, ht, hn, hx, o => by simp [atD] at ha
 | i :: w, .fv (.int _ _), d', nd, nd', top, p, cs, hL, e, ha, hs, ht, hn, hx, o => by simp [atD] at ha
 | i :: w, .fv (.bool _), d', nd, nd', top, p, cs, hL, e, ha, hs, ht, hn, hx, o => by simp [atD] at ha
 | i :: w, .fv (.str _), d', nd, nd', top, p, cs, hL, e, ha, hs, ht, hn, hx, o => by simp [atD] at ha
 | i :: w, .fv .nil, d', nd, nd', top, p, cs, hL, e, ha, hs, ht, hn, hx, o => by simp [atD] at ha
 | i :: w, .fv .nilp, d', nd, nd', top, p, cs, hL, e, ha, hs, ht, hn, hx, o => by simp [atD] at ha
 | i :: w, .fv (.row _ _), d', nd, nd', top, p, cs, hL, e, ha, hs, ht, hn, hx, o => by simp [atD] at ha
 | i :: w, .fv (.fp _), d', nd, nd', top, p, cs, hL, e, ha, hs, ht, hn, hx, o => by simp [atD] at ha
 | i :: w, .fv (.fn _ _ _), d', nd, nd', top, p, cs, hL, e, ha, hs, ht, hn, hx, o => by simp [atD] at ha
end
end Go.Proofs.YtonpnjfclelpiaaGreatM
