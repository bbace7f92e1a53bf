import Derived.Test.YtonpnjfclelpiaaGreatVDMv1
namespace Go.Proofs.YtonpnjfclelpiaaGreatM
open Go
set_option linter.unusedVariables false
set_option linter.unusedSimpArgs false
def atD : List Nat → DV → Option DV
 | [], d => some d
 | i :: w, .own _ l => (l[i]?).bind (atD w)
 | i :: w, .agg l => (l[i]?).bind (atD w)
 | i :: w, .box d => if i = 0 then atD w d else none
 | i :: w, .fv (.agg l) => (l[i]?).bind fun v => atD w (.fv v)
 | _, _ => none
def aggSet (l : List FV) (i : Nat) : DV → DV
 | .fv v => .fv (.agg (l.set i v))
 | d => .agg ((l.map .fv).set i d)
def setD : List Nat → DV → DV → Option DV
 | [], _, x => some x
 | i :: w, .own z l, x => (l[i]?).bind fun d => (setD w d x).map fun d' => .own z (l.set i d')
 | i :: w, .agg l, x => (l[i]?).bind fun d => (setD w d x).map fun d' => .agg (l.set i d')
 | i :: w, .box d, x => if i = 0 then (setD w d x).map .box else none
 | i :: w, .fv (.agg l), x => (l[i]?).bind fun v => (setD w (.fv v) x).map (aggSet l i)
 | _, _, _ => none
def inlD : List Nat → DV → Option Nat
 | [], _ => some 0
 | i :: w, .agg l => (l[i]?).bind fun d => (inlD w d).map (szDs (l.take i) + ·)
 | i :: w, .fv (.agg l) => (l[i]?).bind fun v => (inlD w (.fv v)).map (szFs (l.take i) + ·)
 | _, _ => none
def offN : List Nat → DV → Option Nat
 | i :: w, .own z l => (l[i]?).bind fun d => (inlD w d).map (i * z + ·)
 | i :: w, .box d => if i = 0 then inlD w d else none
 | _, _ => none
theorem splice_len {l xs : List Value} {o : Nat} (h : o + xs.length ≤ l.length) : (splice l o xs).length = l.length := by
 unfold splice; simp; omega
theorem splice_zero {l xs : List Value} (h : xs.length = l.length) : splice l 0 xs = xs := by
 unfold splice; simp [h]
theorem flat_off {css : List (List Value)} : ∀ {j : Nat} {c : List Value}, css[j]? = some c → (css.take j).flatten.length + c.length ≤ css.flatten.length ∧ (css.flatten.drop (css.take j).flatten.length).take c.length = c := by
 induction css with
 | nil => intro j c h; simp at h
 | cons a css ih =>
  intro j c h
  cases j with
  | zero => simp at h; subst h; simp
  | succ j =>
   simp at h
   obtain ⟨h1, h2⟩ := ih h
   simp only [List.take_succ_cons, List.flatten_cons, List.length_append]
   refine ⟨by omega, ?_⟩
   rw [← List.drop_drop, List.drop_left]; exact h2
theorem flat_splice {css : List (List Value)} : ∀ {j : Nat} {c xs : List Value} {o : Nat}, css[j]? = some c → o + xs.length ≤ c.length → (css.set j (splice c o xs)).flatten = splice css.flatten ((css.take j).flatten.length + o) xs := by
 induction css with
 | nil => intro j c xs o h; simp at h
 | cons a css ih =>
  intro j c xs o h ho
  cases j with
  | zero =>
   simp at h; subst h
   simp only [List.set_cons_zero, List.flatten_cons, List.take_zero, List.flatten_nil, List.length_nil, Nat.zero_add]
   unfold splice
   rw [List.take_append_of_le_length (by omega), List.drop_append_of_le_length (by omega)]
   simp
  | succ j =>
   simp at h
   simp only [List.set_cons_succ, List.flatten_cons, List.take_succ_cons, List.length_append]
   rw [ih h ho]
   unfold splice
   have e1 : ∀ n, (a ++ css.flatten).take (a.length + n) = a ++ css.flatten.take n := fun n => by rw [List.take_append, List.take_of_length_le (by omega), Nat.add_sub_cancel_left]
   have e2 : ∀ n, (a ++ css.flatten).drop (a.length + n) = css.flatten.drop n := fun n => by simp [List.drop_append]
   rw [Nat.add_assoc a.length, Nat.add_assoc a.length, e1, e2]
   simp only [List.append_assoc]
theorem flat_mul {css : List (List Value)} {z : Nat} (h : ∀ c ∈ css, c.length = z) : css.flatten.length = css.length * z := by
 induction css with
 | nil => simp
 | cons a css ih =>
  simp only [List.flatten_cons, List.length_append, List.length_cons]
  rw [ih (fun c hc => h c (by simp [hc])), h a (by simp), Nat.add_mul]; omega
theorem flat_mulT {css : List (List Value)} {z j : Nat} (h : ∀ c ∈ css, c.length = z) (hj : j ≤ css.length) : (css.take j).flatten.length = j * z := by
 rw [flat_mul (fun c hc => h c (List.mem_of_mem_take hc)), List.length_take, Nat.min_eq_left hj]
section
variable {h h' : Hp} {ow ow' : Nat → Ow} {B : Nat}
theorem FRs.count : ∀ {l : List FV} {css : List (List Value)}, FRs h ow B l css → css.length = l.length
 | [], _, e => by unfold FRs at e; subst e; rfl
 | d :: l, _, e => by unfold FRs at e; obtain ⟨c, r, rfl, _, h2⟩ := e; simp [h2.count]
theorem FRs.get : ∀ {l : List FV} {css : List (List Value)}, FRs h ow B l css → ∀ {j : Nat} {d : FV}, l[j]? = some d → ∃ c, css[j]? = some c ∧ FR h ow B d c
 | [], _, e, j, d, hj => by simp at hj
 | a :: l, _, e, j, d, hj => by
  unfold FRs at e; obtain ⟨c, r, rfl, h1, h2⟩ := e
  cases j with
  | zero => simp at hj; subst hj; exact ⟨c, rfl, h1⟩
  | succ j => simp at hj; obtain ⟨c', q1, q2⟩ := h2.get hj; exact ⟨c', by simpa using q1, q2⟩
theorem FRs.take {l : List FV} {css : List (List Value)} : FRs h ow B l css → ∀ (j : Nat), FRs h ow B (l.take j) (css.take j) := by
 induction l generalizing css with
 | nil => intro e j; unfold FRs at e; subst e; simp [FRs]
 | cons a l ih =>
  intro e j
  unfold FRs at e; obtain ⟨c, r, rfl, h1, h2⟩ := e
  cases j with
  | zero => simp [FRs]
  | succ j => rw [List.take_succ_cons, List.take_succ_cons]; unfold FRs; exact ⟨c, _, rfl, h1, ih h2 j⟩
theorem FRs.drop {l : List FV} {css : List (List Value)} : FRs h ow B l css → ∀ (j : Nat), FRs h ow B (l.drop j) (css.drop j) := by
 induction l generalizing css with
 | nil => intro e j; unfold FRs at e; subst e; simp [FRs]
 | cons a l ih =>
  intro e j
  cases j with
  | zero => exact e
  | succ j => unfold FRs at e; obtain ⟨c, r, rfl, h1, h2⟩ := e; exact ih h2 j
theorem FRs.toD {p : Pt} {top : Bool} : ∀ {l : List FV} {css : List (List Value)} {i : Nat}, FRs h ow B l css → DRs h ow B top p i (l.map .fv) css
 | [], _, i, e => by unfold FRs at e; unfold DRs; exact e
 | d :: l, _, i, e => by
  unfold FRs at e; obtain ⟨c, r, rfl, h1, h2⟩ := e
  rw [List.map_cons]; unfold DRs
  exact ⟨c, r, rfl, by unfold DR; exact h1, h2.toD⟩
theorem DRs.count : ∀ {l : List DV} {top : Bool} {p : Pt} {i : Nat} {css : List (List Value)}, DRs h ow B top p i l css → css.length = l.length
 | [], _, _, _, _, e => by unfold DRs at e; subst e; rfl
 | d :: l, _, _, _, _, e => by unfold DRs at e; obtain ⟨c, r, rfl, _, h2⟩ := e; simp [h2.count]
theorem DRs.get : ∀ {l : List DV} {top : Bool} {p : Pt} {i : Nat} {css : List (List Value)}, DRs h ow B top p i l css → ∀ {j : Nat} {d : DV}, l[j]? = some d → ∃ c, css[j]? = some c ∧ DR h ow B top (p.1, p.2 ++ [i + j]) d c
 | [], _, _, _, _, e, j, d, hj => by simp at hj
 | a :: l, _, _, i, _, e, j, d, hj => by
  unfold DRs at e; obtain ⟨c, r, rfl, h1, h2⟩ := e
  cases j with
  | zero => simp at hj; subst hj; exact ⟨c, rfl, h1⟩
  | succ j =>
   simp at hj; obtain ⟨c', q1, q2⟩ := h2.get hj
   exact ⟨c', by simpa using q1, by rw [Nat.add_right_comm, Nat.add_assoc] at q2; exact q2⟩
theorem DRs.take : ∀ {l : List DV} {top : Bool} {p : Pt} {i : Nat} {css : List (List Value)}, DRs h ow B top p i l css → ∀ (j : Nat), DRs h ow B top p i (l.take j) (css.take j)
 | [], _, _, _, _, e, j => by unfold DRs at e; subst e; simp [DRs]
 | a :: l, _, _, i, _, e, 0 => by simp [DRs]
 | a :: l, _, _, i, _, e, j + 1 => by
  unfold DRs at e; obtain ⟨c, r, rfl, h1, h2⟩ := e
  rw [List.take_succ_cons, List.take_succ_cons]; unfold DRs
  exact ⟨c, _, rfl, h1, h2.take j⟩
theorem DRs.append : ∀ {l m : List DV} {top : Bool} {p : Pt} {i : Nat} {css cms : List (List Value)}, DRs h ow B top p i l css → DRs h ow B top p (i + l.length) m cms → DRs h ow B top p i (l ++ m) (css ++ cms)
 | [], m, _, _, i, _, _, e, e2 => by unfold DRs at e; subst e; simpa using e2
 | a :: l, m, _, _, i, _, _, e, e2 => by
  unfold DRs at e; obtain ⟨c, r, rfl, h1, h2⟩ := e
  rw [List.cons_append, List.cons_append]; unfold DRs
  exact ⟨c, _, rfl, h1, h2.append (by rw [List.length_cons] at e2; rw [Nat.add_right_comm, Nat.add_assoc]; exact e2)⟩
theorem DRs.set : ∀ {l : List DV} {top : Bool} {p : Pt} {i : Nat} {css : List (List Value)}, DRs h ow B top p i l css → ∀ {j : Nat} {d d' : DV} {c c' : List Value}, l[j]? = some d → css[j]? = some c → DR h' ow' B top (p.1, p.2 ++ [i + j]) d' c' →
  (∀ (k : Nat) (x : DV) (y : List Value), k ≠ i + j → DR h ow B top (p.1, p.2 ++ [k]) x y → DR h' ow' B top (p.1, p.2 ++ [k]) x y) → DRs h' ow' B top p i (l.set j d') (css.set j c')
 | [], _, _, _, _, e, j, d, d', c, c', hj, _, _, _ => by simp at hj
 | a :: l, top, p, i, _, e, 0, d, d', c, c', hj, hc, hd, ho => by
  unfold DRs at e; obtain ⟨c0, r, rfl, h1, h2⟩ := e
  simp only [List.set_cons_zero]; unfold DRs
  refine ⟨c', r, rfl, hd, ?_⟩
  have : ∀ {l : List DV} {i2 : Nat} {css : List (List Value)}, i < i2 → DRs h ow B top p i2 l css → DRs h' ow' B top p i2 l css := by
   intro l
   induction l with
   | nil => intro i2 css _ e; unfold DRs at *; exact e
   | cons x l ih =>
    intro i2 css hi e
    unfold DRs at e ⊢
    obtain ⟨c1, r1, q1, q2, q3⟩ := e
    exact ⟨c1, r1, q1, ho i2 _ _ (by omega) q2, ih (by omega) q3⟩
  exact this (by omega) h2
 | a :: l, top, p, i, _, e, j + 1, d, d', c, c', hj, hc, hd, ho => by
  unfold DRs at e; obtain ⟨c0, r, rfl, h1, h2⟩ := e
  simp only [List.set_cons_succ]; unfold DRs
  simp at hj hc
  refine ⟨c0, _, rfl, ho i _ _ (by omega) h1, h2.set hj hc (by rw [Nat.add_right_comm, Nat.add_assoc]; exact hd) fun k x y hk => ho k x y (by omega)⟩
theorem DR.inl : ∀ {w : List Nat} {d : DV} {top : Bool} {p : Pt} {cs : List Value} {o : Nat}, DR h ow B top p d cs → inlD w d = some o → ∃ d', atD w d = some d' ∧ o + szD d' ≤ cs.length ∧ DR h ow B top (p.1, p.2 ++ w) d' ((cs.drop o).take (szD d'))
 | [], d, top, p, cs, o, e, hi => by
  simp only [inlD, Option.some.injEq] at hi; subst hi
  refine ⟨d, rfl, by rw [e.len]; omega, ?_⟩
  rw [List.drop_zero, ← e.len, List.take_length, List.append_nil]; exact e
 | i :: w, .agg l, top, p, cs, o, e, hi => by
  simp only [inlD] at hi
  obtain ⟨d, h1, h2⟩ := Option.bind_eq_some_iff.1 hi
  obtain ⟨o', h3, rfl⟩ := Option.map_eq_some_iff.1 h2
  unfold DR at e
  obtain ⟨css, rfl, e2⟩ := e
  obtain ⟨c, h4, h5⟩ := e2.get h1
  obtain ⟨d', h6, h7, h8⟩ := DR.inl h5 h3
  obtain ⟨q1, q2⟩ := flat_off h4
  have q3 : (css.take i).flatten.length = szDs (l.take i) := (e2.take i).len
  rw [q3] at q1 q2
  refine ⟨d', by simp only [atD, h1]; exact h6, by omega, ?_⟩
  rw [← q2, List.drop_take, List.drop_drop, List.take_take, Nat.min_eq_left (by omega)] at h8
  rw [Nat.zero_add, List.append_assoc] at h8
  exact h8
 | i :: w, .fv (.agg l), top, p, cs, o, e, hi => by
  simp only [inlD] at hi
  obtain ⟨d, h1, h2⟩ := Option.bind_eq_some_iff.1 hi
  obtain ⟨o', h3, rfl⟩ := Option.map_eq_some_iff.1 h2
  unfold DR FR at e
  obtain ⟨css, rfl, e2⟩ := e
  obtain ⟨c, h4, h5⟩ := e2.get h1
  obtain ⟨d', h6, h7, h8⟩ := DR.inl (d := .fv d) (p := (p.1, p.2 ++ [i])) (top := top) (by unfold DR; exact h5) h3
  obtain ⟨q1, q2⟩ := flat_off h4
  have q3 : (css.take i).flatten.length = szFs (l.take i) := (e2.take i).len
  rw [q3] at q1 q2
  refine ⟨d', by simp only [atD, h1]; exact h6, by omega, ?_⟩
  rw [← q2, List.drop_take, List.drop_drop, List.take_take, Nat.min_eq_left (by omega)] at h8
  rw [List.append_assoc] at h8
  exact h8
 | i :: w, .own _ _, top, p, cs, o, e, hi => by simp [inlD] at hi
 | i :: w, .box _, top, p, cs, o, e, hi => by simp [inlD] at hi
 | i :: w, .hdr _ _ _, top, p, cs, o, e, hi => by simp [inlD] at hi
 | i :: w, .ptr _ _ _, top, p, cs, o, e, hi => by simp [inlD] at hi
 | i :: w, .tup _, top, p, cs, o, e, hi => by simp [inlD] at hi
 | i :: w, .junk _, top, p, cs, o, e, hi => by simp [inlD] at hi
 | i :: w, .fv (.int _ _), top, p, cs, o, e, hi => by simp [inlD] at hi
 | i :: w, .fv (.bool _), top, p, cs, o, e, hi => by simp [inlD] at hi
 | i :: w, .fv (.str _), top, p, cs, o, e, hi => by simp [inlD] at hi
 | i :: w, .fv .nil, top, p, cs, o, e, hi => by simp [inlD] at hi
 | i :: w, .fv .nilp, top, p, cs, o, e, hi => by simp [inlD] at hi
 | i :: w, .fv (.row _ _), top, p, cs, o, e, hi => by simp [inlD] at hi
 | i :: w, .fv (.fp _), top, p, cs, o, e, hi => by simp [inlD] at hi
 | i :: w, .fv (.fn _ _ _), top, p, cs, o, e, hi => by simp [inlD] at hi
theorem DR.inlSet : ∀ {w : List Nat} {d d' d0 x : DV} {top : Bool} {p : Pt} {cs xs : List Value} {o : Nat}, DR h ow B top p d cs → inlD w d = some o → atD w d = some d0 → szD x = szD d0 → setD w d x = some d' → DR h' ow' B top (p.1, p.2 ++ w) x xs →
  (∀ (q : Pt) (y : DV) (ys : List Value), Bel p q → ¬ Bel (p.1, p.2 ++ w) q → ¬ Bel q (p.1, p.2 ++ w) → DR h ow B top q y ys → DR h' ow' B top q y ys) → DR h' ow' B top p d' (splice cs o xs)
 | [], d, d', d0, x, top, p, cs, xs, o, e, hi, ha, hz, hs, hx, ho => by
  simp only [inlD, Option.some.injEq] at hi; subst hi
  simp only [atD, Option.some.injEq] at ha; subst ha
  simp only [setD, Option.some.injEq] at hs; subst hs
  rw [splice_zero (by rw [hx.len, e.len, hz])]
  rw [List.append_nil] at hx; exact hx
 | i :: w, .agg l, d', d0, x, top, p, cs, xs, o, e, hi, ha, hz, hs, hx, ho => by
  simp only [inlD] at hi
  obtain ⟨d, h1, h2⟩ := Option.bind_eq_some_iff.1 hi
  obtain ⟨o', h3, rfl⟩ := Option.map_eq_some_iff.1 h2
  simp only [setD, h1, Option.bind_some] at hs
  simp only [atD, h1, Option.bind_some] at ha
  obtain ⟨y, h4, rfl⟩ := Option.map_eq_some_iff.1 hs
  unfold DR at e ⊢
  obtain ⟨css, rfl, e2⟩ := e
  obtain ⟨c, h5, h6⟩ := e2.get h1
  rw [Nat.zero_add] at h6
  have h7 := DR.inlSet h6 h3 ha hz h4 (by rw [List.append_assoc]; exact hx) (fun q y ys b1 b2 b3 hq => ho q y ys ((Bel.ext p [i]).trans b1) (by rw [List.append_assoc] at b2; exact b2) (by rw [List.append_assoc] at b3; exact b3) hq)
  have q3 : (css.take i).flatten.length = szDs (l.take i) := (e2.take i).len
  obtain ⟨d2, k1, k2, k3⟩ := DR.inl h6 h3
  rw [ha] at k1; injection k1 with k1; subst k1
  refine ⟨css.set i (splice c o' xs), ?_, e2.set h1 h5 (by rw [Nat.zero_add]; exact h7) ?_⟩
  ·rw [← q3, flat_splice h5 (by rw [hx.len, hz]; exact k2)]
  ·intro k z y hk hq
   rw [Nat.zero_add] at hk
   refine ho _ z y (Bel.ext p [k]) ?_ ?_ hq
   ·rintro ⟨_, v, hv⟩
    simp only [List.append_assoc, List.append_cancel_left_eq] at hv
    simp at hv; exact hk hv.1
   ·rintro ⟨_, v, hv⟩
    simp only [List.append_assoc, List.append_cancel_left_eq] at hv
    simp at hv; exact hk hv.1.symm
 | i :: w, .fv (.agg l), d', d0, x, top, p, cs, xs, o, e, hi, ha, hz, hs, hx, ho => by
  simp only [inlD] at hi
  obtain ⟨d, h1, h2⟩ := Option.bind_eq_some_iff.1 hi
  obtain ⟨o', h3, rfl⟩ := Option.map_eq_some_iff.1 h2
  simp only [setD, h1, Option.bind_some] at hs
  simp only [atD, h1, Option.bind_some] at ha
  obtain ⟨y, h4, rfl⟩ := Option.map_eq_some_iff.1 hs
  unfold DR FR at e
  obtain ⟨css, rfl, e1⟩ := e
  have e2 : DRs h ow B top p 0 (l.map .fv) css := e1.toD
  have h1' : (l.map DV.fv)[i]? = some (.fv d) := by simp [h1]
  obtain ⟨c, h5, h6⟩ := e2.get h1'
  rw [Nat.zero_add] at h6
  have h7 := DR.inlSet h6 h3 ha hz h4 (by rw [List.append_assoc]; exact hx) (fun q y ys b1 b2 b3 hq => ho q y ys ((Bel.ext p [i]).trans b1) (by rw [List.append_assoc] at b2; exact b2) (by rw [List.append_assoc] at b3; exact b3) hq)
  have q3 : (css.take i).flatten.length = szFs (l.take i) := (e1.take i).len
  obtain ⟨d2, k1, k2, k3⟩ := DR.inl h6 h3
  rw [ha] at k1; injection k1 with k1; subst k1
  have key : DRs h' ow' B top p 0 ((l.map .fv).set i y) (css.set i (splice c o' xs)) := by
   refine e2.set h1' h5 (by rw [Nat.zero_add]; exact h7) ?_
   intro k z y hk hq
   rw [Nat.zero_add] at hk
   refine ho _ z y (Bel.ext p [k]) ?_ ?_ hq
   ·rintro ⟨_, v, hv⟩
    simp only [List.append_assoc, List.append_cancel_left_eq] at hv
    simp at hv; exact hk hv.1
   ·rintro ⟨_, v, hv⟩
    simp only [List.append_assoc, List.append_cancel_left_eq] at hv
    simp at hv; exact hk hv.1.symm
  rw [← q3, ← flat_splice h5 (by rw [hx.len, hz]; exact k2)]
  have fin : ∀ {l : List FV} {css : List (List Value)} {i : Nat}, DRs h' ow' B top p i (l.map .fv) css → FRs h' ow' B l css := by
   intro l
   induction l with
   | nil => intro css i e; unfold DRs at e; unfold FRs; exact e
   | cons a l ih =>
    intro css i e
    rw [List.map_cons] at e
    unfold DRs at e; unfold FRs
    obtain ⟨c, r, r1, r2, r3⟩ := e
    exact ⟨c, r, r1, by unfold DR at r2; exact r2, ih r3⟩
  cases y with
  | fv v =>
   simp only [aggSet]; unfold DR FR
   exact ⟨_, rfl, fin (by rw [List.map_set]; exact key)⟩
  | _ => simp only [aggSet]; unfold DR; exact ⟨_, rfl, key⟩
 | i :: w, .own _ _, d', d0, x, top, p, cs, xs, o, e, hi, ha, hz, hs, hx, ho => by simp [inlD] at hi
 | i :: w, .box _, d', d0, x, top, p, cs, xs, o, e, hi, ha, hz, hs, hx, ho => by simp [inlD] at hi
 | i :: w, .hdr _ _ _, d', d0, x, top, p, cs, xs, o, e, hi, ha, hz, hs, hx, ho => by simp [inlD] at hi
 | i :: w, .ptr _ _ _, d', d0, x, top, p, cs, xs, o, e, hi, ha, hz, hs, hx, ho => by simp [inlD] at hi
 | i :: w, .tup _, d', d0, x, top, p, cs, xs, o, e, hi, ha, hz, hs, hx, ho => by simp [inlD] at hi
 | i :: w, .junk _, d', d0, x, top, p, cs, xs, o, e, hi, ha, hz, hs, hx, ho => by simp [inlD] at hi
 | i :: w, .fv (.int _ _), d', d0, x, top, p, cs, xs, o, e, hi, ha, hz, hs, hx, ho => by simp [inlD] at hi
 | i :: w, .fv (.bool _), d', d0, x, top, p, cs, xs, o, e, hi, ha, hz, hs, hx, ho => by simp [inlD] at hi
 | i :: w, .fv (.str _), d', d0, x, top, p, cs, xs, o, e, hi, ha, hz, hs, hx, ho => by simp [inlD] at hi
 | i :: w, .fv .nil, d', d0, x, top, p, cs, xs, o, e, hi, ha, hz, hs, hx, ho => by simp [inlD] at hi
 | i :: w, .fv .nilp, d', d0, x, top, p, cs, xs, o, e, hi, ha, hz, hs, hx, ho => by simp [inlD] at hi
 | i :: w, .fv (.row _ _), d', d0, x, top, p, cs, xs, o, e, hi, ha, hz, hs, hx, ho => by simp [inlD] at hi
 | i :: w, .fv (.fp _), d', d0, x, top, p, cs, xs, o, e, hi, ha, hz, hs, hx, ho => by simp [inlD] at hi
 | i :: w, .fv (.fn _ _ _), d', d0, x, top, p, cs, xs, o, e, hi, ha, hz, hs, hx, ho => by simp [inlD] at hi
end
end Go.Proofs.YtonpnjfclelpiaaGreatM
