import Derived.Test.YtonpnjfclelpiaaGreatVDMv4
namespace Go.Proofs.YtonpnjfclelpiaaGreatM
open Go
set_option linter.unusedVariables false
set_option linter.unusedSimpArgs false
def asNode (d : DV) : Option DV := if isNode d = true then some d else none
def node (st : St) (q : Pt) : Option DV := (get st q.1).bind fun d => if (isNode d || noRef d) = true then (atD q.2 d).bind asNode else none
def nset (a : Pt → Bool) (st : St) (q : Pt) (nd' : DV) : Option St := (get st q.1).bind fun d => (setD q.2 d nd').map fun d' => setR q.1 d' (klS a st)
theorem setD_agg : ∀ {w : List Nat} {d d' nd nd' : DV}, atD w d = some nd → setD w d nd' = some d' → isAgg nd = false → isAgg nd' = false → isAgg d' = isAgg d
 | [], d, d', nd, nd', h1, h2, h3, h4 => by
  simp only [atD, Option.some.injEq] at h1; subst h1
  simp only [setD, Option.some.injEq] at h2; subst h2
  rw [h3, h4]
 | i :: w, .own z l, d', nd, nd', h1, h2, h3, h4 => by
  simp only [setD] at h2
  obtain ⟨x, _, h5⟩ := Option.bind_eq_some_iff.1 h2
  obtain ⟨y, _, rfl⟩ := Option.map_eq_some_iff.1 h5
  rfl
 | i :: w, .agg l, d', nd, nd', h1, h2, h3, h4 => by
  simp only [setD] at h2
  obtain ⟨x, _, h5⟩ := Option.bind_eq_some_iff.1 h2
  obtain ⟨y, _, rfl⟩ := Option.map_eq_some_iff.1 h5
  rfl
 | i :: w, .box d, d', nd, nd', h1, h2, h3, h4 => by
  simp only [setD] at h2
  split at h2
  ·obtain ⟨y, _, rfl⟩ := Option.map_eq_some_iff.1 h2; rfl
  ·cases h2
 | i :: w, .fv (.agg l), d', nd, nd', h1, h2, h3, h4 => by
  simp only [setD] at h2
  obtain ⟨x, _, h5⟩ := Option.bind_eq_some_iff.1 h2
  obtain ⟨y, _, rfl⟩ := Option.map_eq_some_iff.1 h5
  cases y <;> rfl
 | i :: w, .hdr _ _ _, d', nd, nd', h1, h2, h3, h4 => by simp [atD] at h1
 | i :: w, .ptr _ _ _, d', nd, nd', h1, h2, h3, h4 => by simp [atD] at h1
 | i :: w, .tup _, d', nd, nd', h1, h2, h3, h4 => by simp [atD] at h1
 | i :: w, .junk _, d', nd, nd', h1, h2, h3, h4 => by simp [atD] at h1
 | i :: w, .fv (.int _ _), d', nd, nd', h1, h2, h3, h4 => by simp [atD] at h1
 | i :: w, .fv (.bool _), d', nd, nd', h1, h2, h3, h4 => by simp [atD] at h1
 | i :: w, .fv (.str _), d', nd, nd', h1, h2, h3, h4 => by simp [atD] at h1
 | i :: w, .fv .nil, d', nd, nd', h1, h2, h3, h4 => by simp [atD] at h1
 | i :: w, .fv .nilp, d', nd, nd', h1, h2, h3, h4 => by simp [atD] at h1
 | i :: w, .fv (.row _ _), d', nd, nd', h1, h2, h3, h4 => by simp [atD] at h1
 | i :: w, .fv (.fp _), d', nd, nd', h1, h2, h3, h4 => by simp [atD] at h1
 | i :: w, .fv (.fn _ _ _), d', nd, nd', h1, h2, h3, h4 => by simp [atD] at h1
section
variable {val val' : Nat → Value} {h h' : Hp} {ow ow' : Nat → Ow} {B B' : Nat} {st st' : St}
theorem nset_get {a : Pt → Bool} {q : Pt} {nd' : DV} (hs : nset a st q nd' = some st') {r : Nat} {d : DV} (hd : get st' r = some d) : ∃ d0, get st r = some d0 := by
 unfold nset at hs
 obtain ⟨d1, h1, h2⟩ := Option.bind_eq_some_iff.1 hs
 obtain ⟨d', h3, rfl⟩ := Option.map_eq_some_iff.1 h2
 rw [get_setR (d0 := kl a d1) (by rw [get_klS, h1]; rfl)] at hd
 split at hd
 ·rename_i hr; subst hr; exact ⟨d1, h1⟩
 ·rw [get_klS] at hd
  obtain ⟨d0, h4, _⟩ := Option.map_eq_some_iff.1 hd
  exact ⟨d0, h4⟩
theorem node_at {q : Pt} {nd : DV} (hn : node st q = some nd) : ∃ d, get st q.1 = some d ∧ (isNode d = true ∨ noRef d = true) ∧ atD q.2 d = some nd ∧ isNode nd = true := by
 unfold node at hn
 obtain ⟨d, h1, h2⟩ := Option.bind_eq_some_iff.1 hn
 split at h2
 ·rename_i h3
  obtain ⟨x, h4, h5⟩ := Option.bind_eq_some_iff.1 h2
  unfold asNode at h5
  split at h5
  ·rename_i h6; injection h5 with h5; subst h5
   exact ⟨d, h1, by simpa using h3, h4, h6⟩
  ·cases h5
 ·cases h2
theorem at_reg (C : Core val h ow B st) {r : Nat} {d nd : DV} {w : List Nat} (hd : get st r = some d) (ha : atD w d = some nd) (hn : isNode nd = true) : ∃ cs, DR h ow B true (r, []) d cs ∧ val r = mkv (isAgg d) cs := by
 rcases C.regs r d hd with ⟨l, vs, rfl, _⟩ | ⟨k, rfl⟩ | h1
 ·cases w <;> simp only [atD] at ha
  ·injection ha with ha; subst ha; cases hn
  ·cases ha
 ·cases w <;> simp only [atD] at ha
  ·injection ha with ha; subst ha; cases hn
  ·cases ha
 ·exact h1
theorem node_dr (C : Core val h ow B st) {q : Pt} {nd : DV} (hn : node st q = some nd) : ∃ hc, DR h ow B false q nd hc := by
 obtain ⟨d, h1, _, h3, h4⟩ := node_at hn
 obtain ⟨cs, h5, _⟩ := at_reg C h1 h3 h4
 obtain ⟨hc, h6⟩ := h5.sub h3 h4
 exact ⟨hc, by simpa using h6⟩
theorem Core.setN (C : Core val h ow B st) {a : Pt → Bool} {q : Pt} {nd nd' : DV} (hn : node st q = some nd) (hag : isAgg nd' = false) (hs : nset a st q nd' = some st') (hx : ∀ hc, DR h ow B false q nd hc → DR h' ow' B false q nd' hc)
  (o : Out h ow h' ow' q) (t : Tr a h ow h' ow') (hi : ∀ n m p z k z' k', ow' n = .of p z k → ow' m = .of p z' k' → n = m) (hnn : ∀ n, h'.blk n = none → ow' n = .no) : Core val h' ow' B st' := by
 obtain ⟨d, h1, h2, h3, h4⟩ := node_at hn
 unfold nset at hs
 rw [h1] at hs
 simp only [Option.bind_some] at hs
 obtain ⟨d', h5, rfl⟩ := Option.map_eq_some_iff.1 hs
 have hg : get (klS a st) q.1 = some (kl a d) := by rw [get_klS, h1]; rfl
 refine ⟨fun r x hx2 => ?_, hi, hnn, fun r x hx2 => ?_⟩
 rotate_left
 ·rw [get_setR hg] at hx2
  by_cases hr : r = q.1
  ·subst hr; exact C.lim _ _ h1
  ·rw [if_neg hr, get_klS] at hx2
   obtain ⟨d0, h6, _⟩ := Option.map_eq_some_iff.1 hx2
   exact C.lim _ _ h6
 rw [get_setR hg] at hx2
 by_cases hr : r = q.1
 ·subst hr
  rw [if_pos rfl] at hx2
  injection hx2 with hx2; subst hx2
  obtain ⟨cs, h6, h7⟩ := at_reg C h1 h3 h4
  have h8 := DR.upd (p := (q.1, [])) (C.lim _ _ h1) h6 h3 h5 (fun _ => h2.symm) (ndA_node h4) (by simpa using hx) (by simpa using o.toR)
  have hnag : isAgg nd = false := by cases nd <;> first | rfl | cases h4
  right; right
  refine ⟨cs, ?_, by rw [setD_agg h3 h5 hnag hag]; exact h7⟩
  exact h8.mv (top' := true) ⟨fun _ hh => ⟨hh, rfl⟩, fun _ _ _ _ hh => ⟨hh, rfl⟩⟩ (.inr ⟨fun _ => rfl, fun _ _ _ _ _ hh => hh⟩) (Nat.le_refl _)
 ·rw [if_neg hr, get_klS] at hx2
  obtain ⟨d0, h6, rfl⟩ := Option.map_eq_some_iff.1 hx2
  refine (C.regs r d0 h6).kl t (Nat.le_refl _) ⟨o.fz, fun n w z k hn => o.own n _ z k hn ?_ (C.lim _ _ h6)⟩
  rintro ⟨hh, _⟩; exact hr hh.symm
def mvO (q T : Pt) (ow : Nat → Ow) : Nat → Ow := fun n => match ow n with
 | .of p z k => if belB q p = true then .of (T.1, T.2 ++ p.2.drop q.2.length) z k else .of p z k
 | o => o
theorem mvO_fz {q T : Pt} {n : Nat} : mvO q T ow n = .fz ↔ ow n = .fz := by
 unfold mvO
 cases ho : ow n with
 | fz => simp
 | no => simp
 | of p z k => simp only; split <;> simp
theorem mvO_no {q T : Pt} {n : Nat} : mvO q T ow n = .no ↔ ow n = .no := by
 unfold mvO
 cases ho : ow n with
 | fz => simp
 | no => simp
 | of p z k => simp only; split <;> simp
theorem mvO_out {q T p : Pt} {n z k : Nat} (h1 : ow n = .of p z k) (h2 : ¬ Bel q p) : mvO q T ow n = .of p z k := by
 unfold mvO; rw [h1]; simp only; rw [if_neg (by rw [belB_iff]; exact h2)]
theorem mvO_in {q T : Pt} {w : List Nat} {n z k : Nat} (h1 : ow n = .of (q.1, q.2 ++ w) z k) : mvO q T ow n = .of (T.1, T.2 ++ w) z k := by
 unfold mvO; rw [h1]; simp only; rw [if_pos (by rw [belB_iff]; exact Bel.ext q w)]; simp
theorem mvO_of {q T p : Pt} {n z k : Nat} (h1 : mvO q T ow n = .of p z k) : (∃ w, p = (T.1, T.2 ++ w) ∧ ow n = .of (q.1, q.2 ++ w) z k) ∨ (ow n = .of p z k ∧ ¬ Bel q p) := by
 unfold mvO at h1
 cases ho : ow n with
 | fz => rw [ho] at h1; cases h1
 | no => rw [ho] at h1; cases h1
 | of p' z' k' =>
  rw [ho] at h1
  simp only at h1
  split at h1
  ·rename_i hb
   obtain ⟨b1, w, b2⟩ := belB_iff.1 hb
   injection h1 with e1 e2 e3
   subst e2; subst e3
   left
   refine ⟨w, ?_, ?_⟩
   ·rw [← e1, b2]; simp
   ·obtain ⟨p1, p2⟩ := p'; simp only at b1 b2; rw [b1, b2]
  ·rename_i hb
   injection h1 with e1 e2 e3
   subst e1; subst e2; subst e3
   exact .inr ⟨rfl, by rw [← belB_iff]; exact hb⟩
theorem own_blk {q : Pt} {z : Nat} {l : List DV} {hc : List Value} {top : Bool} (e : DR h ow B top q (.own z l) hc) : ∃ n css, hc = [.slice (some ⟨n, 0, none⟩) l.length (U z)] ∧ z ≠ 0 ∧ n < B ∧ ow n = .of q z l.length ∧ h.blk n = some ⟨css.flatten, true⟩ ∧ (∀ x ∈ css, x.length = z) ∧ DRs h ow B false q 0 l css := by
 unfold DR at e; exact e
theorem box_blk {q : Pt} {d : DV} {hc : List Value} {top : Bool} (e : DR h ow B top q (.box d) hc) : ∃ n c, hc = [.pointer (some ⟨n, 0, none⟩)] ∧ n < B ∧ ow n = .of q 0 0 ∧ h.blk n = some ⟨c, true⟩ ∧ DR h ow B false (q.1, q.2 ++ [0]) d c := by
 unfold DR at e; exact e
theorem ref_own (C : Core val h ow B st) {q p : Pt} {z k z' : Nat} {l : List DV} {cs hc : List Value} {top top' : Bool} (e : DR h ow B top p (.hdr q z k) cs) (e2 : DR h ow B top' q (.own z' l) hc) : cs = hc ∧ z = z' ∧ k = l.length := by
 obtain ⟨n, css, g1, _, _, g2, _⟩ := own_blk e2
 unfold DR at e
 obtain ⟨_, m, _, h2, h3⟩ := e
 obtain rfl := C.inj _ _ _ _ _ _ _ g2 h2
 rw [g2] at h2; injection h2 with _ h4 h5
 subst h4; subst h5
 exact ⟨by rw [h3, g1], rfl, rfl⟩
theorem Core.move (C : Core val h ow B st) {q T : Pt} {nd : DV} (hn : node st q = some nd) (hT1 : ∀ n p z k, ow n = .of p z k → ¬ Bel T p) (hs : nset (belB q) st q (.junk 1) = some st') :
  Core val h (mvO q T ow) B st' ∧ ∃ hc, DR h ow B false q nd hc ∧ DR h (mvO q T ow) B false T nd hc := by
 obtain ⟨hc, hd⟩ := node_dr C hn
 have hfz : FzSame h ow h (mvO q T ow) := fun n hh => ⟨mvO_fz.2 hh, rfl⟩
 have ho : Out h ow h (mvO q T ow) q := ⟨hfz, fun n p z k g1 g2 _ => ⟨mvO_out g1 g2, rfl⟩⟩
 refine ⟨C.setN hn rfl hs (fun hc' hh => ?_) ho ⟨hfz, fun n p z k g1 g2 => mvO_out g2 (belB_not.1 g1)⟩ ?_ ?_, hc, hd, ?_⟩
 ·have := hh.len
  unfold DR; rw [this]
  obtain ⟨_, _, _, _, h4⟩ := node_at hn
  cases nd <;> first | rfl | cases h4
 ·intro n m p z k z' k' h1 h2
  rcases mvO_of h1 with ⟨w, e1, e2⟩ | ⟨e1, e2⟩ <;> rcases mvO_of h2 with ⟨v, f1, f2⟩ | ⟨f1, f2⟩
  ·rw [e1] at f1
   injection f1 with _ f1
   have := List.append_cancel_left f1
   subst this
   exact C.inj _ _ _ _ _ _ _ e2 f2
  ·subst e1; exact absurd (Bel.ext T w) (hT1 _ _ _ _ f1)
  ·subst f1; exact absurd (Bel.ext T v) (hT1 _ _ _ _ e1)
  ·exact C.inj _ _ _ _ _ _ _ e1 f1
 ·intro n hh; exact mvO_no.2 (C.nn n hh)
 ·exact hd.mv ⟨hfz, fun n w z k g1 => ⟨mvO_in g1, rfl⟩⟩ (.inr ⟨fun x => x, fun n p z k g1 g2 => Bool.noConfusion g1⟩) (Nat.le_refl _)
def isBox : DV → Bool
 | .box _ => true
 | _ => false
mutual
def ab (a : Pt → Bool) : St → DV → Option (DV × St × (Pt → Bool))
 | st, .fv v => some (.fv v, st, a)
 | st, .junk k => some (.junk k, st, a)
 | st, .hdr q z k => if (a q || q.1 == LB) = true then none else (node st q).bind fun nd => if isBox nd = true then none else (nset (belB q) st q (.junk 1)).map fun st' => (nd, st', fun p => a p || belB q p)
 | st, .ptr q w o => if (a q || q.1 == LB) = true then none else (node st q).bind fun nd => if (isBox nd && (w == [0] && o == 0)) = true then
   (nset (belB q) st q (.junk 1)).map fun st' => (nd, st', fun p => a p || belB q p) else none
 | st, .agg l => (abL a st l).map fun r => (.agg r.1, r.2)
 | _, _ => none
def abL (a : Pt → Bool) : St → List DV → Option (List DV × St × (Pt → Bool))
 | st, [] => some ([], st, a)
 | st, d :: l => (ab a st d).bind fun r => (abL r.2.2 r.2.1 l).map fun s => (r.1 :: s.1, s.2)
end
structure Ab (h : Hp) (ow0 ow : Nat → Ow) (a : Pt → Bool) : Prop where
 fz : ∀ n, ow0 n = .fz ↔ ow n = .fz
 no : ∀ n, ow0 n = .no ↔ ow n = .no
 kept : ∀ n q z k, a q = false → ow0 n = .of q z k → ow n = .of q z k
theorem Ab.refl : Ab h ow ow (fun _ => false) := ⟨fun _ => Iff.rfl, fun _ => Iff.rfl, fun _ _ _ _ _ hh => hh⟩
theorem Ab.mvO {ow0 : Nat → Ow} {a : Pt → Bool} (A : Ab h ow0 ow a) {q T : Pt} : Ab h ow0 (mvO q T ow) (fun p => a p || belB q p) where
 fz := fun n => (A.fz n).trans mvO_fz.symm
 no := fun n => (A.no n).trans mvO_no.symm
 kept := fun n p z k h1 h2 => by
  rw [Bool.or_eq_false_iff] at h1
  exact mvO_out (A.kept n p z k h1.1 h2) (belB_not.1 h1.2)
theorem bel_sib {i j : Nat} {π v : List Nat} (h : i ≠ j) {p : Pt} (hp : Bel (LB, π ++ [i]) p) : ¬ Bel (LB, π ++ [j]) p := by
 obtain ⟨_, w, hw⟩ := hp
 rintro ⟨_, u, hu⟩
 rw [hw] at hu
 simp only [List.append_assoc, List.append_cancel_left_eq] at hu
 simp at hu; exact h hu.1
structure AbOut (val : Nat → Value) (h : Hp) (ow0 ow ow' : Nat → Ow) (B : Nat) (T : List Nat → Prop) (st st' : St) (a' : Pt → Bool) : Prop where
 keys : ∀ q d, get st' q = some d → ∃ d0, get st q = some d0
 core : Core val h ow' B st'
 ab : Ab h ow0 ow' a'
 new : ∀ n p z k, ow' n = .of p z k → (p.1 = LB ∧ T p.2) ∨ ow n = .of p z k
 old : ∀ n p z k, p.1 = LB → ow n = .of p z k → ow' n = .of p z k
theorem ptr_own (C : Core val h ow B st) {q p : Pt} {w : List Nat} {o : Nat} {d : DV} {cs hc : List Value} {top top' : Bool} (e : DR h ow B top p (.ptr q w o) cs) (e2 : DR h ow B top' q (.box d) hc) (ho : o = 0) : cs = hc := by
 obtain ⟨n, c, g1, _, g2, _⟩ := box_blk e2
 unfold DR at e
 obtain ⟨_, m, z, k, _, h2, h3⟩ := e
 obtain rfl := C.inj _ _ _ _ _ _ _ g2 h2
 rw [h3, g1, ho]
theorem DR.ab0 {ow0 : Nat → Ow} {a : Pt → Bool} (A : Ab h ow0 ow a) {q p : Pt} {z k : Nat} {cs : List Value} (ha : a q = false) (e : DR h ow0 B true p (.hdr q z k) cs) : DR h ow B true p (.hdr q z k) cs := by
 unfold DR at *
 obtain ⟨h1, n, h2, h3, h4⟩ := e
 exact ⟨h1, n, h2, A.kept n q z k ha h3, h4⟩
theorem DR.ab1 {ow0 : Nat → Ow} {a : Pt → Bool} (A : Ab h ow0 ow a) {q p : Pt} {w : List Nat} {o : Nat} {cs : List Value} (ha : a q = false) (e : DR h ow0 B true p (.ptr q w o) cs) : DR h ow B true p (.ptr q w o) cs := by
 unfold DR at *
 obtain ⟨h1, n, z, k, h2, h3, h4⟩ := e
 exact ⟨h1, n, z, k, h2, A.kept n q z k ha h3, h4⟩
mutual
theorem ab_ok {ow0 : Nat → Ow} : ∀ {d d' : DV} {a a' : Pt → Bool} {st st' : St} {ow : Nat → Ow} {π : List Nat} {p : Pt} {cs : List Value}, Core val h ow B st → Ab h ow0 ow a → (∀ n p z k, ow n = .of p z k → ¬ Bel (LB, π) p) → DR h ow0 B true p d cs → ab a st d = some (d', st', a') →
  ∃ ow', AbOut val h ow0 ow ow' B (fun w => ∃ v, w = π ++ v) st st' a' ∧ DR h ow' B false (LB, π) d' cs
 | .fv v, d', a, a', st, st', ow, π, p, cs, C, A, hf, e, hab => by
  unfold ab at hab; injection hab with hab; injection hab with h1 h2; injection h2 with h2 h3; subst h1; subst h2; subst h3
  refine ⟨ow, ⟨fun _ d hh => ⟨d, hh⟩, C, A, fun _ _ _ _ hh => .inr hh, fun _ _ _ _ _ hh => hh⟩, ?_⟩
  unfold DR at *
  exact e.mono (fun n hh => ⟨(A.fz n).1 hh, rfl⟩) (Nat.le_refl _)
 | .junk k, d', a, a', st, st', ow, π, p, cs, C, A, hf, e, hab => by
  unfold ab at hab; injection hab with hab; injection hab with h1 h2; injection h2 with h2 h3; subst h1; subst h2; subst h3
  refine ⟨ow, ⟨fun _ d hh => ⟨d, hh⟩, C, A, fun _ _ _ _ hh => .inr hh, fun _ _ _ _ _ hh => hh⟩, ?_⟩
  unfold DR at *; exact e
 | .hdr q z k, d', a, a', st, st', ow, π, p, cs, C, A, hf, e, hab => by
  unfold ab at hab
  split at hab
  ·cases hab
  ·rename_i hqa
   simp only [Bool.or_eq_true, beq_iff_eq, not_or, Bool.not_eq_true] at hqa
   obtain ⟨nd, hn, h2⟩ := Option.bind_eq_some_iff.1 hab
   split at h2
   ·cases h2
   ·rename_i hb
    obtain ⟨st1, h3, h4⟩ := Option.map_eq_some_iff.1 h2
    injection h4 with h4 h5; injection h5 with h5 h6; subst h4; subst h5; subst h6
    obtain ⟨_, _, _, _, hnode⟩ := node_at hn
    obtain ⟨C', hc, k1, k2⟩ := C.move hn hf h3
    refine ⟨_, ⟨fun q d hh => nset_get h3 hh, C', A.mvO, ?_, ?_⟩, ?_⟩
    ·intro n p z k hh
     rcases mvO_of hh with ⟨w, e1, e2⟩ | ⟨e1, e2⟩
     ·left; rw [e1]; exact ⟨rfl, w, rfl⟩
     ·exact .inr e1
    ·intro n p z k h1 hh
     refine mvO_out hh ?_
     rintro ⟨hh2, _⟩; exact hqa.2 (hh2.trans h1)
    ·cases nd with
     | own z' l =>
      obtain ⟨rfl, rfl, rfl⟩ := ref_own C (e.ab0 A hqa.1) k1
      exact k2
     | box _ => exact absurd rfl hb
     | _ => cases hnode
 | .ptr q w o, d', a, a', st, st', ow, π, p, cs, C, A, hf, e, hab => by
  unfold ab at hab
  split at hab
  ·cases hab
  ·rename_i hqa
   simp only [Bool.or_eq_true, beq_iff_eq, not_or, Bool.not_eq_true] at hqa
   obtain ⟨nd, hn, h2⟩ := Option.bind_eq_some_iff.1 hab
   split at h2
   ·rename_i hc0
    simp only [Bool.and_eq_true, beq_iff_eq] at hc0
    obtain ⟨hb, hw, ho⟩ := hc0
    obtain ⟨hc, hdr⟩ := node_dr C hn
    cases nd with
    | box dd =>
     have hcs := ptr_own C (e.ab1 A hqa.1) hdr ho
     obtain ⟨st1, h3, h4⟩ := Option.map_eq_some_iff.1 h2
     injection h4 with h4 h5; injection h5 with h5 h6; subst h4; subst h5; subst h6
     obtain ⟨C', hc', k1, k2⟩ := C.move hn hf h3
     refine ⟨_, ⟨fun q d hh => nset_get h3 hh, C', A.mvO, ?_, ?_⟩, ?_⟩
     ·intro n p z k hh
      rcases mvO_of hh with ⟨w, e1, e2⟩ | ⟨e1, e2⟩
      ·left; rw [e1]; exact ⟨rfl, w, rfl⟩
      ·exact .inr e1
     ·intro n p z k h1 hh
      refine mvO_out hh ?_
      rintro ⟨hh2, _⟩; exact hqa.2 (hh2.trans h1)
     ·have := ptr_own C (e.ab1 A hqa.1) k1 ho
      rw [this]; exact k2
    | _ => cases hb
   ·cases h2
 | .agg l, d', a, a', st, st', ow, π, p, cs, C, A, hf, e, hab => by
  unfold ab at hab
  obtain ⟨r, h1, h2⟩ := Option.map_eq_some_iff.1 hab
  obtain ⟨l', st1, a1⟩ := r
  injection h2 with h2 h3; injection h3 with h3 h4; subst h2; subst h3; subst h4
  unfold DR at e
  obtain ⟨css, rfl, e2⟩ := e
  obtain ⟨ow', k1, k2⟩ := abL_ok C A (i := 0) (π := π) (fun n p z k hn j hj hh => hf n p z k hn ((Bel.ext (LB, π) [j]).trans hh)) e2 h1
  refine ⟨ow', ⟨k1.keys, k1.core, k1.ab, fun n p z k hh => (k1.new n p z k hh).imp (fun x => ⟨x.1, ?_⟩) id, k1.old⟩, ?_⟩
  ·obtain ⟨j, v, _, hv⟩ := x.2; exact ⟨[j] ++ v, by rw [hv, List.append_assoc]⟩
  ·unfold DR; exact ⟨css, rfl, k2⟩
 | .own _ _, d', a, a', st, st', ow, π, p, cs, C, A, hf, e, hab => by unfold ab at hab; cases hab
 | .box _, d', a, a', st, st', ow, π, p, cs, C, A, hf, e, hab => by unfold ab at hab; cases hab
 | .tup _, d', a, a', st, st', ow, π, p, cs, C, A, hf, e, hab => by unfold ab at hab; cases hab
theorem abL_ok {ow0 : Nat → Ow} : ∀ {l l' : List DV} {a a' : Pt → Bool} {st st' : St} {ow : Nat → Ow} {i : Nat} {π : List Nat} {p : Pt} {css : List (List Value)}, Core val h ow B st → Ab h ow0 ow a → (∀ n p z k, ow n = .of p z k → ∀ j, i ≤ j → ¬ Bel (LB, π ++ [j]) p) → DRs h ow0 B true p i l css → abL a st l = some (l', st', a') →
  ∃ ow', AbOut val h ow0 ow ow' B (fun w => ∃ j v, i ≤ j ∧ w = (π ++ [j]) ++ v) st st' a' ∧ DRs h ow' B false (LB, π) i l' css
 | [], l', a, a', st, st', ow, i, π, p, css, C, A, hf, e, hab => by
  unfold abL at hab; injection hab with hab; injection hab with h1 h2; injection h2 with h2 h3; subst h1; subst h2; subst h3
  refine ⟨ow, ⟨fun _ d hh => ⟨d, hh⟩, C, A, fun _ _ _ _ hh => .inr hh, fun _ _ _ _ _ hh => hh⟩, ?_⟩
  unfold DRs at *; exact e
 | d :: l, l', a, a', st, st', ow, i, π, p, css, C, A, hf, e, hab => by
  unfold abL at hab
  obtain ⟨r, h1, h2⟩ := Option.bind_eq_some_iff.1 hab
  obtain ⟨s, h3, h4⟩ := Option.map_eq_some_iff.1 h2
  obtain ⟨d1, st1, a1⟩ := r
  obtain ⟨l2, st2, a2⟩ := s
  injection h4 with h4 h5; injection h5 with h5 h6; subst h4; subst h5; subst h6
  unfold DRs at e
  obtain ⟨c, r, rfl, e1, e2⟩ := e
  obtain ⟨ow1, k1, k2⟩ := ab_ok C A (fun n p z k hn => hf n p z k hn i (Nat.le_refl _)) e1 h1
  obtain ⟨ow2, q1, q2⟩ := abL_ok k1.core k1.ab (i := i + 1) (π := π) (fun n p z k hn j hj => by
   rcases k1.new n p z k hn with ⟨x1, v, x2⟩ | x
   ·refine bel_sib (i := i) (j := j) (v := []) (by omega) ?_
    obtain ⟨p1, p2⟩ := p
    simp only at x1 x2; subst x1; subst x2
    exact ⟨rfl, v, rfl⟩
   ·exact hf n p z k x j (by omega)) e2 h3
  refine ⟨ow2, ⟨fun q d hh => (q1.keys q d hh).elim fun d0 h0 => k1.keys q d0 h0, q1.core, q1.ab, ?_, fun n p z k g1 g2 => q1.old n p z k g1 (k1.old n p z k g1 g2)⟩, ?_⟩
  ·intro n p z k hn
   rcases q1.new n p z k hn with ⟨x1, j, v, x2, x3⟩ | x
   ·exact .inl ⟨x1, j, v, by omega, x3⟩
   ·rcases k1.new n p z k x with ⟨x1, v, x2⟩ | x
    ·exact .inl ⟨x1, i, v, Nat.le_refl _, x2⟩
    ·exact .inr x
  ·unfold DRs
   refine ⟨c, r, rfl, ?_, q2⟩
   refine k2.mv ⟨fun n hh => ⟨(q1.ab.fz n).1 ((k1.ab.fz n).2 hh), rfl⟩, fun n w z k hn => ⟨q1.old n _ z k rfl hn, rfl⟩⟩ (.inr ⟨fun x => x, fun n p z k g1 g2 => Bool.noConfusion g1⟩) (Nat.le_refl _)
end
end
end Go.Proofs.YtonpnjfclelpiaaGreatM
