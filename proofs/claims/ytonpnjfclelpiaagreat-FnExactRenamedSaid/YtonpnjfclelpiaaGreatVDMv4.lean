import Derived.Test.YtonpnjfclelpiaaGreatVDMv3
namespace Go.Proofs.YtonpnjfclelpiaaGreatM
open Go
set_option linter.unusedVariables false
set_option linter.unusedSimpArgs false
mutual
def kl (a : Pt → Bool) : DV → DV
 | .hdr q z k => if a q = true then .junk 1 else .hdr q z k
 | .ptr q w o => if a q = true then .junk 1 else .ptr q w o
 | .agg l => .agg (kls a l)
 | .tup l => .tup (kls a l)
 | d => d
def kls (a : Pt → Bool) : List DV → List DV
 | [] => []
 | d :: l => kl a d :: kls a l
end
theorem kl_agg (a : Pt → Bool) (d : DV) : isAgg (kl a d) = isAgg d := by
 cases d with
 | hdr q z k => unfold kl; split <;> rfl
 | ptr q z k => unfold kl; split <;> rfl
 | _ => unfold kl; rfl
mutual
theorem kl_noRef (a : Pt → Bool) : ∀ {d : DV}, noRef d = true → kl a d = d
 | .hdr _ _ _, h => by unfold noRef at h; cases h
 | .ptr _ _ _, h => by unfold noRef at h; cases h
 | .agg l, h => by unfold noRef at h; unfold kl; rw [kls_noRef a h]
 | .tup l, h => by unfold noRef at h; unfold kl; rw [kls_noRef a h]
 | .fv _, h => by unfold kl; rfl
 | .own _ _, h => by unfold kl; rfl
 | .box _, h => by unfold kl; rfl
 | .junk _, h => by unfold kl; rfl
theorem kls_noRef (a : Pt → Bool) : ∀ {l : List DV}, noRefs l = true → kls a l = l
 | [], h => by unfold kls; rfl
 | d :: l, h => by
  unfold noRefs at h; rw [Bool.and_eq_true] at h
  unfold kls; rw [kl_noRef a h.1, kls_noRef a h.2]
end
section
variable {h h' : Hp} {ow ow' : Nat → Ow} {B B' : Nat}
structure Tr (a : Pt → Bool) (h : Hp) (ow : Nat → Ow) (h' : Hp) (ow' : Nat → Ow) : Prop where
 fz : FzSame h ow h' ow'
 kept : ∀ n q z k, a q = false → ow n = .of q z k → ow' n = .of q z k
mutual
theorem DR.kl {a : Pt → Bool} (t : Tr a h ow h' ow') (hB : B ≤ B') : ∀ {d : DV} {p p' : Pt} {cs : List Value}, Mv h ow h' ow' p p' → DR h ow B true p d cs → DR h' ow' B' true p' (kl a d) cs
 | .hdr q z k, p, p', cs, m, e => by
  unfold Go.Proofs.YtonpnjfclelpiaaGreatM.kl
  split
  ·have := e.len; unfold DR; exact this
  ·rename_i hq
   unfold DR at *
   obtain ⟨h1, n, h2, h3, h4⟩ := e
   exact ⟨h1, n, Nat.lt_of_lt_of_le h2 hB, t.kept n q z k (by simpa using hq) h3, h4⟩
 | .ptr q w o, p, p', cs, m, e => by
  unfold Go.Proofs.YtonpnjfclelpiaaGreatM.kl
  split
  ·have := e.len; unfold DR; exact this
  ·rename_i hq
   unfold DR at *
   obtain ⟨h1, n, z, k, h2, h3, h4⟩ := e
   exact ⟨h1, n, z, k, Nat.lt_of_lt_of_le h2 hB, t.kept n q z k (by simpa using hq) h3, h4⟩
 | .agg l, p, p', cs, m, e => by
  unfold Go.Proofs.YtonpnjfclelpiaaGreatM.kl
  unfold DR at *
  obtain ⟨css, h1, h2⟩ := e
  exact ⟨css, h1, DRs.kl t hB m h2⟩
 | .tup l, p, p', cs, m, e => by unfold DR at e; exact e.elim
 | .fv v, p, p', cs, m, e => by unfold Go.Proofs.YtonpnjfclelpiaaGreatM.kl; unfold DR at *; exact e.mono t.fz hB
 | .own z l, p, p', cs, m, e => by
  unfold Go.Proofs.YtonpnjfclelpiaaGreatM.kl
  exact (e.topI (top' := false) rfl).mv m (.inr ⟨(fun x => by cases x), fun n q z k hq hn => Bool.noConfusion hq⟩) hB
 | .box d, p, p', cs, m, e => by
  unfold Go.Proofs.YtonpnjfclelpiaaGreatM.kl
  exact (e.topI (top' := false) rfl).mv m (.inr ⟨(fun x => by cases x), fun n q z k hq hn => Bool.noConfusion hq⟩) hB
 | .junk k, p, p', cs, m, e => by unfold Go.Proofs.YtonpnjfclelpiaaGreatM.kl; unfold DR at *; exact e
theorem DRs.kl {a : Pt → Bool} (t : Tr a h ow h' ow') (hB : B ≤ B') : ∀ {l : List DV} {p p' : Pt} {i : Nat} {css : List (List Value)}, Mv h ow h' ow' p p' → DRs h ow B true p i l css → DRs h' ow' B' true p' i (kls a l) css
 | [], p, p', i, css, m, e => by unfold kls; unfold DRs at *; exact e
 | d :: l, p, p', i, css, m, e => by
  unfold kls; unfold DRs at *
  obtain ⟨c, r, h1, h2, h3⟩ := e
  exact ⟨c, r, h1, DR.kl t hB (m.down [i]) h2, DRs.kl t hB m h3⟩
end
def VRc (h : Hp) (ow : Nat → Ow) (B : Nat) (p : Pt) (d : DV) (v : Value) : Prop := (∃ k, d = .junk k) ∨ ∃ cs, DR h ow B true p d cs ∧ v = mkv (isAgg d) cs
def VRs (h : Hp) (ow : Nat → Ow) (B : Nat) (p : Pt) : Nat → List DV → List Value → Prop
 | _, [], vs => vs = []
 | i, d :: l, vs => ∃ v r, vs = v :: r ∧ VRc h ow B (p.1, p.2 ++ [i]) d v ∧ VRs h ow B p (i + 1) l r
def VR2 (h : Hp) (ow : Nat → Ow) (B : Nat) (p : Pt) (d : DV) (v : Value) : Prop := (∃ l vs, d = .tup l ∧ v = .tuple vs ∧ VRs h ow B p 0 l vs.toList) ∨ VRc h ow B p d v
theorem VRc.kl {a : Pt → Bool} (t : Tr a h ow h' ow') (hB : B ≤ B') {d : DV} {p p' : Pt} {v : Value} (m : Mv h ow h' ow' p p') (e : VRc h ow B p d v) : VRc h' ow' B' p' (kl a d) v := by
 rcases e with ⟨k, rfl⟩ | ⟨cs, h1, h2⟩
 ·left; unfold Go.Proofs.YtonpnjfclelpiaaGreatM.kl; exact ⟨k, rfl⟩
 ·right; exact ⟨cs, DR.kl t hB m h1, by rw [kl_agg]; exact h2⟩
theorem VRs.kl {a : Pt → Bool} (t : Tr a h ow h' ow') (hB : B ≤ B') : ∀ {l : List DV} {i : Nat} {p p' : Pt} {vs : List Value}, Mv h ow h' ow' p p' → VRs h ow B p i l vs → VRs h' ow' B' p' i (kls a l) vs
 | [], i, p, p', vs, m, e => by unfold kls; unfold VRs at *; exact e
 | d :: l, i, p, p', vs, m, e => by
  unfold kls; unfold VRs at *
  obtain ⟨c, r, h1, h2, h3⟩ := e
  exact ⟨c, r, h1, VRc.kl t hB (m.down [i]) h2, VRs.kl t hB m h3⟩
theorem VR2.kl {a : Pt → Bool} (t : Tr a h ow h' ow') (hB : B ≤ B') {d : DV} {p p' : Pt} {v : Value} (m : Mv h ow h' ow' p p') (e : VR2 h ow B p d v) : VR2 h' ow' B' p' (kl a d) v := by
 rcases e with ⟨l, vs, rfl, h1, h2⟩ | e
 ·left; unfold Go.Proofs.YtonpnjfclelpiaaGreatM.kl; exact ⟨_, vs, rfl, h1, VRs.kl t hB m h2⟩
 ·exact .inr (e.kl t hB m)
end
abbrev St := List (Nat × DV)
def get : St → Nat → Option DV
 | [], _ => none
 | (k, d) :: st, r => if r = k then some d else get st r
def klS (a : Pt → Bool) : St → St
 | [] => []
 | (k, d) :: st => (k, kl a d) :: klS a st
def rm (r : Nat) : St → St
 | [] => []
 | (k, d) :: st => if k = r then rm r st else (k, d) :: rm r st
def setR (r : Nat) (x : DV) : St → St
 | [] => []
 | (k, d) :: st => if k = r then (k, x) :: st else (k, d) :: setR r x st
theorem get_klS (a : Pt → Bool) : ∀ (st : St) (r : Nat), get (klS a st) r = (get st r).map (kl a)
 | [], _ => rfl
 | (k, d) :: st, r => by unfold klS get; split <;> simp [get_klS a st]
theorem get_rm (r : Nat) : ∀ (st : St) (q : Nat), get (rm r st) q = if q = r then none else get st q
 | [], q => by unfold rm get; simp
 | (k, d) :: st, q => by
  unfold rm
  split
  ·rename_i hk; subst hk
   rw [get_rm]
   by_cases hq : q = k
   ·simp [hq]
   ·rw [if_neg hq, if_neg hq]; conv => rhs; unfold get
    rw [if_neg hq]
  ·rename_i hk
   unfold get
   by_cases hq : q = k
   ·subst hq; rw [if_pos rfl, if_pos rfl, if_neg hk]
   ·rw [if_neg hq, if_neg hq, get_rm]
theorem get_setR {r : Nat} {x d0 : DV} : ∀ {st : St}, get st r = some d0 → ∀ q, get (setR r x st) q = if q = r then some x else get st q
 | [], h, q => by unfold get at h; cases h
 | (k, d) :: st, h, q => by
  unfold setR
  split
  ·rename_i hk; subst hk
   unfold get
   by_cases hq : q = k
   ·simp [hq]
   ·rw [if_neg hq, if_neg hq, if_neg hq]
  ·rename_i hk
   unfold get at h
   rw [if_neg (Ne.symm hk)] at h
   unfold get
   by_cases hq : q = k
   ·subst hq; rw [if_pos rfl, if_pos rfl, if_neg hk]
   ·rw [if_neg hq, if_neg hq, get_setR h]
def belB (p q : Pt) : Bool := p.1 == q.1 && p.2.isPrefixOf q.2
theorem belB_iff {p q : Pt} : belB p q = true ↔ Bel p q := by
 unfold belB Bel
 rw [Bool.and_eq_true, beq_iff_eq, List.isPrefixOf_iff_prefix]
 constructor
 ·rintro ⟨h1, w, h2⟩; exact ⟨h1, w, h2.symm⟩
 ·rintro ⟨h1, w, h2⟩; exact ⟨h1, w, h2.symm⟩
theorem belB_not {p q : Pt} : belB p q = false ↔ ¬ Bel p q := by rw [← belB_iff]; simp
structure Core (val : Nat → Value) (h : Hp) (ow : Nat → Ow) (B : Nat) (st : St) : Prop where
 regs : ∀ r d, get st r = some d → VR2 h ow B (r, []) d (val r)
 inj : ∀ n m p z k z' k', ow n = .of p z k → ow m = .of p z' k' → n = m
 nn : ∀ n, h.blk n = none → ow n = .no
 lim : ∀ r d, get st r = some d → r ≠ LB
def dropO (a : Pt → Bool) (ow : Nat → Ow) : Nat → Ow := fun n => match ow n with
 | .of p z k => if a p = true then .no else .of p z k
 | o => o
theorem dropO_at {a : Pt → Bool} {ow : Nat → Ow} {n : Nat} {p : Pt} {z k : Nat} : dropO a ow n = .of p z k ↔ ow n = .of p z k ∧ a p = false := by
 unfold dropO
 cases ho : ow n with
 | fz => simp
 | no => simp
 | of q z' k' =>
  simp only
  split
  ·rename_i ha
   simp only [reduceCtorEq, Ow.of.injEq, false_iff, not_and]
   rintro ⟨rfl, rfl, rfl⟩ h2; rw [ha] at h2; cases h2
  ·rename_i ha
   constructor
   ·intro hh; exact ⟨hh, by injection hh with h1; subst h1; simpa using ha⟩
   ·intro hh; exact hh.1
theorem dropO_fz {a : Pt → Bool} {ow : Nat → Ow} {n : Nat} : dropO a ow n = .fz ↔ ow n = .fz := by
 unfold dropO
 cases ho : ow n with
 | fz => simp
 | no => simp
 | of q z' k' => simp only; split <;> simp
section
variable {val val' : Nat → Value} {h h' : Hp} {ow ow' : Nat → Ow} {B B' : Nat} {st st' : St}
theorem Core.mono (C : Core val h ow B st) (hB : B ≤ B') : Core val h ow B' st := ⟨fun r d hd => by
 have := (C.regs r d hd).kl (a := fun _ => false) (B' := B') (h' := h) (ow' := ow) ⟨fun _ hh => ⟨hh, rfl⟩, fun _ _ _ _ _ hh => hh⟩ hB (p' := (r, [])) ⟨fun _ hh => ⟨hh, rfl⟩, fun _ _ _ _ hh => ⟨hh, rfl⟩⟩
 have e : kl (fun _ => false) d = d := by
  have : (∀ d : DV, kl (fun _ => false) d = d) ∧ ∀ l : List DV, kls (fun _ => false) l = l := by
   refine ⟨fun d => ?_, fun l => ?_⟩
   ·exact DV.rec (motive_1 := fun d => kl (fun _ => false) d = d) (motive_2 := fun l => kls (fun _ => false) l = l) (fun _ => by unfold kl; rfl) (fun _ _ _ => by unfold kl; rfl) (fun l ih => by unfold kl; rw [ih]) (fun _ _ => by unfold kl; rfl) (fun _ _ _ => by unfold kl; simp) (fun _ _ _ => by unfold kl; simp) (fun l ih => by unfold kl; rw [ih]) (fun _ => by unfold kl; rfl) (by unfold kls; rfl) (fun a l h1 h2 => by unfold kls; rw [h1, h2]) d
   ·exact DV.rec_1 (motive_1 := fun d => kl (fun _ => false) d = d) (motive_2 := fun l => kls (fun _ => false) l = l) (fun _ => by unfold kl; rfl) (fun _ _ _ => by unfold kl; rfl) (fun l ih => by unfold kl; rw [ih]) (fun _ _ => by unfold kl; rfl) (fun _ _ _ => by unfold kl; simp) (fun _ _ _ => by unfold kl; simp) (fun l ih => by unfold kl; rw [ih]) (fun _ => by unfold kl; rfl) (by unfold kls; rfl) (fun a l h1 h2 => by unfold kls; rw [h1, h2]) l
  exact this.1 d
 rw [e] at this; exact this, C.inj, C.nn, C.lim⟩
theorem Core.sub (C : Core val h ow B st) (hs : ∀ r d, get st' r = some d → get st r = some d) : Core val h ow B st' := ⟨fun r d hd => C.regs r d (hs r d hd), C.inj, C.nn, fun r d hd => C.lim r d (hs r d hd)⟩
def atR (r : Nat) : Pt → Bool := fun p => p.1 == r || p.1 == LB
def clr (r : Nat) (st : St) : St := klS (atR r) (rm r st)
theorem atR_f {r : Nat} {p : Pt} (h1 : p.1 ≠ r) (h2 : p.1 ≠ LB) : atR r p = false := by unfold atR; simp [h1, h2]
theorem atR_n {r : Nat} {p : Pt} (h : atR r p = false) : p.1 ≠ r ∧ p.1 ≠ LB := by unfold atR at h; simpa using h
theorem clr_get {r q : Nat} {d : DV} (hd : get (clr r st) q = some d) : q ≠ r ∧ ∃ d0, get st q = some d0 ∧ d = kl (atR r) d0 := by
 unfold clr at hd
 rw [get_klS, get_rm] at hd
 by_cases hq : q = r
 ·rw [if_pos hq] at hd; cases hd
 ·rw [if_neg hq] at hd
  obtain ⟨d0, h1, rfl⟩ := Option.map_eq_some_iff.1 hd
  exact ⟨hq, d0, h1, rfl⟩
theorem Core.clr (C : Core val h ow B st) {r : Nat} (hv : ∀ q, q ≠ r → val' q = val q) : Core val' h (dropO (atR r) ow) B (clr r st) := by
 refine ⟨fun q d hd => ?_, fun n m p z k z' k' h1 h2 => C.inj n m p z k z' k' (dropO_at.1 h1).1 (dropO_at.1 h2).1, fun n hn => ?_, fun q d hd => ?_⟩
 ·obtain ⟨hq, d0, h1, rfl⟩ := clr_get hd
  rw [hv q hq]
  have fz : FzSame h ow h (dropO (atR r) ow) := fun n hn => ⟨dropO_fz.2 hn, rfl⟩
  exact (C.regs q d0 h1).kl ⟨fz, fun n p z k ha hn => dropO_at.2 ⟨hn, ha⟩⟩ (Nat.le_refl _) ⟨fz, fun n w z k hn => ⟨dropO_at.2 ⟨hn, atR_f hq (C.lim q d0 h1)⟩, rfl⟩⟩
 ·have := C.nn n hn
  unfold dropO; rw [this]
 ·obtain ⟨_, d0, h1, _⟩ := clr_get hd
  exact C.lim q d0 h1
theorem Core.add (C : Core val h ow B st) {r : Nat} (hr : r ≠ LB) {d : DV} (hd : VR2 h ow B (r, []) d (val r)) : Core val h ow B ((r, d) :: st) := by
 refine ⟨fun q x hx => ?_, C.inj, C.nn, fun q x hx => ?_⟩
 ·unfold get at hx
  split at hx
  ·rename_i hq; subst hq; injection hx with hx; subst hx; exact hd
  ·exact C.regs q x hx
 ·unfold get at hx
  split at hx
  ·rename_i hq; subst hq; exact hr
  ·exact C.lim q x hx
def put (r : Nat) (d : DV) (st : St) : St := (r, kl (atR r) d) :: clr r st
mutual
def noOwn : DV → Bool
 | .own _ _ => false
 | .box _ => false
 | .agg l => noOwns l
 | .tup l => noOwns l
 | _ => true
def noOwns : List DV → Bool
 | [] => true
 | d :: l => noOwn d && noOwns l
end
mutual
theorem DR.free {a : Pt → Bool} (t : Tr a h ow h' ow') (hB : B ≤ B') : ∀ {d : DV} {p p' : Pt} {cs : List Value}, noOwn d = true → DR h ow B true p d cs → DR h' ow' B' true p' (kl a d) cs
 | .hdr q z k, p, p', cs, m, e => by
  unfold Go.Proofs.YtonpnjfclelpiaaGreatM.kl
  split
  ·have := e.len; unfold DR; exact this
  ·rename_i hq
   unfold DR at *
   obtain ⟨h1, n, h2, h3, h4⟩ := e
   exact ⟨h1, n, Nat.lt_of_lt_of_le h2 hB, t.kept n q z k (by simpa using hq) h3, h4⟩
 | .ptr q w o, p, p', cs, m, e => by
  unfold Go.Proofs.YtonpnjfclelpiaaGreatM.kl
  split
  ·have := e.len; unfold DR; exact this
  ·rename_i hq
   unfold DR at *
   obtain ⟨h1, n, z, k, h2, h3, h4⟩ := e
   exact ⟨h1, n, z, k, Nat.lt_of_lt_of_le h2 hB, t.kept n q z k (by simpa using hq) h3, h4⟩
 | .agg l, p, p', cs, m, e => by
  unfold Go.Proofs.YtonpnjfclelpiaaGreatM.kl
  unfold noOwn at m
  unfold DR at *
  obtain ⟨css, h1, h2⟩ := e
  exact ⟨css, h1, DRs.free t hB m h2⟩
 | .tup l, p, p', cs, m, e => by unfold DR at e; exact e.elim
 | .fv v, p, p', cs, m, e => by unfold Go.Proofs.YtonpnjfclelpiaaGreatM.kl; unfold DR at *; exact e.mono t.fz hB
 | .own z l, p, p', cs, m, e => by unfold noOwn at m; cases m
 | .box d, p, p', cs, m, e => by unfold noOwn at m; cases m
 | .junk k, p, p', cs, m, e => by unfold Go.Proofs.YtonpnjfclelpiaaGreatM.kl; unfold DR at *; exact e
theorem DRs.free {a : Pt → Bool} (t : Tr a h ow h' ow') (hB : B ≤ B') : ∀ {l : List DV} {p p' : Pt} {i : Nat} {css : List (List Value)}, noOwns l = true → DRs h ow B true p i l css → DRs h' ow' B' true p' i (kls a l) css
 | [], p, p', i, css, m, e => by unfold kls; unfold DRs at *; exact e
 | d :: l, p, p', i, css, m, e => by
  unfold noOwns at m; rw [Bool.and_eq_true] at m
  unfold kls; unfold DRs at *
  obtain ⟨c, r, h1, h2, h3⟩ := e
  exact ⟨c, r, h1, DR.free t hB m.1 h2, DRs.free t hB m.2 h3⟩
end
theorem VRc.put {r : Nat} {d : DV} {p : Pt} {v : Value} (hn : noOwn d = true) (hd : VRc h ow B p d v) : VR2 h (dropO (atR r) ow) B (r, []) (Go.Proofs.YtonpnjfclelpiaaGreatM.kl (atR r) d) v := by
 right
 rcases hd with ⟨k, rfl⟩ | ⟨cs, h1, h2⟩
 ·left; exact ⟨k, by unfold Go.Proofs.YtonpnjfclelpiaaGreatM.kl; rfl⟩
 ·right
  exact ⟨cs, DR.free ⟨fun n hn => ⟨dropO_fz.2 hn, rfl⟩, fun n p z k ha hn => dropO_at.2 ⟨hn, ha⟩⟩ (Nat.le_refl _) hn h1, by rw [kl_agg]; exact h2⟩
theorem Core.put (C : Core val h ow B st) {r : Nat} (hr : r ≠ LB) (hv : ∀ q, q ≠ r → val' q = val q) {d : DV} {p : Pt} (hn : noOwn d = true) (hd : VRc h ow B p d (val' r)) : Core val' h (dropO (atR r) ow) B (put r d st) :=
 (C.clr hv).add hr (hd.put hn)
end
end Go.Proofs.YtonpnjfclelpiaaGreatM
