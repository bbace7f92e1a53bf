import Derived.Test.YtonpnjfclelpiaaGreatVDMvc
namespace Go.Proofs.YtonpnjfclelpiaaGreatM
open Go
set_option linter.unusedVariables false
set_option linter.unusedSimpArgs false
section
variable {val val' : Nat → Value} {h h' : Hp} {ow ow' : Nat → Ow} {B B' : Nat} {st st' : St}
def garb (k : Nat) (p : Pt) : Bool := p.1 == LB && match p.2 with | j :: _ => decide (k ≤ j) | [] => true
theorem garb_f {k : Nat} {p : Pt} (h : p.1 ≠ LB) : garb k p = false := by unfold garb; simp [h]
theorem garb_n {k : Nat} {p : Pt} (h : garb k p = false) (hp : p.1 = LB) : ∃ j w, p.2 = j :: w ∧ j < k := by
 unfold garb at h
 rw [hp] at h
 cases hq : p.2 with
 | nil => rw [hq] at h; simp at h
 | cons j w => rw [hq] at h; simp at h; exact ⟨j, w, rfl, h⟩
theorem garb_i {k j : Nat} {w : List Nat} (h : j < k) : garb k (LB, j :: w) = false := by unfold garb; simp; exact h
theorem klS_idem : ∀ st : St, klS atL (klS atL st) = klS atL st := by
 have e1 : (∀ d : DV, kl atL (kl atL d) = kl atL d) := fun d => by
  refine DV.rec (motive_1 := fun d => kl atL (kl atL d) = kl atL d) (motive_2 := fun l => kls atL (kls atL l) = kls atL l) (fun _ => by unfold kl; rfl) (fun _ _ _ => by unfold kl; rfl) (fun l ih => ?_) (fun _ _ => by unfold kl; rfl) (fun q _ _ => ?_) (fun q _ _ => ?_) (fun l ih => ?_) (fun _ => by unfold kl; rfl) (by unfold kls; rfl) (fun a l h1 h2 => ?_) d
  ·show kl atL (.agg (kls atL l)) = .agg (kls atL l); unfold kl; rw [ih]
  ·cases hq : atL q <;> (unfold kl; simp [hq, kl])
  ·cases hq : atL q <;> (unfold kl; simp [hq, kl])
  ·show kl atL (.tup (kls atL l)) = .tup (kls atL l); unfold kl; rw [ih]
  ·show kls atL (kl atL a :: kls atL l) = kl atL a :: kls atL l; rw [kls, h1, h2]
 intro st
 induction st with
 | nil => rfl
 | cons a st ih => obtain ⟨k, d⟩ := a; show (k, kl atL (kl atL d)) :: klS atL (klS atL st) = (k, kl atL d) :: klS atL st; rw [e1, ih]
theorem Core.open2 (C : Core val h ow B st) {z : Nat} {l : List DV} {hc : List Value} (hd : DR h ow B false (LB, []) (.own z l) hc) :
  ∃ n css, hc = [.slice (some ⟨n, 0, none⟩) l.length (U z)] ∧ z ≠ 0 ∧ n < B ∧ ow n = .of (LB, []) z l.length ∧ h.blk n = some ⟨css.flatten, true⟩ ∧ (∀ x ∈ css, x.length = z) ∧ Core val (h.put n none) (dropO (garb l.length) (noO n ow)) B (klS atL st) ∧ DRs (h.put n none) (dropO (garb l.length) (noO n ow)) B false (LB, []) 0 l css := by
 obtain ⟨n, css, g1, g0, g2, g3, g4, g5, C1, g6⟩ := C.open_ hd
 have hfz : FzSame (h.put n none) (noO n ow) (h.put n none) (dropO (garb l.length) (noO n ow)) := fun m hm => ⟨dropO_fz.2 hm, rfl⟩
 refine ⟨n, css, g1, g0, g2, g3, g4, g5, ?_, ?_⟩
 ·have := C1.tr (val' := val) (a := atL) (ow' := dropO (garb l.length) (noO n ow)) ⟨hfz, fun m p z k h1 h2 => dropO_at.2 ⟨h2, garb_f (atL_f.1 h1)⟩⟩ (fun r hr => ⟨hfz, fun m w z k hm => ⟨dropO_at.2 ⟨hm, garb_f hr⟩, rfl⟩⟩) (fun a b p z k z' k' h1 h2 => C1.inj _ _ _ _ _ _ _ (dropO_at.1 h1).1 (dropO_at.1 h2).1) (fun m hm => dropO_no (C1.nn m hm)) (Nat.le_refl _) (fun _ _ _ => rfl)
  rw [klS_idem] at this; exact this
 ·have : ∀ {m : List DV} {i : Nat} {css : List (List Value)}, i + m.length ≤ l.length → DRs (h.put n none) (noO n ow) B false (LB, []) i m css → DRs (h.put n none) (dropO (garb l.length) (noO n ow)) B false (LB, []) i m css := by
   intro m
   induction m with
   | nil => intro i css _ e; unfold DRs at *; exact e
   | cons d m ih =>
    intro i css hi e
    unfold DRs at e ⊢
    obtain ⟨c, r, h1, h2, h3⟩ := e
    rw [List.length_cons] at hi
    exact ⟨c, r, h1, h2.mv ⟨hfz, fun m w z k hm => ⟨dropO_at.2 ⟨hm, garb_i (by omega)⟩, rfl⟩⟩ (.inr ⟨fun x => x, fun _ _ _ _ hh => Bool.noConfusion hh⟩) (Nat.le_refl _), ih (by omega) h3⟩
  exact this (by omega) g6
def shO (q : Pt) (k : Nat) (ow : Nat → Ow) : Nat → Ow := fun n => match ow n with
 | .of p z kk => if belB q p = true then (match p.2.drop q.2.length with | j :: w => .of (LB, (k + j) :: w) z kk | [] => .no) else .of p z kk
 | o => o
theorem shO_fz {q : Pt} {k n : Nat} (hn : ow n = .fz) : shO q k ow n = .fz := by unfold shO; rw [hn]
theorem shO_no {q : Pt} {k n : Nat} (hn : ow n = .no) : shO q k ow n = .no := by unfold shO; rw [hn]
theorem shO_out {q p : Pt} {k n z kk : Nat} (hn : ow n = .of p z kk) (hb : ¬ Bel q p) : shO q k ow n = .of p z kk := by
 unfold shO; rw [hn]; simp only; rw [if_neg (by rw [belB_iff]; exact hb)]
theorem shO_in {q : Pt} {k n z kk j : Nat} {w : List Nat} (hn : ow n = .of (q.1, q.2 ++ j :: w) z kk) : shO q k ow n = .of (LB, (k + j) :: w) z kk := by
 unfold shO; rw [hn]; simp only; rw [if_pos (by rw [belB_iff]; exact Bel.ext q (j :: w))]; simp
theorem shO_of {q p : Pt} {k n z kk : Nat} (hh : shO q k ow n = .of p z kk) : (∃ j w, p = (LB, (k + j) :: w) ∧ ow n = .of (q.1, q.2 ++ j :: w) z kk) ∨ (ow n = .of p z kk ∧ ¬ Bel q p) := by
 unfold shO at hh
 cases ho : ow n with
 | fz => rw [ho] at hh; cases hh
 | no => rw [ho] at hh; cases hh
 | of p' z' k' =>
  rw [ho] at hh
  simp only at hh
  split at hh
  ·rename_i hb
   obtain ⟨b1, u, b2⟩ := belB_iff.1 hb
   have hd : p'.2.drop q.2.length = u := by rw [b2]; simp
   rw [hd] at hh
   cases u with
   | nil => cases hh
   | cons j w =>
    injection hh with e1 e2 e3
    subst e2; subst e3
    exact .inl ⟨j, w, e1.symm, by obtain ⟨p1, p2⟩ := p'; simp only at b1 b2; rw [b1, b2]⟩
  ·rename_i hb
   injection hh with e1 e2 e3
   subst e1; subst e2; subst e3
   exact .inr ⟨rfl, by rw [← belB_iff]; exact hb⟩
theorem Core.shift (C : Core val h ow B st) {q : Pt} {z : Nat} {lx : List DV} {k : Nat} (hn : node st q = some (.own z lx)) (hs : nset (belB q) st q (.junk 1) = some st') (hL : ∀ n p z kk, ow n = .of p z kk → p.1 = LB → ∃ j w, p.2 = j :: w ∧ j < k) :
  Core val h (shO q k ow) B st' ∧ ∃ n css, n < B ∧ ow n = .of q z lx.length ∧ h.blk n = some ⟨css.flatten, true⟩ ∧ (∀ x ∈ css, x.length = z) ∧ DRs h (shO q k ow) B false (LB, []) k lx css := by
 obtain ⟨hc, hd⟩ := node_dr C hn
 obtain ⟨n, css, g1, g0, g2, g3, g4, g5, g6⟩ := own_blk hd
 obtain ⟨d0, hr1, _, _, _⟩ := node_at hn
 have hqL : q.1 ≠ LB := C.lim _ _ hr1
 have hfz : FzSame h ow h (shO q k ow) := fun n hh => ⟨shO_fz hh, rfl⟩
 refine ⟨C.setN hn rfl hs (fun hc' hh => ?_) ⟨hfz, fun n p z k g1 g2 _ => ⟨shO_out g1 g2, rfl⟩⟩ ⟨hfz, fun n p z k g1 g2 => shO_out g2 (belB_not.1 g1)⟩ ?_ (fun n hh => shO_no (C.nn n hh)), n, css, g2, g3, g4, g5, ?_⟩
 ·have := hh.len
  unfold DR; rw [this]; rfl
 ·intro a b p z1 k1 z2 k2 h1 h2
  rcases shO_of h1 with ⟨j, w, e1, e2⟩ | ⟨e1, e2⟩ <;> rcases shO_of h2 with ⟨j', v, f1, f2⟩ | ⟨f1, f2⟩
  ·rw [e1] at f1; injection f1 with _ f1; injection f1 with f1 f3
   have : j = j' := by omega
   subst this; subst f3
   exact C.inj _ _ _ _ _ _ _ e2 f2
  ·subst e1
   obtain ⟨j2, w2, x1, x2⟩ := hL _ _ _ _ f1 rfl
   injection x1 with x1 _; omega
  ·subst f1
   obtain ⟨j2, w2, x1, x2⟩ := hL _ _ _ _ e1 rfl
   injection x1 with x1 _; omega
  ·exact C.inj _ _ _ _ _ _ _ e1 f1
 ·have : ∀ {m : List DV} {i : Nat} {css : List (List Value)}, DRs h ow B false q i m css → DRs h (shO q k ow) B false (LB, []) (k + i) m css := by
   intro m
   induction m with
   | nil => intro i css e; unfold DRs at *; exact e
   | cons d m ih =>
    intro i css e
    unfold DRs at e ⊢
    obtain ⟨c, r, h1, h2, h3⟩ := e
    exact ⟨c, r, h1, h2.mv ⟨hfz, fun m w z kk hm => ⟨by have := shO_in (k := k) (j := i) (w := w) (by simpa using hm); simpa using this, rfl⟩⟩ (.inr ⟨fun x => x, fun _ _ _ _ hh => Bool.noConfusion hh⟩) (Nat.le_refl _), ih h3⟩
  exact this g6
end
def fvs : List DV → Bool
 | [] => true
 | .fv _ :: l => fvs l
 | _ => false
theorem fvs_drs {h h' : Hp} {ow ow' : Nat → Ow} {B : Nat} (hfz : FzSame h ow h' ow') : ∀ {l : List DV} {p p' : Pt} {i i' : Nat} {css : List (List Value)}, fvs l = true → DRs h ow B false p i l css → DRs h' ow' B false p' i' l css
 | [], p, p', i, i', css, _, e => by unfold DRs at *; exact e
 | .fv v :: l, p, p', i, i', css, hl, e => by
  unfold fvs at hl
  unfold DRs at e ⊢
  obtain ⟨c, r, h1, h2, h3⟩ := e
  exact ⟨c, r, h1, by unfold DR at *; exact h2.mono hfz (Nat.le_refl _), fvs_drs hfz hl h3⟩
 | .own _ _ :: l, p, p', i, i', css, hl, e => by cases hl
 | .agg _ :: l, p, p', i, i', css, hl, e => by cases hl
 | .box _ :: l, p, p', i, i', css, hl, e => by cases hl
 | .hdr _ _ _ :: l, p, p', i, i', css, hl, e => by cases hl
 | .ptr _ _ _ :: l, p, p', i, i', css, hl, e => by cases hl
 | .tup _ :: l, p, p', i, i', css, hl, e => by cases hl
 | .junk _ :: l, p, p', i, i', css, hl, e => by cases hl
def el2 (z : Nat) (st : St) : DV → Option (List DV × St)
 | .fv .nil => some ([], st)
 | .fv (.row z' l) => if z' = z then some (l.map .fv, st) else none
 | .hdr q z' k => if z' = z then (match node st q with
  | some (.own _ lx) => if fvs lx = true then some (lx, st) else (nset (belB q) st q (.junk 1)).map fun st' => (lx, st')
  | _ => none) else none
 | _ => none
def ba2 (z : Nat) (st : St) : DV → Option (Option Pt × List DV × St)
 | .fv .nil => some (none, [], st)
 | .hdr q z' k => if z' = z then (match node st q with
  | some (.own _ l) => (nset (belB q) st q (.junk 1)).map fun st' => (some q, l, klS atL st')
  | _ => none) else none
 | _ => none
def klO (q : Option Pt) (d : DV) : DV := match q with
 | some q => kl (belB q) d
 | none => d
def ap2 (Γ : TypeId → Option TI) (st : St) (r : Nat) (t t2 : TypeId) (s x : DV) : Option (St × Nat) := (es1 Γ t).bind fun z => if isStr Γ t2 = some false then
 (ba2 z (clr r st) (kl (atR r) s)).bind fun b => (el2 z b.2.2 (klO b.1 (kl (atR r) x))).bind fun e =>
  if (b.1.isNone && e.1.isEmpty) = true then some (put r (.fv .nil) st, 0) else some ((r, .own z (b.2.1 ++ e.1)) :: klS atL e.2, (b.2.1 ++ e.1).length) else none
section
variable {Γ : TypeId → Option TI} {E : TypeId → Nat} {C : Rel} {D : DrawR} {h0 : Hp} {ow0 : Nat → Ow} {G : Nat → Value} {s : S} {base i : Nat} {l : List POp} {st st' : St}
theorem el_ok {val : Nat → Value} {h : Hp} {ow : Nat → Ow} {B z k : Nat} {p : Pt} {xd : DV} {y : Value} {lx : List DV} (hz : z ≠ 0) (C2 : Core val h ow B st) (hL : ∀ n p z kk, ow n = .of p z kk → p.1 = LB → ∃ j w, p.2 = j :: w ∧ j < k) (hx : VRc h ow B p xd y) (he : el2 z st xd = some (lx, st')) :
  ∃ ow' cms, Core val h ow' B st' ∧ DRs h ow' B false (LB, []) k lx cms ∧ (∀ c ∈ cms, c.length = z) ∧ (∀ n, (ow n = .fz → ow' n = .fz) ∧ (ow n = .no → ow' n = .no)) ∧ (∀ n p z kk, ow n = .of p z kk → p.1 = LB → ow' n = .of p z kk) ∧ (∀ n p z kk, ow' n = .of p z kk → ow n = .of p z kk ∨ (p.1 = LB ∧ p.2 ≠ [])) ∧ (∀ q d, get st' q = some d → ∃ d0, get st q = some d0) ∧
   ((y = .slice none 0 0 ∧ lx = []) ∨ ∃ n o c, y = .slice (some ⟨n, o, none⟩) lx.length c ∧ (lx ≠ [] → h.cells n o (lx.length * z) = some cms.flatten)) := by
 unfold el2 at he
 split at he
 ·injection he with he; injection he with h1 h2; subst h1; subst h2
  exact ⟨ow, [], C2, by unfold DRs; rfl, by simp, fun n => ⟨id, id⟩, fun _ _ _ _ hh _ => hh, fun _ _ _ _ hh => .inl hh, fun _ d hh => ⟨d, hh⟩, .inl ⟨sv_ok (d := .fv .nil) rfl hx, rfl⟩⟩
 ·rename_i z' lf
  split at he
  ·rename_i hzz; subst hzz
   injection he with he; injection he with h1 h2; subst h1; subst h2
   rcases hx with ⟨kk, hk⟩ | ⟨cs, e1, e2⟩
   ·cases hk
   ·unfold DR FR at e1
    rcases e1 with ⟨e0, rfl⟩ | ⟨n, o, c, css, rfl, g2, g3, g4, g5⟩
    ·subst e0
     exact ⟨ow, [], C2, by unfold DRs; rfl, by simp, fun n => ⟨id, id⟩, fun _ _ _ _ hh _ => hh, fun _ _ _ _ hh => .inl hh, fun _ d hh => ⟨d, hh⟩, .inl ⟨e2, rfl⟩⟩
    exact ⟨ow, css, C2, g3.toD, g4, fun n => ⟨id, id⟩, fun _ _ _ _ hh _ => hh, fun _ _ _ _ hh => .inl hh, fun _ d hh => ⟨d, hh⟩, .inr ⟨n, o, c, by rw [List.length_map]; exact e2, fun hne => by rw [List.length_map]; exact (g5 (by rintro rfl; exact hne rfl)).2.2⟩⟩
  ·cases he
 ·rename_i q z' kk
  split at he
  ·rename_i hzz; subst hzz
   split at he
   ·rename_i zz lx' hn
    obtain ⟨hc, hdn⟩ := node_dr C2 hn
    rcases hx with ⟨kk, hk⟩ | ⟨cs, e1, e2⟩
    ·cases hk
    ·obtain ⟨rfl, rfl, rfl⟩ := ref_own C2 e1 hdn
     obtain ⟨n, css, g1, g0, g2, g3, g4, g5, g6⟩ := own_blk hdn
     have hcells : h.cells n 0 (lx'.length * z') = some css.flatten := by
      unfold Hp.cells; rw [g4]
      have : css.flatten.length = lx'.length * z' := by rw [flat_mul g5, g6.count]
      simp only [Option.bind_some, Nat.zero_add, List.drop_zero]
      rw [if_pos (by omega), ← this, List.take_length]
     have hy : y = .slice (some ⟨n, 0, none⟩) lx'.length (U z') := by rw [e2, g1]; rfl
     split at he
     ·rename_i hf
      injection he with he; injection he with h1 h2; subst h1; subst h2
      exact ⟨ow, css, C2, fvs_drs (fun _ hh => ⟨hh, rfl⟩) hf g6, g5, fun n => ⟨id, id⟩, fun _ _ _ _ hh _ => hh, fun _ _ _ _ hh => .inl hh, fun _ d hh => ⟨d, hh⟩, .inr ⟨n, 0, U z', hy, fun _ => hcells⟩⟩
     ·obtain ⟨st2, h1, h2⟩ := Option.map_eq_some_iff.1 he
      injection h2 with h2 h3; subst h2; subst h3
      obtain ⟨C3, n', css', b1, b2, b3, b4, b5⟩ := C2.shift hn h1 hL
      obtain rfl := C2.inj _ _ _ _ _ _ _ g3 b2
      rw [g4] at b3; injection b3 with b3; injection b3 with b3
      obtain ⟨d0, hr1, _, _, _⟩ := node_at hn
      have hqL : q.1 ≠ LB := C2.lim _ _ hr1
      refine ⟨_, css', C3, b5, b4, fun n => ⟨shO_fz, shO_no⟩, fun n p z kk hh hp => shO_out hh (fun hb => hqL (hb.1.trans hp)), fun n p z kk hh => ?_, fun q' d hd => nset_get h1 hd, .inr ⟨n, 0, U z', hy, fun _ => by rw [hcells, b3]⟩⟩
      rcases shO_of hh with ⟨j, w, x1, x2⟩ | ⟨x1, _⟩
      ·exact .inr ⟨by rw [x1], by rw [x1]; simp⟩
      ·exact .inl x1
   ·cases he
  ·cases he
 ·cases he
theorem el2_nil {z : Nat} {xd : DV} (he : el2 z st xd = some ([], st')) : st' = st := by
 unfold el2 at he
 split at he
 ·injection he with he; injection he with _ h2; exact h2.symm
 ·split at he
  ·injection he with he; injection he with _ h2; exact h2.symm
  ·cases he
 ·split at he
  ·split at he
   ·rename_i zz lx' hn
    split at he
    ·injection he with he; injection he with _ h2; exact h2.symm
    ·rename_i hf
     obtain ⟨st2, _, h2⟩ := Option.map_eq_some_iff.1 he
     injection h2 with h2 _; subst h2
     exact absurd rfl hf
   ·cases he
  ·cases he
 ·cases he
theorem opV_append {nm : Nat} {ρ : Operand → Value} {x y : Operand} {t t2 : TypeId} {h : Hp} {v : Value} {h' : Hp} (ha : appendV Γ nm t t2 (ρ x) (ρ y) h = some (v, h')) : opV Γ E nm ρ (.call { callee := .builtin .append, args := #[x, y], argTypes := #[t, t2] }) h = some (v, h') := by
 unfold opV
 simp only [pureV, makeV, effV]
 show (match appendV Γ nm t t2 (ρ x) (ρ y) h with | some r => some r | none => none) = _
 rw [ha]
theorem isStr_f {t : TypeId} (h : isStr Γ t = some false) : ∃ e a b c, Γ t = some ⟨.slice e, a, b, c⟩ := by
 unfold isStr at h
 split at h
 ·injection h with h; cases h
 ·rename_i e _ _ _ hg; exact ⟨e, _, _, _, hg⟩
 ·cases h
theorem cells_put_none {h : Hp} {n m o z : Nat} {cs : List Value} (hc : (h.put n none).cells m o z = some cs) : h.cells m o z = some cs := by
 by_cases hm : m = n
 ·subst hm; unfold Hp.cells at hc; rw [hput_blk_eq] at hc; cases hc
 ·rw [hput_cells_ne hm] at hc; exact hc
theorem og_append {Q : S → Prop} {r N : Nat} {t t2 : TypeId} {x y : Operand} (hr : r < LB) (ha : ap2 Γ st r t t2 (ev2 st x) (ev2 st y) = some (st', N)) (hN : N ≤ 1073741824) (hn : OG Γ E C h0 ow0 G base (i + 1) l st' Q) :
  OG Γ E C h0 ow0 G base i (⟨some r, none, .call { callee := .builtin .append, args := #[x, y], argTypes := #[t, t2] }⟩ :: l) st Q := by
 refine og_of (fun s ow m hf => ⟨rfl, ?_⟩) hn
 have hb := hf.bl i (Nat.le_refl _) (by omega)
 have hlt : base + i < s.h.next := by have := hf.hi; omega
 have hlo := hf.lo
 have hL : r ≠ LB := by unfold LB at *; omega
 unfold ap2 at ha
 obtain ⟨z, h1, ha1⟩ := Option.bind_eq_some_iff.1 ha
 split at ha1
 ·rename_i hst
  obtain ⟨e, b1, b2, b3, ie, t1, t2', t3, t4, t5, t6, t7⟩ := es1_ok h1
  obtain ⟨e2, b4, b5, b6, t8⟩ := isStr_f hst
  have happ : ∀ h, appendV Γ (base + i) t t2 (s.ev x) (s.ev y) h = apO z (base + i) (s.ev x) h (apT z (s.ev y) h) := fun h => by
   rw [append_eq t1 t2' t5 t4 t6 t7 t8, t3]
  have hz0 : z ≠ 0 := by omega
  obtain ⟨⟨bq, bl, bst⟩, h2, ha2⟩ := Option.bind_eq_some_iff.1 ha1
  obtain ⟨⟨lx, st2⟩, h3, ha3⟩ := Option.bind_eq_some_iff.1 ha2
  simp only at h3 ha3
  clear ha ha1 ha2
  obtain ⟨gx1, gx2⟩ := ev2_ok m.core x (r, [])
  obtain ⟨gy1, gy2⟩ := ev2_ok m.core y (r, [])
  have C1 := m.core.clr (val' := vl s G) (r := r) (fun _ _ => rfl)
  have hx1 : VRc s.h (dropO (atR r) ow) s.h.next (r, []) (kl (atR r) (ev2 st x)) (s.ev x) := by
   rcases gx1 with ⟨kk, hk⟩ | ⟨cs, e1, e2⟩
   ·rw [hk]; exact .inl ⟨kk, by unfold kl; rfl⟩
   ·exact .inr ⟨cs, e1.clr gx2, by rw [kl_agg]; exact e2⟩
  have hy1 : VRc s.h (dropO (atR r) ow) s.h.next (r, []) (kl (atR r) (ev2 st y)) (s.ev y) := by
   rcases gy1 with ⟨kk, hk⟩ | ⟨cs, e1, e2⟩
   ·rw [hk]; exact .inl ⟨kk, by unfold kl; rfl⟩
   ·exact .inr ⟨cs, e1.clr gy2, by rw [kl_agg]; exact e2⟩
  unfold ba2 at h2
  split at h2
  ·-- nothing yet
   rename_i hsx
   injection h2 with h2; injection h2 with e1 e3; injection e3 with e3 e4; subst e1; subst e3; subst e4
   rw [hsx] at hx1
   have hxv : s.ev x = .slice none 0 0 := sv_ok (d := .fv .nil) rfl hx1
   obtain ⟨ow', cms, k1, k2, k3, k4, k5, k6, k7, k8⟩ := el_ok hz0 C1 (k := 0) (fun n p z kk hh hp => absurd hp (drop_free hh).2) hy1 h3
   split at ha3
   ·rename_i hemp
    simp only [Bool.and_eq_true, List.isEmpty_iff] at hemp
    injection ha3 with ha3; injection ha3 with e5 e6; subst e5; subst e6
    have hlx : lx = [] := hemp.2
    subst hlx
    refine ⟨.slice none 0 0, s.h, opV_append ?_, rfl, fun _ _ hh => hh, Sm.put m hr (by unfold noOwn; rfl) (p := (r, [])) (ofV_ok _ (.slice none 0 0))⟩
    rw [happ, hxv]
    rcases k8 with ⟨hy, _⟩ | ⟨n, o, c, hy, _⟩
    ·rw [hy]; rfl
    ·rw [hy]; rfl
   ·rename_i hemp
    injection ha3 with ha3; injection ha3 with e5 e6; subst e5; subst e6
    simp only [Option.isNone_none, Bool.true_and, List.isEmpty_iff, List.nil_append] at hemp hN
    rcases k8 with ⟨_, hy⟩ | ⟨n, o, c, hy, hcl⟩
    ·exact absurd hy hemp
    ·have hlen : lx.length ≠ 0 := fun hh => hemp (List.eq_nil_of_length_eq_zero hh)
     refine ⟨.slice (some ⟨base + i, 0, none⟩) lx.length (U z), s.h.put (base + i) (some ⟨cms.flatten, true⟩), opV_append ?_, rfl, fun n hne hh => (hput_blk_ne hne).trans hh, ?_⟩
     ·rw [happ, hxv, hy, apT_some, if_neg hlen, hcl hemp]
      exact apO_nil hlen hN
     ·refine sm_new m hlo hlt (fun n hh => (k4 n).1 (dropO_fz.2 hh)) (fun n hh => (k4 n).2 (dropO_no hh)) (k1.settle k2 k3 hz0 hb hlt hL (fun n p z k hh => ?_) (fun n z k hh => ?_) (vl_get ?_) (by rw [vl_put hr]; rfl))
      ·rcases k6 n p z k hh with hh | hh
       ·exact (drop_free hh).1
       ·intro hp; exact hL (hp.symm.trans hh.1)
      ·rcases k6 n _ z k hh with hh | hh
       ·exact (drop_free hh).2 rfl
       ·exact hh.2 rfl
      ·cases hg : get st2 r with
       | none => rfl
       | some d0 => obtain ⟨d1, hd1⟩ := k7 r d0 hg; rw [clr_none] at hd1; cases hd1
  ·rename_i q z' kk hsx
   split at h2
   ·rename_i hzz; subst hzz
    split at h2
    ·rename_i zz l0 hnd
     obtain ⟨st1, h4, h5⟩ := Option.map_eq_some_iff.1 h2
     injection h5 with e1 e3; injection e3 with e3 e4; subst e1; subst e3; subst e4
     rw [if_neg (by simp)] at ha3
     injection ha3 with ha3; injection ha3 with e5 e6; subst e5; subst e6
     obtain ⟨C2, hc, q1, q2⟩ := C1.move (T := (LB, [])) hnd (fun n p z k hh hb => (drop_free hh).2 hb.1.symm) h4
     rw [hsx] at hx1
     rcases hx1 with ⟨k0, hk⟩ | ⟨cs, x1, x2⟩
     ·cases hk
     ·obtain ⟨rfl, rfl, rfl⟩ := ref_own C1 x1 q1
      obtain ⟨n, css, g1, g0, g2, g3, g4, g5, C3, g6⟩ := C2.open2 q2
      have hxv : s.ev x = .slice (some ⟨n, 0, none⟩) l0.length (U z') := by rw [x2, g1]; rfl
      have hfz : FzSame s.h (dropO (atR r) ow) (s.h.put n none) (dropO (garb l0.length) (noO n (mvO q (LB, []) (dropO (atR r) ow)))) := fun m' hm => by
       have hm2 := mvO_fz (q := q) (T := (LB, [])) |>.2 hm
       have : m' ≠ n := fun hh => by subst hh; rw [g3] at hm2; cases hm2
       exact ⟨dropO_fz.2 (by unfold noO; rw [if_neg this]; exact hm2), hput_blk_ne this⟩
      have hy2 : VRc (s.h.put n none) (dropO (garb l0.length) (noO n (mvO q (LB, []) (dropO (atR r) ow)))) s.h.next (r, []) (klO (some q) (kl (atR r) (ev2 st y))) (s.ev y) := by
       have hno : noOwn (kl (atR r) (ev2 st y)) = true := by
        have : ∀ (a : Pt → Bool) (d : DV), noOwn d = true → noOwn (kl a d) = true := by
         intro a d hd
         refine DV.rec (motive_1 := fun d => noOwn d = true → noOwn (kl a d) = true) (motive_2 := fun l => noOwns l = true → noOwns (kls a l) = true) (fun _ _ => by unfold kl noOwn; rfl) (fun _ _ _ h => by unfold noOwn at h; cases h) (fun l ih h => ?_) (fun _ _ h => by unfold noOwn at h; cases h) (fun q _ _ _ => ?_) (fun q _ _ _ => ?_) (fun l ih h => ?_) (fun _ _ => by unfold kl noOwn; rfl) (fun _ => by unfold kls noOwns; rfl) (fun a l h1 h2 h => ?_) d hd
         ·unfold noOwn at h; unfold kl noOwn; exact ih h
         ·unfold kl; split <;> (unfold noOwn; rfl)
         ·unfold kl; split <;> (unfold noOwn; rfl)
         ·unfold noOwn at h; unfold kl noOwn; exact ih h
         ·unfold noOwns at h; rw [Bool.and_eq_true] at h; unfold kls noOwns; rw [h1 h.1, h2 h.2]; rfl
        exact this _ _ gy2
       rcases hy1 with ⟨k0, hk⟩ | ⟨cs', y1, y2⟩
       ·rw [hk]; exact .inl ⟨k0, by unfold klO kl; rfl⟩
       ·refine .inr ⟨cs', ?_, by unfold klO; rw [kl_agg]; exact y2⟩
        refine DR.free ⟨hfz, fun m' p z k ha hn' => ?_⟩ (Nat.le_refl _) hno y1
        have hm2 := mvO_out (T := (LB, [])) hn' (belB_not.1 ha)
        have : m' ≠ n := fun hh => by
         subst hh; rw [g3] at hm2; injection hm2 with hm2
         exact (drop_free hn').2 (by rw [← hm2])
        exact dropO_at.2 ⟨by unfold noO; rw [if_neg this]; exact hm2, garb_f (drop_free hn').2⟩
      obtain ⟨ow', cms, k1, k2, k3, k4, k5, k6, k7, k8⟩ := el_ok hz0 C3 (k := l0.length) (fun n p z kk hh hp => garb_n (dropO_at.1 hh).2 hp) hy2 h3
      have hcount : css.length = l0.length := g6.count
      have hcl : css.flatten.length = l0.length * z' := by rw [flat_mul g5, hcount]
      have hD : DRs (s.h.put n none) ow' s.h.next false (LB, []) 0 (l0 ++ lx) (css ++ cms) := by
       refine DRs.append ?_ (by rw [Nat.zero_add]; exact k2)
       exact DRs.mv1 (p := (LB, [])) (p' := (LB, [])) (fun j => ⟨fun m' hm => ⟨(k4 m').1 hm, rfl⟩, fun m' w z k hm => ⟨k5 m' _ z k hm rfl, rfl⟩⟩) (Nat.le_refl _) g6
      have hbn : base + i ≠ n := fun hh => by rw [hh, g4] at hb; cases hb
      have hnb : (s.h.put n none).blk (base + i) = none := by rw [hput_blk_ne hbn]; exact hb
      have hfr : ∀ n' p z k, ow' n' = .of p z k → p.1 ≠ r := by
       intro n' p z k hh
       rcases k6 n' p z k hh with hh | hh
       ·have h9 := (dropO_at.1 hh).1
        unfold noO at h9
        split at h9
        ·cases h9
        ·rcases mvO_of h9 with ⟨w, y1, y2⟩ | ⟨y1, y2⟩
         ·rw [y1]; exact Ne.symm hL
         ·exact (drop_free y1).1
       ·intro hp; exact hL (hp.symm.trans hh.1)
      have hno : ∀ n' z k, ow' n' ≠ .of (LB, []) z k := by
       intro n' z k hh
       rcases k6 n' _ z k hh with hh | hh
       ·have := garb_n (dropO_at.1 hh).2 rfl
        obtain ⟨j, w, hj, _⟩ := this; cases hj
       ·exact hh.2 rfl
      have hst2 : get st2 r = none := by
       cases hg : get st2 r with
       | none => rfl
       | some d0 =>
        obtain ⟨d1, hd1⟩ := k7 r d0 hg
        rw [get_klS] at hd1
        obtain ⟨d3, hd3, _⟩ := Option.map_eq_some_iff.1 hd1
        obtain ⟨d2, hd2⟩ := nset_get h4 hd3
        rw [clr_none] at hd2; cases hd2
      have hfz2 : ∀ n', ow n' = .fz → ow' n' = .fz ∧ n' ≠ n := fun n' hh => by
       have h9 := hfz n' (dropO_fz.2 hh)
       refine ⟨(k4 n').1 h9.1, fun hh2 => ?_⟩
       subst hh2
       have := mvO_fz (q := q) (T := (LB, [])) |>.2 (dropO_fz (a := atR r) |>.2 hh)
       rw [g3] at this; cases this
      have hno2 : ∀ n', ow n' = .no → ow' n' = .no ∧ n' ≠ n := fun n' hh => by
       have h8 := mvO_no (q := q) (T := (LB, [])) |>.2 (dropO_no (a := atR r) hh)
       have h9 : n' ≠ n := fun hh2 => by subst hh2; rw [g3] at h8; cases h8
       exact ⟨(k4 n').2 (dropO_no (by unfold noO; rw [if_neg h9]; exact h8)), h9⟩
      by_cases hlx : lx = []
      ·-- nothing is put behind: the row is what it was
       subst hlx
       refine ⟨s.ev x, s.h, opV_append ?_, rfl, fun _ _ hh => hh, ?_⟩
       ·rw [happ, hxv]
        rcases k8 with ⟨hy, _⟩ | ⟨n', o, c, hy, _⟩
        ·rw [hy]; rfl
        ·rw [hy]; rfl
       ·have he2 := el2_nil h3
        subst he2
        rw [klS_idem, List.append_nil]
        have hT : ∀ n p z k, mvO q (LB, []) (dropO (atR r) ow) n = .of p z k → ¬ Bel (r, []) p := by
         intro n' p z k hh hbb
         rcases mvO_of hh with ⟨w, y1, y2⟩ | ⟨y1, y2⟩
         ·rw [y1] at hbb; exact hL hbb.1
         ·exact (drop_free y1).1 hbb.1.symm
        have hfz3 : FzSame s.h (mvO q (LB, []) (dropO (atR r) ow)) s.h (mvO (LB, []) (r, []) (mvO q (LB, []) (dropO (atR r) ow))) := fun n hh => ⟨mvO_fz.2 hh, rfl⟩
        have hgr : ∀ q' d, get (klS atL st1) q' = some d → q' ≠ r := by
         intro q' d hd hq
         subst hq
         rw [get_klS] at hd
         obtain ⟨d1, hd1, _⟩ := Option.map_eq_some_iff.1 hd
         obtain ⟨d2, hd2⟩ := nset_get h4 hd1
         rw [clr_none] at hd2; cases hd2
        have C5 := C2.tr (val' := vl s G) (a := atL) (ow' := mvO (LB, []) (r, []) (mvO q (LB, []) (dropO (atR r) ow))) ⟨hfz3, fun m p z k h1 h2 => mvO_out h2 (fun hb => atL_f.1 h1 hb.1.symm)⟩ (fun r' hr' => ⟨hfz3, fun m w z k hm => ⟨mvO_out hm (fun hb => hr' hb.1.symm), rfl⟩⟩) (mvO_inj C2.inj hT) (fun n hh => mvO_no.2 (C2.nn n hh)) (Nat.le_refl _) (fun _ _ _ => rfl)
        refine ⟨mvO (LB, []) (r, []) (mvO q (LB, []) (dropO (atR r) ow)), ?_, ?_, ?_⟩
        ·rw [put_h]
         refine (C5.reval (val' := vl ((s.hp s.h).put (some r) (s.ev x)) G) fun q' d hd => by rw [vl_put_ne q' (hgr q' d hd)]; rfl).add hL (.inr (.inr ⟨cs, ?_, ?_⟩))
         ·have := q2.mv (h' := s.h) (ow' := mvO (LB, []) (r, []) (mvO q (LB, []) (dropO (atR r) ow))) (p' := (r, [])) (top' := false) ⟨hfz3, fun n w z k hn => ⟨mvO_in (T := (r, [])) hn, rfl⟩⟩ (.inr ⟨fun x => x, fun _ _ _ _ hh => Bool.noConfusion hh⟩) (Nat.le_refl _)
          exact this.topI rfl
         ·rw [vl_put hr, x2]; rfl
        ·rw [put_h]
         exact m.frm.go (Nat.le_refl _) (fun n' _ => ⟨fun hh => ⟨mvO_fz.2 (mvO_fz.2 (dropO_fz.2 hh)), rfl⟩, fun hh => ⟨mvO_no.2 (mvO_no.2 (dropO_no hh)), rfl⟩⟩) (fun _ _ hh => hh)
        ·rw [put_h]; exact m.top
      ·have hlen : lx.length ≠ 0 := fun hh => hlx (List.eq_nil_of_length_eq_zero hh)
       rcases k8 with ⟨_, hy⟩ | ⟨n', o, c, hy, hcc⟩
       ·exact absurd hy hlx
       ·rw [List.length_append] at hN
        refine ⟨.slice (some ⟨base + i, 0, none⟩) (l0.length + lx.length) (U z'), (s.h.put n none).put (base + i) (some ⟨(css ++ cms).flatten, true⟩), opV_append ?_, rfl, fun n' hne hh => ?_, ?_⟩
        ·rw [happ, hxv, hy, apT_some, if_neg hlen, cells_put_none (hcc hlx)]
         simp only [Option.map_some]
         rw [apO_some hlen, g4, apB_own hcl hN hlen hz0, List.flatten_append]
        ·rw [hput_blk_ne hne]
         by_cases hn2 : n' = n
         ·rw [hn2, hput_blk_eq]
         ·rw [hput_blk_ne hn2]; exact hh
        ·have hset := k1.settle (val' := vl ((s.hp ((s.h.put n none).put (base + i) (some ⟨(css ++ cms).flatten, true⟩))).put (some r) (.slice (some ⟨base + i, 0, none⟩) (l0.length + lx.length) (U z'))) G) (r := r) hD (fun c hc => by
          rcases List.mem_append.1 hc with hc | hc
          ·exact g5 c hc
          ·exact k3 c hc) hz0 hnb hlt hL hfr hno (vl_get hst2) (by rw [vl_put hr, List.length_append])
         refine ⟨newO (base + i) r z' (l0 ++ lx).length ow', ?_, ?_, ?_⟩
         ·rw [put_h]; exact hset
         ·rw [put_h]
          refine m.frm.go (Nat.le_refl _) (fun n' hlt' => ?_) (fun n' hlt' hh => ?_)
          ·have hne : n' ≠ base + i := by omega
           exact ⟨fun hh => ⟨newO_fz hne (hfz2 n' hh).1, (hput_blk_ne hne).trans (hput_blk_ne (hfz2 n' hh).2)⟩, fun hh => ⟨newO_no hne (hno2 n' hh).1, (hput_blk_ne hne).trans (hput_blk_ne (hno2 n' hh).2)⟩⟩
          ·refine (hput_blk_ne (by omega)).trans ?_
           by_cases hn2 : n' = n
           ·rw [hn2, hput_blk_eq]
           ·rw [hput_blk_ne hn2]; exact hh
         ·rw [put_h]
          intro n' hle
          have hle' : s.h.next ≤ n' := hle
          refine (hput_blk_ne (by omega)).trans ?_
          by_cases hn2 : n' = n
          ·rw [hn2, hput_blk_eq]
          ·rw [hput_blk_ne hn2]; exact m.top n' hle
    ·cases h2
   ·cases h2
  ·cases h2
 ·cases ha1
end
end Go.Proofs.YtonpnjfclelpiaaGreatM
