import Derived.Test.YtonpnjfclelpiaaGreatVDMiN
namespace Go.Proofs.YtonpnjfclelpiaaGreatM
open Go
set_option linter.unusedVariables false
set_option linter.unusedSimpArgs false
inductive FV where
 | int (k : IntKind) (n : Int)
 | bool (b : Bool)
 | str (s : ByteArray)
 | nil
 | nilp
 | row (z : Nat) (l : List FV)
 | agg (l : List FV)
 | fp (d : FV)
 | fn (f : FuncId) (a b : List FV)
abbrev Pt := Nat × List Nat
def LB : Nat := 900000
def GB : Nat := 1000000
inductive Ow where
 | fz
 | no
 | of (p : Pt) (z len : Nat)
inductive DV where
 | fv (v : FV)
 | own (z : Nat) (l : List DV)
 | agg (l : List DV)
 | box (d : DV)
 | hdr (p : Pt) (z k : Nat)
 | ptr (p : Pt) (w : List Nat) (o : Nat)
 | tup (l : List DV)
 | junk (k : Nat)
mutual
def szF : FV → Nat
 | .agg l => szFs l
 | _ => 1
def szFs : List FV → Nat
 | [] => 0
 | d :: l => szF d + szFs l
end
mutual
def szD : DV → Nat
 | .fv v => szF v
 | .agg l => szDs l
 | .junk k => k
 | _ => 1
def szDs : List DV → Nat
 | [] => 0
 | d :: l => szD d + szDs l
end
def isAggF : FV → Bool
 | .agg _ => true
 | _ => false
def isAgg : DV → Bool
 | .fv v => isAggF v
 | .agg _ => true
 | _ => false
def mkv (agg : Bool) (cs : List Value) : Value := if agg = true then .agg cs.toArray else cs.headD undef
def CapOk (z len c : Nat) : Prop := c = U z ∨ (len ≤ c ∧ c < 18446744073709551616)
section
variable (h : Hp) (ow : Nat → Ow) (B : Nat)
mutual
def FR : FV → List Value → Prop
 | .int k n, cs => cs = [.int k n]
 | .bool b, cs => cs = [.bool b]
 | .str s, cs => cs = [.string s]
 | .nil, cs => cs = [.slice none 0 0]
 | .nilp, cs => cs = [.pointer none]
 | .row z l, cs => (l = [] ∧ cs = [.slice none 0 0]) ∨ ∃ n o c css, cs = [.slice (some ⟨n, o, none⟩) l.length c] ∧ CapOk z l.length c ∧ FRs l css ∧ (∀ x ∈ css, x.length = z) ∧ (l ≠ [] → n < B ∧ ow n = .fz ∧ h.cells n o (l.length * z) = some css.flatten)
 | .agg l, cs => ∃ css, cs = css.flatten ∧ FRs l css
 | .fp d, cs => ∃ n o cs', cs = [.pointer (some ⟨n, o, none⟩)] ∧ n < B ∧ ow n = .fz ∧ h.cells n o cs'.length = some cs' ∧ FR d cs'
 | .fn f a b, cs => ∃ ca cb, cs = [.func (.func f) ((List.zipWith (fun d c => mkv (isAggF d) c) a ca).toArray) ((List.zipWith (fun d c => mkv (isAggF d) c) b cb).toArray)] ∧ FRs a ca ∧ FRs b cb
def FRs : List FV → List (List Value) → Prop
 | [], css => css = []
 | d :: l, css => ∃ c r, css = c :: r ∧ FR d c ∧ FRs l r
end
mutual
def DR : Bool → Pt → DV → List Value → Prop
 | top, p, .fv v, cs => FR h ow B v cs
 | top, p, .own z l, cs => ∃ n css, cs = [.slice (some ⟨n, 0, none⟩) l.length (U z)] ∧ z ≠ 0 ∧ n < B ∧ ow n = .of p z l.length ∧ h.blk n = some ⟨css.flatten, true⟩ ∧ (∀ x ∈ css, x.length = z) ∧ DRs false p 0 l css
 | top, p, .agg l, cs => ∃ css, cs = css.flatten ∧ DRs top p 0 l css
 | top, p, .box d, cs => ∃ n c, cs = [.pointer (some ⟨n, 0, none⟩)] ∧ n < B ∧ ow n = .of p 0 0 ∧ h.blk n = some ⟨c, true⟩ ∧ DR false (p.1, p.2 ++ [0]) d c
 | top, p, .hdr q z k, cs => top = true ∧ ∃ n, n < B ∧ ow n = .of q z k ∧ cs = [.slice (some ⟨n, 0, none⟩) k (U z)]
 | top, p, .ptr q w o, cs => top = true ∧ ∃ n z k, n < B ∧ ow n = .of q z k ∧ cs = [.pointer (some ⟨n, o, none⟩)]
 | top, p, .tup l, cs => False
 | top, p, .junk k, cs => cs.length = k
def DRs : Bool → Pt → Nat → List DV → List (List Value) → Prop
 | top, p, i, [], css => css = []
 | top, p, i, d :: l, css => ∃ c r, css = c :: r ∧ DR top (p.1, p.2 ++ [i]) d c ∧ DRs top p (i + 1) l r
end
end
section
variable {h h' : Hp} {ow ow' : Nat → Ow} {B B' : Nat}
mutual
theorem FR.len : ∀ {d : FV} {cs : List Value}, FR h ow B d cs → cs.length = szF d
 | .int _ _, cs, e => by unfold FR at e; subst e; rfl
 | .bool _, cs, e => by unfold FR at e; subst e; rfl
 | .str _, cs, e => by unfold FR at e; subst e; rfl
 | .nil, cs, e => by unfold FR at e; subst e; rfl
 | .nilp, cs, e => by unfold FR at e; subst e; rfl
 | .row _ _, cs, e => by unfold FR at e; rcases e with ⟨_, e⟩ | ⟨_, _, _, _, e, _⟩ <;> (subst e; rfl)
 | .agg l, cs, e => by
  unfold FR at e; obtain ⟨css, e, h1⟩ := e; subst e
  unfold szF; exact FRs.len h1
 | .fp _, cs, e => by unfold FR at e; obtain ⟨_, _, _, e, _⟩ := e; subst e; rfl
 | .fn _ _ _, cs, e => by unfold FR at e; obtain ⟨_, _, e, _⟩ := e; subst e; rfl
theorem FRs.len : ∀ {l : List FV} {css : List (List Value)}, FRs h ow B l css → css.flatten.length = szFs l
 | [], css, e => by unfold FRs at e; subst e; rfl
 | d :: l, css, e => by
  unfold FRs at e; obtain ⟨c, r, rfl, h1, h2⟩ := e
  unfold szFs
  rw [List.flatten_cons, List.length_append, FR.len h1, FRs.len h2]
end
mutual
theorem DR.len : ∀ {d : DV} {top : Bool} {p : Pt} {cs : List Value}, DR h ow B top p d cs → cs.length = szD d
 | .fv v, top, p, cs, e => by unfold DR at e; unfold szD; exact e.len
 | .own _ _, top, p, cs, e => by unfold DR at e; obtain ⟨_, _, e, _⟩ := e; subst e; rfl
 | .agg l, top, p, cs, e => by
  unfold DR at e; obtain ⟨css, e, h1⟩ := e; subst e
  unfold szD; exact DRs.len h1
 | .box _, top, p, cs, e => by unfold DR at e; obtain ⟨_, _, e, _⟩ := e; subst e; rfl
 | .hdr _ _ _, top, p, cs, e => by unfold DR at e; obtain ⟨_, _, _, _, e⟩ := e; subst e; rfl
 | .ptr _ _ _, top, p, cs, e => by unfold DR at e; obtain ⟨_, _, _, _, _, _, e⟩ := e; subst e; rfl
 | .tup _, top, p, cs, e => by unfold DR at e; exact e.elim
 | .junk _, top, p, cs, e => by unfold DR at e; unfold szD; exact e
theorem DRs.len : ∀ {l : List DV} {top : Bool} {p : Pt} {i : Nat} {css : List (List Value)}, DRs h ow B top p i l css → css.flatten.length = szDs l
 | [], top, p, i, css, e => by unfold DRs at e; subst e; rfl
 | d :: l, top, p, i, css, e => by
  unfold DRs at e; obtain ⟨c, r, rfl, h1, h2⟩ := e
  unfold szDs
  rw [List.flatten_cons, List.length_append, DR.len h1, DRs.len h2]
end
def FzSame (h : Hp) (ow : Nat → Ow) (h' : Hp) (ow' : Nat → Ow) : Prop := ∀ n, ow n = .fz → ow' n = .fz ∧ h'.blk n = h.blk n
theorem cells_same {n o z : Nat} (e : h'.blk n = h.blk n) : h'.cells n o z = h.cells n o z := by unfold Hp.cells; rw [e]
mutual
theorem FR.mono (hs : FzSame h ow h' ow') (hB : B ≤ B') : ∀ {d : FV} {cs : List Value}, FR h ow B d cs → FR h' ow' B' d cs
 | .int _ _, cs, e => by unfold FR at *; exact e
 | .bool _, cs, e => by unfold FR at *; exact e
 | .str _, cs, e => by unfold FR at *; exact e
 | .nil, cs, e => by unfold FR at *; exact e
 | .nilp, cs, e => by unfold FR at *; exact e
 | .row z l, cs, e => by
  unfold FR at *
  rcases e with e | ⟨n, o, c, css, h1, h2, h3, h4, h5⟩
  ·exact .inl e
  exact .inr ⟨n, o, c, css, h1, h2, FRs.mono hs hB h3, h4, fun hl => by
   obtain ⟨k1, k2, k3⟩ := h5 hl
   obtain ⟨q1, q2⟩ := hs n k2
   exact ⟨Nat.lt_of_lt_of_le k1 hB, q1, by rw [cells_same q2, k3]⟩⟩
 | .agg l, cs, e => by
  unfold FR at *
  obtain ⟨css, h1, h2⟩ := e
  exact ⟨css, h1, FRs.mono hs hB h2⟩
 | .fp d, cs, e => by
  unfold FR at *
  obtain ⟨n, o, cs', h1, h2, h3, h4, h5⟩ := e
  obtain ⟨q1, q2⟩ := hs n h3
  exact ⟨n, o, cs', h1, Nat.lt_of_lt_of_le h2 hB, q1, by rw [cells_same q2, h4], FR.mono hs hB h5⟩
 | .fn f a b, cs, e => by
  unfold FR at *
  obtain ⟨ca, cb, h1, h2, h3⟩ := e
  exact ⟨ca, cb, h1, FRs.mono hs hB h2, FRs.mono hs hB h3⟩
theorem FRs.mono (hs : FzSame h ow h' ow') (hB : B ≤ B') : ∀ {l : List FV} {css : List (List Value)}, FRs h ow B l css → FRs h' ow' B' l css
 | [], css, e => by unfold FRs at *; exact e
 | d :: l, css, e => by
  unfold FRs at *
  obtain ⟨c, r, h1, h2, h3⟩ := e
  exact ⟨c, r, h1, FR.mono hs hB h2, FRs.mono hs hB h3⟩
end
def Bel (p q : Pt) : Prop := p.1 = q.1 ∧ ∃ w, q.2 = p.2 ++ w
theorem Bel.refl (p : Pt) : Bel p p := ⟨rfl, [], by simp⟩
theorem Bel.trans {p q r : Pt} (a : Bel p q) (b : Bel q r) : Bel p r := by
 obtain ⟨a1, w, a2⟩ := a
 obtain ⟨b1, v, b2⟩ := b
 exact ⟨a1.trans b1, w ++ v, by rw [b2, a2, List.append_assoc]⟩
theorem Bel.ext (p : Pt) (w : List Nat) : Bel p (p.1, p.2 ++ w) := ⟨rfl, w, rfl⟩
structure Mv (h : Hp) (ow : Nat → Ow) (h' : Hp) (ow' : Nat → Ow) (p p' : Pt) : Prop where
 fz : FzSame h ow h' ow'
 own : ∀ n w z k, ow n = .of (p.1, p.2 ++ w) z k → ow' n = .of (p'.1, p'.2 ++ w) z k ∧ h'.blk n = h.blk n
theorem Mv.down {p p' : Pt} (m : Mv h ow h' ow' p p') (w : List Nat) : Mv h ow h' ow' (p.1, p.2 ++ w) (p'.1, p'.2 ++ w) := ⟨m.fz, fun n v z k hn => by
 have := m.own n (w ++ v) z k (by rw [← List.append_assoc]; exact hn)
 rw [← List.append_assoc] at this
 exact this⟩
def RefsOk (ow ow' : Nat → Ow) (top : Bool) : Prop := ∀ n q z k, top = true → ow n = .of q z k → ow' n = .of q z k
mutual
def noRef : DV → Bool
 | .hdr _ _ _ => false
 | .ptr _ _ _ => false
 | .agg l => noRefs l
 | .own _ l => noRefs l
 | .box d => noRef d
 | .tup l => noRefs l
 | _ => true
def noRefs : List DV → Bool
 | [] => true
 | d :: l => noRef d && noRefs l
end
mutual
theorem DR.mv : ∀ {d : DV} {top top' : Bool} {p p' : Pt} {cs : List Value}, Mv h ow h' ow' p p' → (noRef d = true ∨ ((top = true → top' = true) ∧ RefsOk ow ow' top)) → B ≤ B' → DR h ow B top p d cs → DR h' ow' B' top' p' d cs
 | .fv v, top, top', p, p', cs, m, hr, hB, e => by unfold DR at *; exact e.mono m.fz hB
 | .own z l, top, top', p, p', cs, m, hr, hB, e => by
  unfold DR at *
  obtain ⟨n, css, h1, h0, h2, h3, h4, h5, h6⟩ := e
  obtain ⟨q1, q2⟩ := m.own n [] z l.length (by simpa using h3)
  refine ⟨n, css, h1, h0, Nat.lt_of_lt_of_le h2 hB, by simpa using q1, by rw [q2, h4], h5, DRs.mv m ?_ hB h6⟩
  rcases hr with hr | hr
  ·left; unfold noRef at hr; exact hr
  ·right; exact ⟨fun x => (Bool.noConfusion x), fun n q z k hq ho => Bool.noConfusion hq⟩
 | .agg l, top, top', p, p', cs, m, hr, hB, e => by
  unfold DR at *
  obtain ⟨css, h1, h2⟩ := e
  refine ⟨css, h1, DRs.mv m ?_ hB h2⟩
  rcases hr with hr | hr
  ·left; unfold noRef at hr; exact hr
  ·right; exact hr
 | .box d, top, top', p, p', cs, m, hr, hB, e => by
  unfold DR at *
  obtain ⟨n, c, h1, h2, h3, h4, h5⟩ := e
  obtain ⟨q1, q2⟩ := m.own n [] 0 0 (by simpa using h3)
  refine ⟨n, c, h1, Nat.lt_of_lt_of_le h2 hB, by simpa using q1, by rw [q2, h4], DR.mv (m.down [0]) ?_ hB h5⟩
  rcases hr with hr | hr
  ·left; unfold noRef at hr; exact hr
  ·right; exact ⟨fun x => (Bool.noConfusion x), fun n q z k hq ho => Bool.noConfusion hq⟩
 | .hdr q z k, top, top', p, p', cs, m, hr, hB, e => by
  rcases hr with hr | hr
  ·unfold noRef at hr; cases hr
  ·unfold DR at *
   obtain ⟨h1, n, h2, h3, h4⟩ := e
   exact ⟨hr.1 h1, n, Nat.lt_of_lt_of_le h2 hB, hr.2 n q z k h1 h3, h4⟩
 | .ptr q w o, top, top', p, p', cs, m, hr, hB, e => by
  rcases hr with hr | hr
  ·unfold noRef at hr; cases hr
  ·unfold DR at *
   obtain ⟨h1, n, z, k, h2, h3, h4⟩ := e
   exact ⟨hr.1 h1, n, z, k, Nat.lt_of_lt_of_le h2 hB, hr.2 n q z k h1 h3, h4⟩
 | .tup _, top, top', p, p', cs, m, hr, hB, e => by unfold DR at *; exact e
 | .junk _, top, top', p, p', cs, m, hr, hB, e => by unfold DR at *; exact e
theorem DRs.mv : ∀ {l : List DV} {top top' : Bool} {p p' : Pt} {i : Nat} {css : List (List Value)}, Mv h ow h' ow' p p' → (noRefs l = true ∨ ((top = true → top' = true) ∧ RefsOk ow ow' top)) → B ≤ B' → DRs h ow B top p i l css → DRs h' ow' B' top' p' i l css
 | [], top, top', p, p', i, css, m, hr, hB, e => by unfold DRs at *; exact e
 | d :: l, top, top', p, p', i, css, m, hr, hB, e => by
  unfold DRs at *
  obtain ⟨c, r, h1, h2, h3⟩ := e
  refine ⟨c, r, h1, DR.mv (m.down [i]) ?_ hB h2, DRs.mv m ?_ hB h3⟩
  ·rcases hr with hr | hr
   ·left; unfold noRefs at hr; rw [Bool.and_eq_true] at hr; exact hr.1
   ·right; exact hr
  ·rcases hr with hr | hr
   ·left; unfold noRefs at hr; rw [Bool.and_eq_true] at hr; exact hr.2
   ·right; exact hr
end
end
end Go.Proofs.YtonpnjfclelpiaaGreatM
