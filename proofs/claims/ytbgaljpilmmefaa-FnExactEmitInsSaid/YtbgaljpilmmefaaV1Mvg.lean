import Derived.Test.YtbgaljpilmmefaaV1Mvf
/- Calls by value. -/
namespace Go.Proofs.YtbgaljpilmmefaaM
open Go
set_option linter.unusedVariables false
set_option linter.unusedSimpArgs false

/-- What a call makes of what it is given, by value: d, and outs of what was given. -/
def C2 (CR : Rel) (f : FuncId) (ds : List DV) (d : DV) (outs : List DV) : Prop := ∀ (h : Hp) (ow : Nat → Ow) (vs : List Value),
  vs.length = ds.length → (∀ i d v, ds[i]? = some d → vs[i]? = some v → VRc h ow h.next (GB + i, []) d v) → (∀ n m p z k z' k', ow n = .of p z k → ow m = .of p z' k' → n = m) → (∀ n, h.blk n = none → ow n = .no) → (∀ n p z k, ow n = .of p z k → GB ≤ p.1) → (∀ n, h.next ≤ n → h.blk n = none) →
  ∃ v h' ow', CR f vs h v h' ∧ Frm h ow h' ow' ∧ (∀ n, h'.next ≤ n → h'.blk n = none) ∧ (∀ n m p z k z' k', ow' n = .of p z k → ow' m = .of p z' k' → n = m) ∧ (∀ n, h'.blk n = none → ow' n = .no) ∧ VR2 h' ow' h'.next (LB, []) d v ∧ ∀ i o v, outs[i]? = some o → vs[i]? = some v → VRc h' ow' h'.next (GB + i, []) o v

/-- Which parameter a register goes to, and back. -/
def ix : List (Nat × Nat) → Nat → Option Nat
  | [], _ => none
  | (r, i) :: l, q => if q = r then some i else ix l q
def xi : List (Nat × Nat) → Nat → Option Nat
  | [], _ => none
  | (r, i) :: l, j => if j = i then some r else xi l j
def ok2 : List (Nat × Nat) → Bool
  | [] => true
  | (r, i) :: l => (ix l r).isNone && (xi l i).isNone && ok2 l
theorem ixi : ∀ {l : List (Nat × Nat)}, ok2 l = true → ∀ r i, ix l r = some i ↔ xi l i = some r
  | [], _, r, i => by simp [ix, xi]
  | (a, b) :: l, h, r, i => by
    unfold ok2 at h
    simp only [Bool.and_eq_true, Option.isNone_iff_eq_none] at h
    obtain ⟨⟨h1, h2⟩, h3⟩ := h
    have ih := ixi h3 r i
    unfold ix xi
    by_cases hr : r = a
    · by_cases hi : i = b
      · subst hr; subst hi; simp
      · subst hr
        rw [if_pos rfl, if_neg hi]
        constructor
        · intro hh; injection hh with hh; exact absurd hh.symm hi
        · intro hh; rw [← ih] at hh; rw [h1] at hh; cases hh
    · by_cases hi : i = b
      · subst hi
        rw [if_neg hr, if_pos rfl]
        constructor
        · intro hh; rw [ih] at hh; rw [h2] at hh; cases hh
        · intro hh; injection hh with hh; exact absurd hh.symm hr
      · rw [if_neg hr, if_neg hi]; exact ih

def owC (mv : List (Nat × Nat)) (L : List Pt) (ow : Nat → Ow) : Nat → Ow := fun n => match ow n with
  | .of p z k => match ix mv p.1 with
    | some i => .of (GB + i, p.2) z k
    | none => if L.any (fun q => belB q p) = true then .fz else .no
  | o => o
def bkO (mv : List (Nat × Nat)) (dst : Option Nat) : Ow → Ow
  | .of p z k => if p.1 = LB then (match dst with | some r => .of (r, p.2) z k | none => .no) else if GB ≤ p.1 then (match xi mv (p.1 - GB) with | some r => .of (r, p.2) z k | none => .no) else .no
  | o => o
def owR (mv : List (Nat × Nat)) (dst : Option Nat) (N : Nat) (ow ow' : Nat → Ow) : Nat → Ow := fun n => if n < N then (match ow n with
    | .of p z k => if (ix mv p.1).isSome = true then bkO mv dst (ow' n) else .of p z k
    | _ => bkO mv dst (ow' n)) else bkO mv dst (ow' n)

/- Nothing in it leads to frozen blocks. -/
mutual
def clF : FV → Bool
  | .row _ l => l.isEmpty
  | .fp _ => false
  | .fn _ a b => a.isEmpty && b.isEmpty
  | .agg l => clFs l
  | _ => true
def clFs : List FV → Bool
  | [] => true
  | d :: l => clF d && clFs l
end
mutual
def clD : DV → Bool
  | .fv v => clF v
  | .own _ l => clDs l
  | .box d => clD d
  | .agg l => clDs l
  | .tup l => clDs l
  | .hdr _ _ _ => false
  | .ptr _ _ _ => false
  | .junk _ => true
def clDs : List DV → Bool
  | [] => true
  | d :: l => clD d && clDs l
end
section
variable {h h' : Hp} {ow ow' : Nat → Ow} {B B' : Nat}
mutual
theorem FR.cl : ∀ {d : FV} {cs : List Value}, clF d = true → FR h ow B d cs → FR h' ow' B' d cs
  | .int _ _, cs, _, e => by unfold FR at *; exact e
  | .bool _, cs, _, e => by unfold FR at *; exact e
  | .str _, cs, _, e => by unfold FR at *; exact e
  | .nil, cs, _, e => by unfold FR at *; exact e
  | .nilp, cs, _, e => by unfold FR at *; exact e
  | .row z l, cs, hc, e => by
    unfold clF at hc
    rw [List.isEmpty_iff] at hc; subst hc
    unfold FR at e ⊢
    rcases e with e | ⟨n, o, c, css, h1, h2, h3, h4, h5⟩
    · exact .inl e
    exact .inr ⟨n, o, c, css, h1, h2, by unfold FRs at *; exact h3, h4, fun hh => absurd rfl hh⟩
  | .agg l, cs, hc, e => by
    unfold clF at hc
    unfold FR at e ⊢
    obtain ⟨css, h1, h2⟩ := e
    exact ⟨css, h1, FRs.cl hc h2⟩
  | .fp _, cs, hc, e => by unfold clF at hc; cases hc
  | .fn _ a b, cs, hc, e => by
    unfold clF at hc
    rw [Bool.and_eq_true, List.isEmpty_iff, List.isEmpty_iff] at hc
    obtain ⟨rfl, rfl⟩ := hc
    unfold FR at e ⊢
    obtain ⟨ca, cb, h1, h2, h3⟩ := e
    exact ⟨ca, cb, h1, by unfold FRs at *; exact h2, by unfold FRs at *; exact h3⟩
theorem FRs.cl : ∀ {l : List FV} {css : List (List Value)}, clFs l = true → FRs h ow B l css → FRs h' ow' B' l css
  | [], css, _, e => by unfold FRs at *; exact e
  | d :: l, css, hc, e => by
    unfold clFs at hc; rw [Bool.and_eq_true] at hc
    unfold FRs at e ⊢
    obtain ⟨c, r, h1, h2, h3⟩ := e
    exact ⟨c, r, h1, FR.cl hc.1 h2, FRs.cl hc.2 h3⟩
end
/-- What is owned goes elsewhere. -/
def MvO (h : Hp) (ow : Nat → Ow) (h' : Hp) (ow' : Nat → Ow) (p p' : Pt) : Prop := ∀ n w z k, ow n = .of (p.1, p.2 ++ w) z k → ow' n = .of (p'.1, p'.2 ++ w) z k ∧ h'.blk n = h.blk n
theorem MvO.down {p p' : Pt} (m : MvO h ow h' ow' p p') (w : List Nat) : MvO h ow h' ow' (p.1, p.2 ++ w) (p'.1, p'.2 ++ w) := fun n v z k hn => by
  have := m n (w ++ v) z k (by rw [← List.append_assoc]; exact hn)
  rw [← List.append_assoc] at this
  exact this
mutual
theorem DR.cl : ∀ {d : DV} {top : Bool} {p p' : Pt} {cs : List Value}, MvO h ow h' ow' p p' → B ≤ B' → clD d = true → DR h ow B top p d cs → DR h' ow' B' top p' d cs
  | .fv v, top, p, p', cs, m, hB, hc, e => by unfold clD at hc; unfold DR at *; exact e.cl hc
  | .own z l, top, p, p', cs, m, hB, hc, e => by
    unfold clD at hc
    unfold DR at e ⊢
    obtain ⟨n, css, h1, h0, h2, h3, h4, h5, h6⟩ := e
    obtain ⟨q1, q2⟩ := m n [] z l.length (by simpa using h3)
    exact ⟨n, css, h1, h0, Nat.lt_of_lt_of_le h2 hB, by simpa using q1, by rw [q2, h4], h5, DRs.cl m hB hc h6⟩
  | .agg l, top, p, p', cs, m, hB, hc, e => by
    unfold clD at hc
    unfold DR at e ⊢
    obtain ⟨css, h1, h2⟩ := e
    exact ⟨css, h1, DRs.cl m hB hc h2⟩
  | .box d, top, p, p', cs, m, hB, hc, e => by
    unfold clD at hc
    unfold DR at e ⊢
    obtain ⟨n, c, h1, h2, h3, h4, h5⟩ := e
    obtain ⟨q1, q2⟩ := m n [] 0 0 (by simpa using h3)
    exact ⟨n, c, h1, Nat.lt_of_lt_of_le h2 hB, by simpa using q1, by rw [q2, h4], DR.cl (m.down [0]) hB hc h5⟩
  | .hdr q z k, top, p, p', cs, m, hB, hc, e => by unfold clD at hc; cases hc
  | .ptr q w o, top, p, p', cs, m, hB, hc, e => by unfold clD at hc; cases hc
  | .tup _, top, p, p', cs, m, hB, hc, e => by unfold DR at *; exact e
  | .junk _, top, p, p', cs, m, hB, hc, e => by unfold DR at *; exact e
theorem DRs.cl : ∀ {l : List DV} {top : Bool} {p p' : Pt} {i : Nat} {css : List (List Value)}, MvO h ow h' ow' p p' → B ≤ B' → clDs l = true → DRs h ow B top p i l css → DRs h' ow' B' top p' i l css
  | [], top, p, p', i, css, m, hB, hc, e => by unfold DRs at *; exact e
  | d :: l, top, p, p', i, css, m, hB, hc, e => by
    unfold clDs at hc; rw [Bool.and_eq_true] at hc
    unfold DRs at e ⊢
    obtain ⟨c, r, h1, h2, h3⟩ := e
    exact ⟨c, r, h1, DR.cl (m.down [i]) hB hc.1 h2, DRs.cl m hB hc.2 h3⟩
end
theorem VRc.cl {d : DV} {p p' : Pt} {v : Value} (m : MvO h ow h' ow' p p') (hB : B ≤ B') (hc : clD d = true) (e : VRc h ow B p d v) : VRc h' ow' B' p' d v := by
  rcases e with hk | ⟨cs, h1, h2⟩
  · exact .inl hk
  · exact .inr ⟨cs, h1.cl m hB hc, h2⟩
theorem VRs.cl : ∀ {l : List DV} {i : Nat} {p p' : Pt} {vs : List Value}, MvO h ow h' ow' p p' → B ≤ B' → clDs l = true → VRs h ow B p i l vs → VRs h' ow' B' p' i l vs
  | [], i, p, p', vs, m, hB, hc, e => by unfold VRs at *; exact e
  | d :: l, i, p, p', vs, m, hB, hc, e => by
    unfold clDs at hc; rw [Bool.and_eq_true] at hc
    unfold VRs at e ⊢
    obtain ⟨c, r, h1, h2, h3⟩ := e
    exact ⟨c, r, h1, VRc.cl (m.down [i]) hB hc.1 h2, VRs.cl m hB hc.2 h3⟩
theorem VR2.cl {d : DV} {p p' : Pt} {v : Value} (m : MvO h ow h' ow' p p') (hB : B ≤ B') (hc : clD d = true) (e : VR2 h ow B p d v) : VR2 h' ow' B' p' d v := by
  rcases e with ⟨l, vs, rfl, h1, h2⟩ | e
  · unfold clD at hc; exact .inl ⟨_, vs, rfl, h1, h2.cl m hB hc⟩
  · exact .inr (e.cl m hB hc)
/-- What has no references goes elsewhere, frozen things and all. -/
theorem VRc.mv {d : DV} {p p' : Pt} {v : Value} (m : Mv h ow h' ow' p p') (hB : B ≤ B') (hr : noRef d = true) (e : VRc h ow B p d v) : VRc h' ow' B' p' d v := by
  rcases e with hk | ⟨cs, h1, h2⟩
  · exact .inl hk
  · exact .inr ⟨cs, h1.mv m (.inl hr) hB, h2⟩
theorem VRs.mv : ∀ {l : List DV} {i : Nat} {p p' : Pt} {vs : List Value}, Mv h ow h' ow' p p' → B ≤ B' → noRefs l = true → VRs h ow B p i l vs → VRs h' ow' B' p' i l vs
  | [], i, p, p', vs, m, hB, hc, e => by unfold VRs at *; exact e
  | d :: l, i, p, p', vs, m, hB, hc, e => by
    unfold noRefs at hc; rw [Bool.and_eq_true] at hc
    unfold VRs at e ⊢
    obtain ⟨c, r, h1, h2, h3⟩ := e
    exact ⟨c, r, h1, VRc.mv (m.down [i]) hB hc.1 h2, VRs.mv m hB hc.2 h3⟩
theorem VR2.mv {d : DV} {p p' : Pt} {v : Value} (m : Mv h ow h' ow' p p') (hB : B ≤ B') (hr : noRef d = true) (e : VR2 h ow B p d v) : VR2 h' ow' B' p' d v := by
  rcases e with ⟨l, vs, rfl, h1, h2⟩ | e
  · unfold noRef at hr; exact .inl ⟨_, vs, rfl, h1, h2.mv m hB hr⟩
  · exact .inr (e.mv m hB hr)
end

/-- How a parameter is given: 0: frozen; 1: lent; 2: to be turned. -/
structure Arg where
  d : DV
  lent : List Pt
  mv : Option Nat
def ar2 (st : St) (md : Nat) (x : Operand) : Option Arg := match ev2 st x with
  | .fv v => some ⟨.fv v, [], none⟩
  | .hdr q z k => if md = 2 then (if q.2 = [] then (get st q.1).bind fun nd => match nd with | .own _ _ => some ⟨nd, [], some q.1⟩ | _ => none else none)
    else if md = 1 then (node st q).bind fun nd => if isBox nd = true then none else (fzD nd).map fun v => ⟨.fv v, [q], none⟩ else none
  | .ptr q w o => if md = 2 then (if q.2 = [] ∧ w = [0] ∧ o = 0 then (get st q.1).bind fun nd => match nd with | .box _ => some ⟨nd, [], some q.1⟩ | _ => none else none)
    else if md = 1 then (if w = [0] ∧ o = 0 then (node st q).bind fun nd => if isBox nd = true then (fzD nd).map fun v => ⟨.fv v, [q], none⟩ else none else none) else none
  | _ => none
/-- Arguments, with the registers that go and the places that are lent. -/
def ars (st : St) (md : Nat → Nat) : Nat → List Operand → Option (List DV × List Pt × List (Nat × Nat))
  | _, [] => some ([], [], [])
  | i, x :: xs => (ar2 st (md i) x).bind fun a => (ars st md (i + 1) xs).map fun r => (a.d :: r.1, a.lent ++ r.2.1, (match a.mv with | some q => [(q, i)] | none => []) ++ r.2.2)

/-- A register's content behind a call. -/
def outD (outs : List DV) (i : Nat) : DV := (outs[i]?).getD (.junk 1)
def klC (mv : List (Nat × Nat)) (outs : List DV) (p : Pt) : Bool := match ix mv p.1 with
  | some i => !(p.2.isEmpty && isNode (outD outs i))
  | none => false
def rms : List (Nat × Nat) → St → St
  | [], st => st
  | (r, _) :: l, st => rms l (rm r st)
def adds (outs : List DV) : List (Nat × Nat) → St → St
  | [], st => st
  | (r, i) :: l, st => (r, outD outs i) :: adds outs l st
/-- The state behind a call. -/
def aft (mv : List (Nat × Nat)) (dst : Option Nat) (d : DV) (outs : List DV) (st : St) : St := match dst with
  | some r => (r, d) :: adds outs mv (klS (klC mv outs) (rms mv st))
  | none => adds outs mv (klS (klC mv outs) (rms mv st))
theorem get_rms : ∀ (mv : List (Nat × Nat)) (st : St) (q : Nat), get (rms mv st) q = if (ix mv q).isSome = true then none else get st q
  | [], st, q => by simp [rms, ix]
  | (r, i) :: l, st, q => by
    unfold rms ix
    rw [get_rms l, get_rm]
    by_cases hq : q = r
    · simp [hq]
    · simp [hq]
theorem get_adds (outs : List DV) : ∀ (mv : List (Nat × Nat)) (st : St) (q : Nat), get (adds outs mv st) q = match ix mv q with
    | some i => some (outD outs i)
    | none => get st q
  | [], st, q => by simp [adds, ix]
  | (r, i) :: l, st, q => by
    have e : get (adds outs ((r, i) :: l) st) q = if q = r then some (outD outs i) else get (adds outs l st) q := rfl
    have e2 : ix ((r, i) :: l) q = if q = r then some i else ix l q := rfl
    rw [e, e2, get_adds outs l st q]
    by_cases hq : q = r
    · simp [hq]
    · simp [hq]

section
variable {val val' : Nat → Value} {h h' : Hp} {ow ow' : Nat → Ow} {B : Nat} {st st' : St} {s : S} {G : Nat → Value}

theorem ix_mem {mv : List (Nat × Nat)} (hok : ok2 mv = true) {r i : Nat} (hm : (r, i) ∈ mv) : ix mv r = some i := by
  induction mv with
  | nil => simp at hm
  | cons a l ih =>
    obtain ⟨x, y⟩ := a
    have hok' := hok
    unfold ok2 at hok
    simp only [Bool.and_eq_true, Option.isNone_iff_eq_none] at hok
    unfold ix
    rcases List.mem_cons.1 hm with hm | hm
    · injection hm with h1 h2; subst h1; subst h2; rw [if_pos rfl]
    · have := ih hok.2 hm
      by_cases hr : r = x
      · subst hr; rw [hok.1.1] at this; cases this
      · rw [if_neg hr]; exact this
theorem owC_fz {mv : List (Nat × Nat)} {L : List Pt} {n : Nat} (hn : ow n = .fz) : owC mv L ow n = .fz := by unfold owC; rw [hn]
theorem owC_no {mv : List (Nat × Nat)} {L : List Pt} {n : Nat} (hn : ow n = .no) : owC mv L ow n = .no := by unfold owC; rw [hn]
theorem owC_mv {mv : List (Nat × Nat)} {L : List Pt} {n r i z k : Nat} {w : List Nat} (hn : ow n = .of (r, w) z k) (hi : ix mv r = some i) : owC mv L ow n = .of (GB + i, w) z k := by
  unfold owC; rw [hn]; simp only [hi]
theorem owC_lent {mv : List (Nat × Nat)} {L : List Pt} {n z k : Nat} {p q : Pt} (hn : ow n = .of p z k) (hi : ix mv p.1 = none) (hq : q ∈ L) (hb : Bel q p) : owC mv L ow n = .fz := by
  unfold owC; rw [hn]; simp only [hi]
  rw [if_pos]
  rw [List.any_eq_true]
  exact ⟨q, hq, belB_iff.2 hb⟩
theorem owC_other {mv : List (Nat × Nat)} {L : List Pt} {n z k : Nat} {p : Pt} (hn : ow n = .of p z k) (hi : ix mv p.1 = none) : owC mv L ow n = .fz ∨ owC mv L ow n = .no := by
  unfold owC; rw [hn]; simp only [hi]
  split
  · exact .inl rfl
  · exact .inr rfl
theorem owC_otherL {mv : List (Nat × Nat)} {n z k : Nat} {p : Pt} (hn : ow n = .of p z k) (hi : ix mv p.1 = none) : owC mv [] ow n = .no := by
  unfold owC; rw [hn]; simp only [hi]; rfl
theorem owC_of {mv : List (Nat × Nat)} {L : List Pt} {n z k : Nat} {p : Pt} (hh : owC mv L ow n = .of p z k) : ∃ r i w, ix mv r = some i ∧ p = (GB + i, w) ∧ ow n = .of (r, w) z k := by
  unfold owC at hh
  cases ho : ow n with
  | fz => rw [ho] at hh; cases hh
  | no => rw [ho] at hh; cases hh
  | of p' z' k' =>
    rw [ho] at hh
    simp only at hh
    split at hh
    · rename_i i hi
      injection hh with e1 e2 e3
      subst e2; subst e3
      exact ⟨p'.1, i, p'.2, hi, e1.symm, rfl⟩
    · split at hh <;> cases hh

/-- What is given, as the call sees it. -/
theorem ar2_ok (C1 : Core (vl s G) s.h ow s.h.next st) {md i : Nat} {x : Operand} {a : Arg} {mv : List (Nat × Nat)} {L : List Pt} (ha : ar2 st md x = some a) (hl : ∀ q ∈ a.lent, q ∈ L ∧ ix mv q.1 = none) (hm : ∀ r, a.mv = some r → ix mv r = some i) :
    VRc s.h (owC mv L ow) s.h.next (GB + i, []) a.d (s.ev x) ∧ ∀ r, a.mv = some r → vl s G r = s.ev x ∧ ∃ nd, get st r = some nd ∧ isNode nd = true := by
  have hx := (ev2_ok C1 x (0, [])).1
  have hfz : FzSame s.h ow s.h (owC mv L ow) := fun n hn => ⟨owC_fz hn, rfl⟩
  unfold ar2 at ha
  split at ha
  · rename_i v hv
    injection ha with ha; subst ha
    rw [hv] at hx
    rcases hx with ⟨k, hk⟩ | ⟨cs, e1, e2⟩
    · cases hk
    · exact ⟨.inr ⟨cs, by unfold DR at *; exact e1.mono hfz (Nat.le_refl _), e2⟩, fun r hr => by cases hr⟩
  · rename_i q z k hv
    rw [hv] at hx
    rcases hx with ⟨k', hk⟩ | ⟨cs, e1, e2⟩
    · cases hk
    · split at ha
      · split at ha
        · rename_i hq
          obtain ⟨nd, h1, h2⟩ := Option.bind_eq_some_iff.1 ha
          split at h2
          · rename_i z' l'
            injection h2 with h2; subst h2
            have hi := hm q.1 rfl
            obtain ⟨cs', h3, h4⟩ := at_reg C1 (w := []) h1 rfl rfl
            have hqe : q = (q.1, []) := by obtain ⟨q1, q2⟩ := q; simp only at hq; subst hq; rfl
            rw [hqe] at e1
            obtain ⟨rfl, _, _⟩ := ref_own C1 e1 h3
            have hval : s.ev x = vl s G q.1 := by rw [e2, h4]; rfl
            refine ⟨.inr ⟨cs, ?_, e2⟩, fun r hr => by injection hr with hr; subst hr; exact ⟨hval.symm, _, h1, rfl⟩⟩
            exact (h3.topI (top' := false) rfl).mv ⟨hfz, fun n w z k hn => ⟨by have := owC_mv (L := L) hn hi; simpa using this, rfl⟩⟩ (.inr ⟨fun x => (by cases x), fun _ _ _ _ hh => Bool.noConfusion hh⟩) (Nat.le_refl _)
          · cases h2
        · cases ha
      · split at ha
        · obtain ⟨nd, h1, h2⟩ := Option.bind_eq_some_iff.1 ha
          split at h2
          · cases h2
          · rename_i hb
            obtain ⟨v, h3, rfl⟩ := Option.map_eq_some_iff.1 h2
            obtain ⟨hq1, hq2⟩ := hl q (by simp)
            obtain ⟨hc, hdn⟩ := node_dr C1 h1
            obtain ⟨_, _, _, _, hnode⟩ := node_at h1
            have hfr : FR s.h (owC mv L ow) s.h.next v hc := fz_ok hfz (fun n w z k hn => ⟨owC_lent hn hq2 hq1 (Bel.ext q w), rfl⟩) hdn h3
            refine ⟨.inr ⟨cs, ?_, ?_⟩, fun r hr => by cases hr⟩
            · cases nd with
              | own z' l' => obtain ⟨rfl, _, _⟩ := ref_own C1 e1 hdn; unfold DR; exact hfr
              | box _ => exact absurd rfl hb
              | _ => cases hnode
            · rw [e2]
              have : isAgg (.fv v) = isAgg nd := fz_agg h3
              rw [this]
              cases nd <;> first | rfl | cases hnode
        · cases ha
  · rename_i q w o hv
    rw [hv] at hx
    rcases hx with ⟨k', hk⟩ | ⟨cs, e1, e2⟩
    · cases hk
    · split at ha
      · split at ha
        · rename_i hq
          obtain ⟨hq, hw, ho⟩ := hq
          obtain ⟨nd, h1, h2⟩ := Option.bind_eq_some_iff.1 ha
          split at h2
          · rename_i d'
            injection h2 with h2; subst h2
            have hi := hm q.1 rfl
            obtain ⟨cs', h3, h4⟩ := at_reg C1 (w := []) h1 rfl rfl
            have hqe : q = (q.1, []) := by obtain ⟨q1, q2⟩ := q; simp only at hq; subst hq; rfl
            rw [hqe] at e1
            have hcs := ptr_own C1 e1 h3 ho
            subst hcs
            have hval : s.ev x = vl s G q.1 := by rw [e2, h4]; rfl
            refine ⟨.inr ⟨cs, ?_, e2⟩, fun r hr => by injection hr with hr; subst hr; exact ⟨hval.symm, _, h1, rfl⟩⟩
            exact (h3.topI (top' := false) rfl).mv ⟨hfz, fun n w z k hn => ⟨by have := owC_mv (L := L) hn hi; simpa using this, rfl⟩⟩ (.inr ⟨fun x => (by cases x), fun _ _ _ _ hh => Bool.noConfusion hh⟩) (Nat.le_refl _)
          · cases h2
        · cases ha
      · split at ha
        · split at ha
          · rename_i hwo
            obtain ⟨nd, h1, h2⟩ := Option.bind_eq_some_iff.1 ha
            split at h2
            · rename_i hb
              obtain ⟨v, h3, rfl⟩ := Option.map_eq_some_iff.1 h2
              obtain ⟨hq1, hq2⟩ := hl q (by simp)
              obtain ⟨hc, hdn⟩ := node_dr C1 h1
              obtain ⟨_, _, _, _, hnode⟩ := node_at h1
              have hfr : FR s.h (owC mv L ow) s.h.next v hc := fz_ok hfz (fun n w z k hn => ⟨owC_lent hn hq2 hq1 (Bel.ext q w), rfl⟩) hdn h3
              refine ⟨.inr ⟨cs, ?_, ?_⟩, fun r hr => by cases hr⟩
              · cases nd with
                | box _ => have := ptr_own C1 e1 hdn hwo.2; rw [this]; unfold DR; exact hfr
                | _ => cases hb
              · rw [e2]
                have : isAgg (.fv v) = isAgg nd := fz_agg h3
                rw [this]
                cases nd <;> first | rfl | cases hnode
            · cases h2
          · cases ha
        · cases ha
  · cases ha
theorem ars_ok (C1 : Core (vl s G) s.h ow s.h.next st) {md : Nat → Nat} {mv : List (Nat × Nat)} {L : List Pt} (hok : ok2 mv = true) (hL : ∀ q ∈ L, ix mv q.1 = none) : ∀ {xs : List Operand} {i : Nat} {ds : List DV} {L' : List Pt} {mv' : List (Nat × Nat)}, ars st md i xs = some (ds, L', mv') → (∀ q ∈ L', q ∈ L) → (∀ e ∈ mv', e ∈ mv) →
    ds.length = xs.length ∧ (∀ j d v, ds[j]? = some d → (xs.map s.ev)[j]? = some v → VRc s.h (owC mv L ow) s.h.next (GB + (i + j), []) d v) ∧ ∀ r k, (r, k) ∈ mv' → ∃ j, k = i + j ∧ (∃ v, (xs.map s.ev)[j]? = some v ∧ vl s G r = v) ∧ ∃ nd, get st r = some nd ∧ isNode nd = true
  | [], i, ds, L', mv', h, _, _ => by
    unfold ars at h; injection h with h; injection h with h1 h2; injection h2 with h2 h3; subst h1; subst h2; subst h3
    exact ⟨rfl, fun j d v hd => by simp at hd, fun r k hk => by simp at hk⟩
  | x :: xs, i, ds, L', mv', h, hL1, hm1 => by
    unfold ars at h
    obtain ⟨a, h1, h2⟩ := Option.bind_eq_some_iff.1 h
    obtain ⟨⟨ds2, L2, mv2⟩, h3, h4⟩ := Option.map_eq_some_iff.1 h2
    injection h4 with h4 h5; injection h5 with h5 h6; subst h4; subst h5; subst h6
    obtain ⟨k1, k2⟩ := ar2_ok C1 (i := i) (mv := mv) (L := L) h1 (fun q hq => by
      have := hL1 q (List.mem_append_left _ hq)
      exact ⟨this, hL q this⟩) (fun r hr => by
      refine ix_mem hok (hm1 _ (List.mem_append_left _ ?_))
      rw [hr]; simp)
    obtain ⟨q1, q2, q3⟩ := ars_ok C1 hok hL h3 (fun q hq => hL1 q (List.mem_append_right _ hq)) (fun e he => hm1 e (List.mem_append_right _ he))
    refine ⟨by simp [q1], fun j d v hd hv => ?_, fun r k hk => ?_⟩
    · cases j with
      | zero => simp at hd hv; subst hd; subst hv; exact k1
      | succ j =>
        simp only [List.getElem?_cons_succ, List.map_cons] at hd hv
        have := q2 j d v hd hv
        rw [show i + (j + 1) = i + 1 + j by omega]; exact this
    · rcases List.mem_append.1 hk with hk | hk
      · cases hamv : a.mv with
        | none => rw [hamv] at hk; simp at hk
        | some r0 =>
          rw [hamv] at hk
          simp only [List.mem_singleton] at hk
          injection hk with e1 e2; subst e1; subst e2
          obtain ⟨k3, k4⟩ := k2 r hamv
          exact ⟨0, rfl, ⟨_, by simp, k3⟩, k4⟩
      · obtain ⟨j, e1, ⟨v, e2, e3⟩, e4⟩ := q3 r k hk
        exact ⟨j + 1, by omega, ⟨v, by simpa using e2, e3⟩, e4⟩
theorem ix_of_mem {mv : List (Nat × Nat)} {r i : Nat} (h : ix mv r = some i) : (r, i) ∈ mv := by
  induction mv with
  | nil => cases h
  | cons a l ih =>
    obtain ⟨x, y⟩ := a
    unfold ix at h
    split at h
    · rename_i hx; injection h with h; subst h; subst hx; simp
    · exact List.mem_cons_of_mem _ (ih h)
end

section
variable {CR : Rel} {h0 : Hp} {ow0 ow : Nat → Ow} {G : Nat → Value} {s : S} {st : St}

/-- A CALL. -/
theorem call_ok {r0 : Nat} {dst : Option Nat} {md : Nat → Nat} {xs : List Operand} {ds outs : List DV} {d : DV} {L : List Pt} {mv : List (Nat × Nat)} {f : FuncId} {bs : List FV} {vb : List Value} (C1 : Core (vl s G) s.h ow s.h.next st) (hbl : vb.length = bs.length) (hbs : ∀ (j : Nat) (b : FV) (v : Value), bs[j]? = some b → vb[j]? = some v → ∃ cs, FR s.h ow s.h.next b cs ∧ v = mkv (isAggF b) cs) (htop : ∀ n, s.h.next ≤ n → s.h.blk n = none)
    (hfree : ∀ n p z k, ow n = .of p z k → p.1 ≠ r0 ∧ p.1 ≠ LB) (hdst : dst = none ∨ (dst = some r0 ∧ r0 < LB)) (hg : get st r0 = none) (ha : ars st md 0 xs = some (ds, L, mv)) (hok : ok2 mv = true) (hL : ∀ q ∈ L, ix mv q.1 = none) (hnr : noRef d = true) (hno : noRefs outs = true) (hcl : L = [] ∨ (clD d = true ∧ clDs outs = true)) (hc : C2 CR f (ds ++ bs.map .fv) d outs) :
    ∃ v h' ow2, CR f (xs.map s.ev ++ vb) s.h v h' ∧ s.h.next ≤ h'.next ∧ (∀ n, n < s.h.next → s.h.blk n = none → h'.blk n = none) ∧ (∀ n, n < s.h.next → (ow n = .fz ∨ ow n = .no) → ow2 n = ow n ∧ h'.blk n = s.h.blk n) ∧ (mv = [] → ∀ n, n < s.h.next → h'.blk n = s.h.blk n) ∧ (∀ n, h'.next ≤ n → h'.blk n = none) ∧
      Core (vl ((s.hp h').put dst v) G) h' ow2 h'.next (aft mv dst d outs st) := by
  obtain ⟨a1, a2, a3⟩ := ars_ok C1 hok hL (i := 0) ha (fun q hq => hq) (fun e he => he)
  have hixi := ixi hok
  have hinjC : ∀ n m p z k z' k', owC mv L ow n = .of p z k → owC mv L ow m = .of p z' k' → n = m := by
    intro n m p z k z' k' h1 h2
    obtain ⟨r, i, w, e1, e2, e3⟩ := owC_of h1
    obtain ⟨r', i', w', f1, f2, f3⟩ := owC_of h2
    rw [e2] at f2; injection f2 with f2 f4
    have : i = i' := by omega
    subst this; subst f4
    have hr : some r = some r' := by rw [← (hixi r i).1 e1, ← (hixi r' i).1 f1]
    injection hr with hr; subst hr
    exact C1.inj _ _ _ _ _ _ _ e3 f3
  obtain ⟨v, h', ow', c1, c2, c3, c4, c5, c6, c7⟩ := hc s.h (owC mv L ow) (xs.map s.ev ++ vb) (by simp [a1, hbl]) (fun i d v hd hv => by
    rcases Nat.lt_or_ge i ds.length with hl | hl
    · rw [List.getElem?_append_left hl] at hd
      rw [List.getElem?_append_left (by simp; omega)] at hv
      have := a2 i d v hd hv; rw [Nat.zero_add] at this; exact this
    · rw [List.getElem?_append_right hl, List.getElem?_map] at hd
      rw [List.getElem?_append_right (by simp; omega)] at hv
      obtain ⟨b, hb1, rfl⟩ := Option.map_eq_some_iff.1 hd
      rw [List.length_map, ← a1] at hv
      obtain ⟨cs, e1, e2⟩ := hbs _ b v hb1 hv
      exact .inr ⟨cs, by unfold DR; exact e1.mono (fun n hn => ⟨owC_fz hn, rfl⟩) (Nat.le_refl _), e2⟩) hinjC (fun n hn => owC_no (C1.nn n hn)) (fun n p z k hh => by
    obtain ⟨r, i, w, _, rfl, _⟩ := owC_of hh
    exact Nat.le_add_right _ _) htop
  -- who owns what behind the call
  have hlt : ∀ n p z k, ow n = .of p z k → n < s.h.next := fun n p z k hn => Nat.lt_of_not_le fun hle => by
    have := C1.nn n (htop n hle)
    rw [hn] at this; cases this
  have hun : ∀ n p z k, ow n = .of p z k → ix mv p.1 = none → owR mv dst s.h.next ow ow' n = .of p z k ∧ h'.blk n = s.h.blk n := by
    intro n p z k hn hi
    have hl := hlt n p z k hn
    refine ⟨by unfold owR; rw [if_pos hl, hn]; simp only [hi]; simp, ?_⟩
    rcases owC_other (L := L) hn hi with hh | hh
    · exact (c2.fz n hl hh).2
    · exact (c2.no n hl hh).2
  have hother : ∀ n, n < s.h.next → (∀ p z k, ow n = .of p z k → ix mv p.1 ≠ none) → owR mv dst s.h.next ow ow' n = bkO mv dst (ow' n) := by
    intro n hn hp
    unfold owR; rw [if_pos hn]
    cases ho : ow n with
    | fz => rfl
    | no => rfl
    | of p z k =>
      simp only
      have := hp p z k ho
      cases hi : ix mv p.1 with
      | none => exact absurd hi this
      | some i => simp
  have hnew : ∀ n, s.h.next ≤ n → owR mv dst s.h.next ow ow' n = bkO mv dst (ow' n) := by
    intro n hn; unfold owR; rw [if_neg (by omega)]
  -- an owned block of the call's is no other's
  have hback : ∀ n p z k, ow' n = .of p z k → owR mv dst s.h.next ow ow' n = bkO mv dst (.of p z k) := by
    intro n p z k hn
    rcases Nat.lt_or_ge n s.h.next with hl | hl
    · rw [hother n hl, hn]
      intro p' z' k' ho hi
      rcases owC_other (L := L) ho hi with hh | hh
      · rw [(c2.fz n hl hh).1] at hn; cases hn
      · rw [(c2.no n hl hh).1] at hn; cases hn
    · rw [hnew n hl, hn]
  have hfzno : ∀ n, n < s.h.next → (ow n = .fz ∨ ow n = .no) → owR mv dst s.h.next ow ow' n = ow n ∧ h'.blk n = s.h.blk n := by
    intro n hl hh
    rw [hother n hl (fun p z k ho => by rcases hh with hh | hh <;> (rw [hh] at ho; cases ho))]
    rcases hh with hh | hh
    · obtain ⟨q1, q2⟩ := c2.fz n hl (owC_fz hh)
      exact ⟨by rw [q1, hh]; rfl, q2⟩
    · obtain ⟨q1, q2⟩ := c2.no n hl (owC_no hh)
      exact ⟨by rw [q1, hh]; rfl, q2⟩
  refine ⟨v, h', owR mv dst s.h.next ow ow', c1, c2.nx, c2.nr, hfzno, ?_, c3, ?_⟩
  · intro hmv n hl
    subst hmv
    cases ho : ow n with
    | fz => exact (hfzno n hl (.inl ho)).2
    | no => exact (hfzno n hl (.inr ho)).2
    | of p z k => exact (hun n p z k ho rfl).2
  · have hLBr : r0 ≠ LB ∨ dst = none := by
      rcases hdst with hd | ⟨_, hd⟩
      · exact .inr hd
      · exact .inl (by omega)
    -- going back
    have bk_cases : ∀ n p z k, owR mv dst s.h.next ow ow' n = .of p z k → (ow n = .of p z k ∧ ix mv p.1 = none) ∨ (∃ r w, dst = some r ∧ p = (r, w) ∧ ow' n = .of (LB, w) z k) ∨ (∃ r i w, ix mv r = some i ∧ p = (r, w) ∧ ow' n = .of (GB + i, w) z k) := by
      intro n p z k hh
      have key : ∀ o, bkO mv dst o = .of p z k → (∃ r w, dst = some r ∧ p = (r, w) ∧ o = .of (LB, w) z k) ∨ (∃ r i w, ix mv r = some i ∧ p = (r, w) ∧ o = .of (GB + i, w) z k) := by
        intro o ho
        cases o with
        | fz => cases ho
        | no => cases ho
        | of p' z' k' =>
          obtain ⟨p1, p2⟩ := p'
          simp only [bkO] at ho
          split at ho
          · rename_i hp1
            subst hp1
            split at ho
            · rename_i r
              injection ho with e1 e2 e3
              subst e2; subst e3
              exact .inl ⟨_, p2, rfl, e1.symm, rfl⟩
            · cases ho
          · split at ho
            · rename_i hg2
              split at ho
              · rename_i r hr
                injection ho with e1 e2 e3
                subst e2; subst e3
                exact .inr ⟨r, p1 - GB, p2, (hixi r _).2 hr, e1.symm, by rw [Nat.add_sub_cancel' hg2]⟩
              · cases ho
            · cases ho
      rcases Nat.lt_or_ge n s.h.next with hl | hl
      · unfold owR at hh
        rw [if_pos hl] at hh
        cases ho : ow n with
        | fz => rw [ho] at hh; exact .inr (key _ hh)
        | no => rw [ho] at hh; exact .inr (key _ hh)
        | of p' z' k' =>
          rw [ho] at hh
          simp only at hh
          split at hh
          · exact .inr (key _ hh)
          · rename_i hi
            injection hh with e1 e2 e3
            subst e1; subst e2; subst e3
            exact .inl ⟨rfl, by simpa using hi⟩
      · rw [hnew n hl] at hh; exact .inr (key _ hh)
    have bk_dst : ∀ n r w z k, dst = some r → ow' n = .of (LB, w) z k → owR mv dst s.h.next ow ow' n = .of (r, w) z k := by
      intro n r w z k hd hn
      rw [hback n _ z k hn]; simp [bkO, hd]
    have bk_mv : ∀ n r i w z k, ix mv r = some i → ow' n = .of (GB + i, w) z k → owR mv dst s.h.next ow ow' n = .of (r, w) z k := by
      intro n r i w z k hi hn
      rw [hback n _ z k hn]
      have h1 : GB + i ≠ LB := by unfold GB LB; omega
      simp only [bkO]
      rw [if_neg h1, if_pos (Nat.le_add_right _ _), Nat.add_sub_cancel_left, (hixi r i).1 hi]
    have hmvreg : ∀ r i, ix mv r = some i → ∃ nd, get st r = some nd ∧ isNode nd = true := by
      intro r i hi
      obtain ⟨j, _, _, nd, h1, h2⟩ := a3 r i (ix_of_mem hi)
      exact ⟨nd, h1, h2⟩
    have hmvr0 : ix mv r0 = none := by
      cases hi : ix mv r0 with
      | none => rfl
      | some i => obtain ⟨nd, h1, _⟩ := hmvreg r0 i hi; rw [hg] at h1; cases h1
    have hfzL : L = [] → FzSame h' ow' h' (owR mv dst s.h.next ow ow') := by
      intro hLe n hn
      subst hLe
      refine ⟨?_, rfl⟩
      rcases Nat.lt_or_ge n s.h.next with hl | hl
      · rw [hother n hl, hn]; rfl
        intro p z k ho hi
        have := owC_otherL ho hi
        rw [(c2.no n hl this).1] at hn; cases hn
      · rw [hnew n hl, hn]; rfl
    have hvalr : ∀ q, (∀ r, dst = some r → q ≠ r) → vl ((s.hp h').put dst v) G q = vl s G q := by
      intro q hq
      cases hd : dst with
      | none => rfl
      | some r => rw [vl_put_ne q (hq r hd)]; rfl
    -- the registers that were given
    have hmvs : ∀ r i, ix mv r = some i → VR2 h' (owR mv dst s.h.next ow ow') h'.next (r, []) (outD outs i) (vl s G r) := by
      intro r i hi
      obtain ⟨j, e1, ⟨v2, e2', e3⟩, _⟩ := a3 r i (ix_of_mem hi)
      rw [Nat.zero_add] at e1; subst e1
      have e2 : (xs.map s.ev ++ vb)[i]? = some v2 := by rw [List.getElem?_append_left (List.getElem?_eq_some_iff.1 e2').1]; exact e2'
      unfold outD
      cases ho : outs[i]? with
      | none => exact .inr (.inl ⟨1, rfl⟩)
      | some o =>
        have h1 := c7 i o v2 ho e2
        rw [← e3] at h1
        simp only [Option.getD_some]
        right
        rcases hcl with hcl | ⟨_, hcl⟩
        · exact h1.mv ⟨hfzL hcl, fun n w z k hn => ⟨by have := bk_mv n r i w z k hi (by simpa using hn); simpa using this, rfl⟩⟩ (Nat.le_refl _) (noRefs_get hno ho)
        · refine h1.cl (fun n w z k hn => ⟨by have := bk_mv n r i w z k hi (by simpa using hn); simpa using this, rfl⟩) (Nat.le_refl _) ?_
          have : ∀ {l : List DV} {j : Nat} {d : DV}, clDs l = true → l[j]? = some d → clD d = true := by
            intro l
            induction l with
            | nil => intro j d _ hj; simp at hj
            | cons a l ih =>
              intro j d hl hj
              unfold clDs at hl; rw [Bool.and_eq_true] at hl
              cases j with
              | zero => simp at hj; subst hj; exact hl.1
              | succ j => simp at hj; exact ih hl.2 hj
          exact this hcl ho
    -- the core without the result
    have main : Core (vl ((s.hp h').put dst v) G) h' (owR mv dst s.h.next ow ow') h'.next (adds outs mv (klS (klC mv outs) (rms mv st))) := by
      refine ⟨fun q x hx => ?_, ?_, ?_, fun q x hx => ?_⟩
      · rw [get_adds] at hx
        cases hi : ix mv q with
        | some i =>
          rw [hi] at hx; injection hx with hx; subst hx
          rw [hvalr q]
          · exact hmvs q i hi
          · intro r hr hq; subst hq
            rcases hdst with hd | ⟨hd, _⟩
            · rw [hd] at hr; cases hr
            · rw [hd] at hr; injection hr with hr; subst hr; rw [hmvr0] at hi; cases hi
        | none =>
          rw [hi] at hx
          simp only at hx
          rw [get_klS, get_rms, if_neg (by rw [hi]; simp)] at hx
          obtain ⟨x0, hx0, rfl⟩ := Option.map_eq_some_iff.1 hx
          rw [hvalr q]
          · have hfz : FzSame s.h ow h' (owR mv dst s.h.next ow ow') := fun n hn => by
              have hl : n < s.h.next := Nat.lt_of_not_le fun hle => by
                have := C1.nn n (htop n hle)
                rw [hn] at this; cases this
              obtain ⟨q1, q2⟩ := hfzno n hl (.inl hn)
              exact ⟨q1.trans hn, q2⟩
            refine (C1.regs q x0 hx0).kl ⟨hfz, fun n p z k hk hn => ?_⟩ c2.nx ⟨hfz, fun n w z k hn => hun n _ z k hn hi⟩
            cases hip : ix mv p.1 with
            | none => exact (hun n p z k hn hip).1
            | some i =>
              unfold klC at hk
              rw [hip] at hk
              simp only [Bool.not_eq_false', Bool.and_eq_true, List.isEmpty_iff] at hk
              obtain ⟨hp2, hnd⟩ := hk
              -- its header is as it was
              obtain ⟨j, e1, ⟨v2, e2', e3⟩, nd, e4, e5⟩ := a3 p.1 i (ix_of_mem hip)
              rw [Nat.zero_add] at e1; subst e1
              have e2 : (xs.map s.ev ++ vb)[i]? = some v2 := by rw [List.getElem?_append_left (List.getElem?_eq_some_iff.1 e2').1]; exact e2'
              obtain ⟨cs, k1, k2⟩ := at_reg C1 (w := []) e4 rfl e5
              unfold outD at hnd
              cases ho : outs[i]? with
              | none => rw [ho] at hnd; cases hnd
              | some o =>
                rw [ho] at hnd
                simp only [Option.getD_some] at hnd
                have h1 := c7 i o v2 ho e2
                rcases h1 with ⟨kk, hkk⟩ | ⟨cs2, q1, q2⟩
                · subst hkk; cases hnd
                · have hpe : p = (p.1, []) := by obtain ⟨p1, p2⟩ := p; simp only at hp2; subst hp2; rfl
                  have hbk : ∀ z' k', ow' n = .of (GB + i, []) z' k' → z' = z → k' = k → owR mv dst s.h.next ow ow' n = .of p z k := by
                    rintro z' k' hh rfl rfl
                    rw [hpe]; exact bk_mv n p.1 i [] z' k' hip hh
                  cases nd with
                  | own z1 l1 =>
                    obtain ⟨n1, css, b1, _, _, b2, _⟩ := own_blk k1
                    rw [hpe] at hn
                    obtain rfl := C1.inj _ _ _ _ _ _ _ hn b2
                    rw [hn] at b2; injection b2 with _ b3 b4
                    cases o with
                    | own z2 l2 =>
                      obtain ⟨n2, css2, d1, _, _, d2, _⟩ := own_blk q1
                      have hv2 : v2 = .slice (some ⟨n2, 0, none⟩) l2.length (U z2) := by rw [q2, d1]; rfl
                      have hv1 : vl s G p.1 = .slice (some ⟨n, 0, none⟩) l1.length (U z1) := by rw [k2, b1]; rfl
                      rw [e3, hv2] at hv1
                      injection hv1 with x1 x2 x3
                      injection x1 with x1; injection x1 with x1
                      have x4 : z2 = z1 := by unfold U at x3; omega
                      subst x1; subst x4
                      exact hbk _ _ d2 b3.symm (by rw [x2]; exact b4.symm)
                    | box _ =>
                      obtain ⟨n2, css2, d1, _⟩ := box_blk q1
                      have hv2 : v2 = .pointer (some ⟨n2, 0, none⟩) := by rw [q2, d1]; rfl
                      have hv1 : vl s G p.1 = .slice (some ⟨n, 0, none⟩) l1.length (U z1) := by rw [k2, b1]; rfl
                      rw [e3, hv2] at hv1; cases hv1
                    | _ => cases hnd
                  | box d1' =>
                    obtain ⟨n1, c, b1, _, b2, _⟩ := box_blk k1
                    rw [hpe] at hn
                    obtain rfl := C1.inj _ _ _ _ _ _ _ hn b2
                    rw [hn] at b2; injection b2 with _ b3 b4
                    cases o with
                    | own z2 l2 =>
                      obtain ⟨n2, css2, d1, _⟩ := own_blk q1
                      have hv2 : v2 = .slice (some ⟨n2, 0, none⟩) l2.length (U z2) := by rw [q2, d1]; rfl
                      have hv1 : vl s G p.1 = .pointer (some ⟨n, 0, none⟩) := by rw [k2, b1]; rfl
                      rw [e3, hv2] at hv1; cases hv1
                    | box _ =>
                      obtain ⟨n2, c2', d1, _, d2, _⟩ := box_blk q1
                      have hv2 : v2 = .pointer (some ⟨n2, 0, none⟩) := by rw [q2, d1]; rfl
                      have hv1 : vl s G p.1 = .pointer (some ⟨n, 0, none⟩) := by rw [k2, b1]; rfl
                      rw [e3, hv2] at hv1
                      injection hv1 with x1; injection x1 with x1; injection x1 with x1
                      subst x1
                      exact hbk _ _ d2 b3.symm b4.symm
                    | _ => cases hnd
                  | _ => cases e5
          · intro r hr hq; subst hq
            rcases hdst with hd | ⟨hd, _⟩
            · rw [hd] at hr; cases hr
            · rw [hd] at hr; injection hr with hr; subst hr; rw [hg] at hx0; cases hx0
      · intro n m p z k z' k' h1 h2
        rcases bk_cases n p z k h1 with ⟨e1, e2⟩ | ⟨r, w, e1, e2, e3⟩ | ⟨r, i, w, e1, e2, e3⟩ <;> rcases bk_cases m p z' k' h2 with ⟨f1, f2⟩ | ⟨r', w', f1, f2, f3⟩ | ⟨r', i', w', f1, f2, f3⟩
        · exact C1.inj _ _ _ _ _ _ _ e1 f1
        · exfalso
          rcases hdst with hd | ⟨hd, _⟩
          · rw [hd] at f1; cases f1
          · rw [hd] at f1; injection f1 with f1; subst f1
            exact (hfree _ _ _ _ e1).1 (by rw [f2])
        · rw [f2] at e2; simp only at e2; rw [f1] at e2; cases e2
        · exfalso
          rcases hdst with hd | ⟨hd, _⟩
          · rw [hd] at e1; cases e1
          · rw [hd] at e1; injection e1 with e1; subst e1
            exact (hfree _ _ _ _ f1).1 (by rw [e2])
        · rw [e2] at f2; injection f2 with _ f2; subst f2; exact c4 _ _ _ _ _ _ _ e3 f3
        · exfalso
          rw [e2] at f2; injection f2 with f2 _; subst f2
          rcases hdst with hd | ⟨hd, _⟩
          · rw [hd] at e1; cases e1
          · rw [hd] at e1; injection e1 with e1; subst e1; rw [hmvr0] at f1; cases f1
        · rw [e2] at f2; simp only at f2; rw [e1] at f2; cases f2
        · exfalso
          rw [e2] at f2; injection f2 with f2 _; subst f2
          rcases hdst with hd | ⟨hd, _⟩
          · rw [hd] at f1; cases f1
          · rw [hd] at f1; injection f1 with f1; subst f1; rw [hmvr0] at e1; cases e1
        · rw [e2] at f2; injection f2 with f2 f4; subst f2; subst f4
          rw [e1] at f1; injection f1 with f1; subst f1
          exact c4 _ _ _ _ _ _ _ e3 f3
      · intro n hn
        have h1 := c5 n hn
        rcases Nat.lt_or_ge n s.h.next with hl | hl
        · cases ho : ow n with
          | fz => rw [(hfzno n hl (.inl ho)).2] at hn; have := C1.nn n hn; rw [ho] at this; cases this
          | no => rw [(hfzno n hl (.inr ho)).1, ho]
          | of p z k =>
            cases hi : ix mv p.1 with
            | none => rw [(hun n p z k ho hi).2] at hn; have := C1.nn n hn; rw [ho] at this; cases this
            | some i =>
              rw [hother n hl, h1]; rfl
              intro p' z' k' ho'; rw [ho] at ho'; injection ho' with ho'; subst ho'; rw [hi]; simp
        · rw [hnew n hl, h1]; rfl
      · rw [get_adds] at hx
        cases hi : ix mv q with
        | some i => obtain ⟨nd, h1, _⟩ := hmvreg q i hi; exact C1.lim q nd h1
        | none =>
          rw [hi] at hx
          simp only at hx
          rw [get_klS, get_rms, if_neg (by rw [hi]; simp)] at hx
          obtain ⟨x0, hx0, _⟩ := Option.map_eq_some_iff.1 hx
          exact C1.lim q x0 hx0
    cases hd : dst with
    | none => rw [hd] at main; exact main
    | some r =>
      rw [hd] at main
      rcases hdst with hd2 | ⟨hd2, hlt2⟩
      · rw [hd2] at hd; cases hd
      · rw [hd] at hd2; injection hd2 with hd2; subst hd2
        refine main.add (by omega) ?_
        rw [vl_put hlt2]
        rcases hcl with hcl | ⟨hcl, _⟩
        · have := hfzL hcl
          rw [hd] at this
          exact c6.mv ⟨this, fun n w z k hn => ⟨by have := bk_dst n r w z k hd (by simpa using hn); rw [hd] at this; simpa using this, rfl⟩⟩ (Nat.le_refl _) hnr
        · exact c6.cl (fun n w z k hn => ⟨by have := bk_dst n r w z k hd (by simpa using hn); rw [hd] at this; simpa using this, rfl⟩) (Nat.le_refl _) hcl
end

end Go.Proofs.YtbgaljpilmmefaaM
