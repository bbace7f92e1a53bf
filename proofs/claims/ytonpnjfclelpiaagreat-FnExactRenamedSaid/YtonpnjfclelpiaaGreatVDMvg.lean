import Derived.Test.YtonpnjfclelpiaaGreatVDMvf
namespace Go.Proofs.YtonpnjfclelpiaaGreatM
open Go
set_option linter.unusedVariables false
set_option linter.unusedSimpArgs false
def C2 (CR : Rel) (f : FuncId) (ds : List DV) (d : DV) (outs : List DV) : Prop := ∀ (h : Hp) (ow : Nat → Ow) (vs : List Value),
 vs.length = ds.length → (∀ i d v, ds[i]? = some d → vs[i]? = some v → VRc h ow h.next (GB + i, []) d v) → (∀ n m p z k z' k', ow n = .of p z k → ow m = .of p z' k' → n = m) → (∀ n, h.blk n = none → ow n = .no) → (∀ n p z k, ow n = .of p z k → GB ≤ p.1) → (∀ n, h.next ≤ n → h.blk n = none) →
 ∃ v h' ow', CR f vs h v h' ∧ Frm h ow h' ow' ∧ (∀ n, h'.next ≤ n → h'.blk n = none) ∧ (∀ n m p z k z' k', ow' n = .of p z k → ow' m = .of p z' k' → n = m) ∧ (∀ n, h'.blk n = none → ow' n = .no) ∧ VR2 h' ow' h'.next (LB, []) d v ∧ ∀ i o v, outs[i]? = some o → vs[i]? = some v → VRc h' ow' h'.next (GB + i, []) o v
abbrev MV := List (Nat × Nat × List Nat)
def ix : MV → Nat → Option (Nat × List Nat)
 | [], _ => none
 | (r, i, w) :: l, q => if q = r then some (i, w) else ix l q
def xi : MV → Nat → Option (Nat × List Nat)
 | [], _ => none
 | (r, i, w) :: l, j => if j = i then some (r, w) else xi l j
def ok2 : MV → Bool
 | [] => true
 | (r, i, _) :: l => (ix l r).isNone && (xi l i).isNone && ok2 l
theorem ixi : ∀ {l : MV}, ok2 l = true → ∀ r i w, ix l r = some (i, w) ↔ xi l i = some (r, w)
 | [], _, r, i, w => by simp [ix, xi]
 | (a, b, v) :: l, h, r, i, w => by
  unfold ok2 at h
  simp only [Bool.and_eq_true, Option.isNone_iff_eq_none] at h
  obtain ⟨⟨h1, h2⟩, h3⟩ := h
  have ih := ixi h3 r i w
  unfold ix xi
  by_cases hr : r = a
  ·by_cases hi : i = b
   ·subst hr; subst hi; simp
   ·subst hr
    rw [if_pos rfl, if_neg hi]
    constructor
    ·intro hh; injection hh with hh; injection hh with hh; exact absurd hh.symm hi
    ·intro hh; rw [← ih] at hh; rw [h1] at hh; cases hh
  ·by_cases hi : i = b
   ·subst hi
    rw [if_neg hr, if_pos rfl]
    constructor
    ·intro hh; rw [ih] at hh; rw [h2] at hh; cases hh
    ·intro hh; injection hh with hh; injection hh with hh; exact absurd hh.symm hr
   ·rw [if_neg hr, if_neg hi]; exact ih
def gvX (o : Option (Nat × List Nat)) (p : Pt) : Option (Nat × List Nat) := match o with
 | some a => if a.2.isPrefixOf p.2 = true then some (a.1, p.2.drop a.2.length) else none
 | none => none
def gvn (mv : MV) (p : Pt) : Option (Nat × List Nat) := gvX (ix mv p.1) p
theorem gvn_some {mv : MV} {p : Pt} {i : Nat} {v : List Nat} : gvn mv p = some (i, v) ↔ ∃ w, ix mv p.1 = some (i, w) ∧ p.2 = w ++ v := by
 unfold gvn gvX
 cases hi : ix mv p.1 with
 | none => simp
 | some a =>
  obtain ⟨j, w⟩ := a
  simp only
  by_cases hp : w.isPrefixOf p.2 = true
  ·rw [if_pos hp]
   rw [List.isPrefixOf_iff_prefix] at hp
   obtain ⟨u, hu⟩ := hp
   rw [← hu]
   simp only [List.drop_left, Option.some.injEq, Prod.mk.injEq]
   constructor
   ·rintro ⟨rfl, rfl⟩; exact ⟨w, ⟨rfl, rfl⟩, rfl⟩
   ·rintro ⟨w', ⟨rfl, rfl⟩, h2⟩; exact ⟨rfl, List.append_cancel_left h2⟩
  ·rw [if_neg hp]
   constructor
   ·intro hh; cases hh
   ·rintro ⟨w', hw, h2⟩
    injection hw with hw; injection hw with h3 h4; subst h4
    exact absurd (List.isPrefixOf_iff_prefix.2 ⟨v, h2.symm⟩) hp
theorem gvn_none {mv : MV} {p : Pt} (h : ix mv p.1 = none) : gvn mv p = none := by unfold gvn; rw [h]; rfl
theorem gvn_app {mv : MV} {q : Pt} {i : Nat} (h : ix mv q.1 = some (i, q.2)) (w : List Nat) : gvn mv (q.1, q.2 ++ w) = some (i, w) := gvn_some.2 ⟨q.2, h, rfl⟩
def owC (mv : MV) (L : List Pt) (ow : Nat → Ow) : Nat → Ow := fun n => match ow n with
 | .of p z k => match gvn mv p with
  | some (i, v) => .of (GB + i, v) z k
  | none => if L.any (fun q => belB q p) = true then .fz else .no
 | o => o
def bkO (mv : MV) (dst : Option Nat) : Ow → Ow
 | .of p z k => if p.1 = LB then (match dst with | some r => .of (r, p.2) z k | none => .no) else if GB ≤ p.1 then (match xi mv (p.1 - GB) with | some (r, w) => .of (r, w ++ p.2) z k | none => .no) else .no
 | o => o
def owR (mv : MV) (dst : Option Nat) (N : Nat) (ow ow' : Nat → Ow) : Nat → Ow := fun n => if n < N then (match ow n with
  | .of p z k => if (gvn mv p).isSome = true then bkO mv dst (ow' n) else .of p z k
  | _ => bkO mv dst (ow' n)) else bkO mv dst (ow' n)
mutual
def clF : FV → Bool
 | .row _ l => l.isEmpty
 | .fp _ => false
 | .fn _ a b => a.isEmpty && b.isEmpty
 | .agg l => clFs l
 | _ => true
def clFs : List FV → Bool
 | [] => true
 | d :: l => clF d && clFs l
end
mutual
def clD : DV → Bool
 | .fv v => clF v
 | .own _ l => clDs l
 | .box d => clD d
 | .agg l => clDs l
 | .tup l => clDs l
 | .hdr _ _ _ => false
 | .ptr _ _ _ => false
 | .junk _ => true
def clDs : List DV → Bool
 | [] => true
 | d :: l => clD d && clDs l
end
section
variable {h h' : Hp} {ow ow' : Nat → Ow} {B B' : Nat}
mutual
theorem FR.cl : ∀ {d : FV} {cs : List Value}, clF d = true → FR h ow B d cs → FR h' ow' B' d cs
 | .int _ _, cs, _, e => by unfold FR at *; exact e
 | .bool _, cs, _, e => by unfold FR at *; exact e
 | .str _, cs, _, e => by unfold FR at *; exact e
 | .nil, cs, _, e => by unfold FR at *; exact e
 | .nilp, cs, _, e => by unfold FR at *; exact e
 | .row z l, cs, hc, e => by
  unfold clF at hc
  rw [List.isEmpty_iff] at hc; subst hc
  unfold FR at e ⊢
  rcases e with e | ⟨n, o, c, css, h1, h2, h3, h4, h5⟩
  ·exact .inl e
  exact .inr ⟨n, o, c, css, h1, h2, by unfold FRs at *; exact h3, h4, fun hh => absurd rfl hh⟩
 | .agg l, cs, hc, e => by
  unfold clF at hc
  unfold FR at e ⊢
  obtain ⟨css, h1, h2⟩ := e
  exact ⟨css, h1, FRs.cl hc h2⟩
 | .fp _, cs, hc, e => by unfold clF at hc; cases hc
 | .fn _ a b, cs, hc, e => by
  unfold clF at hc
  rw [Bool.and_eq_true, List.isEmpty_iff, List.isEmpty_iff] at hc
  obtain ⟨rfl, rfl⟩ := hc
  unfold FR at e ⊢
  obtain ⟨ca, cb, h1, h2, h3⟩ := e
  exact ⟨ca, cb, h1, by unfold FRs at *; exact h2, by unfold FRs at *; exact h3⟩
theorem FRs.cl : ∀ {l : List FV} {css : List (List Value)}, clFs l = true → FRs h ow B l css → FRs h' ow' B' l css
 | [], css, _, e => by unfold FRs at *; exact e
 | d :: l, css, hc, e => by
  unfold clFs at hc; rw [Bool.and_eq_true] at hc
  unfold FRs at e ⊢
  obtain ⟨c, r, h1, h2, h3⟩ := e
  exact ⟨c, r, h1, FR.cl hc.1 h2, FRs.cl hc.2 h3⟩
end
def MvO (h : Hp) (ow : Nat → Ow) (h' : Hp) (ow' : Nat → Ow) (p p' : Pt) : Prop := ∀ n w z k, ow n = .of (p.1, p.2 ++ w) z k → ow' n = .of (p'.1, p'.2 ++ w) z k ∧ h'.blk n = h.blk n
theorem MvO.down {p p' : Pt} (m : MvO h ow h' ow' p p') (w : List Nat) : MvO h ow h' ow' (p.1, p.2 ++ w) (p'.1, p'.2 ++ w) := fun n v z k hn => by
 have := m n (w ++ v) z k (by rw [← List.append_assoc]; exact hn)
 rw [← List.append_assoc] at this
 exact this
mutual
theorem DR.cl : ∀ {d : DV} {top : Bool} {p p' : Pt} {cs : List Value}, MvO h ow h' ow' p p' → B ≤ B' → clD d = true → DR h ow B top p d cs → DR h' ow' B' top p' d cs
 | .fv v, top, p, p', cs, m, hB, hc, e => by unfold clD at hc; unfold DR at *; exact e.cl hc
 | .own z l, top, p, p', cs, m, hB, hc, e => by
  unfold clD at hc
  unfold DR at e ⊢
  obtain ⟨n, css, h1, h0, h2, h3, h4, h5, h6⟩ := e
  obtain ⟨q1, q2⟩ := m n [] z l.length (by simpa using h3)
  exact ⟨n, css, h1, h0, Nat.lt_of_lt_of_le h2 hB, by simpa using q1, by rw [q2, h4], h5, DRs.cl m hB hc h6⟩
 | .agg l, top, p, p', cs, m, hB, hc, e => by
  unfold clD at hc
  unfold DR at e ⊢
  obtain ⟨css, h1, h2⟩ := e
  exact ⟨css, h1, DRs.cl m hB hc h2⟩
 | .box d, top, p, p', cs, m, hB, hc, e => by
  unfold clD at hc
  unfold DR at e ⊢
  obtain ⟨n, c, h1, h2, h3, h4, h5⟩ := e
  obtain ⟨q1, q2⟩ := m n [] 0 0 (by simpa using h3)
  exact ⟨n, c, h1, Nat.lt_of_lt_of_le h2 hB, by simpa using q1, by rw [q2, h4], DR.cl (m.down [0]) hB hc h5⟩
 | .hdr q z k, top, p, p', cs, m, hB, hc, e => by unfold clD at hc; cases hc
 | .ptr q w o, top, p, p', cs, m, hB, hc, e => by unfold clD at hc; cases hc
 | .tup _, top, p, p', cs, m, hB, hc, e => by unfold DR at *; exact e
 | .junk _, top, p, p', cs, m, hB, hc, e => by unfold DR at *; exact e
theorem DRs.cl : ∀ {l : List DV} {top : Bool} {p p' : Pt} {i : Nat} {css : List (List Value)}, MvO h ow h' ow' p p' → B ≤ B' → clDs l = true → DRs h ow B top p i l css → DRs h' ow' B' top p' i l css
 | [], top, p, p', i, css, m, hB, hc, e => by unfold DRs at *; exact e
 | d :: l, top, p, p', i, css, m, hB, hc, e => by
  unfold clDs at hc; rw [Bool.and_eq_true] at hc
  unfold DRs at e ⊢
  obtain ⟨c, r, h1, h2, h3⟩ := e
  exact ⟨c, r, h1, DR.cl (m.down [i]) hB hc.1 h2, DRs.cl m hB hc.2 h3⟩
end
theorem VRc.cl {d : DV} {p p' : Pt} {v : Value} (m : MvO h ow h' ow' p p') (hB : B ≤ B') (hc : clD d = true) (e : VRc h ow B p d v) : VRc h' ow' B' p' d v := by
 rcases e with hk | ⟨cs, h1, h2⟩
 ·exact .inl hk
 ·exact .inr ⟨cs, h1.cl m hB hc, h2⟩
theorem VRs.cl : ∀ {l : List DV} {i : Nat} {p p' : Pt} {vs : List Value}, MvO h ow h' ow' p p' → B ≤ B' → clDs l = true → VRs h ow B p i l vs → VRs h' ow' B' p' i l vs
 | [], i, p, p', vs, m, hB, hc, e => by unfold VRs at *; exact e
 | d :: l, i, p, p', vs, m, hB, hc, e => by
  unfold clDs at hc; rw [Bool.and_eq_true] at hc
  unfold VRs at e ⊢
  obtain ⟨c, r, h1, h2, h3⟩ := e
  exact ⟨c, r, h1, VRc.cl (m.down [i]) hB hc.1 h2, VRs.cl m hB hc.2 h3⟩
theorem VR2.cl {d : DV} {p p' : Pt} {v : Value} (m : MvO h ow h' ow' p p') (hB : B ≤ B') (hc : clD d = true) (e : VR2 h ow B p d v) : VR2 h' ow' B' p' d v := by
 rcases e with ⟨l, vs, rfl, h1, h2⟩ | e
 ·unfold clD at hc; exact .inl ⟨_, vs, rfl, h1, h2.cl m hB hc⟩
 ·exact .inr (e.cl m hB hc)
theorem VRc.mv {d : DV} {p p' : Pt} {v : Value} (m : Mv h ow h' ow' p p') (hB : B ≤ B') (hr : noRef d = true) (e : VRc h ow B p d v) : VRc h' ow' B' p' d v := by
 rcases e with hk | ⟨cs, h1, h2⟩
 ·exact .inl hk
 ·exact .inr ⟨cs, h1.mv m (.inl hr) hB, h2⟩
theorem VRs.mv : ∀ {l : List DV} {i : Nat} {p p' : Pt} {vs : List Value}, Mv h ow h' ow' p p' → B ≤ B' → noRefs l = true → VRs h ow B p i l vs → VRs h' ow' B' p' i l vs
 | [], i, p, p', vs, m, hB, hc, e => by unfold VRs at *; exact e
 | d :: l, i, p, p', vs, m, hB, hc, e => by
  unfold noRefs at hc; rw [Bool.and_eq_true] at hc
  unfold VRs at e ⊢
  obtain ⟨c, r, h1, h2, h3⟩ := e
  exact ⟨c, r, h1, VRc.mv (m.down [i]) hB hc.1 h2, VRs.mv m hB hc.2 h3⟩
theorem VR2.mv {d : DV} {p p' : Pt} {v : Value} (m : Mv h ow h' ow' p p') (hB : B ≤ B') (hr : noRef d = true) (e : VR2 h ow B p d v) : VR2 h' ow' B' p' d v := by
 rcases e with ⟨l, vs, rfl, h1, h2⟩ | e
 ·unfold noRef at hr; exact .inl ⟨_, vs, rfl, h1, h2.mv m hB hr⟩
 ·exact .inr (e.mv m hB hr)
end
structure Arg where
 d : DV
 lent : List Pt
 mv : Option Pt
mutual
def lendD (st : St) : DV → Option (FV × List Pt)
 | .fv v => some (v, [])
 | .hdr q _ _ => (node st q).bind fun nd => if isBox nd = true then none else (fzD nd).map fun v => (v, [q])
 | .agg l => (lendL st l).map fun r => (.agg r.1, r.2)
 | _ => none
def lendL (st : St) : List DV → Option (List FV × List Pt)
 | [] => some ([], [])
 | d :: l => (lendD st d).bind fun a => (lendL st l).map fun r => (a.1 :: r.1, a.2 ++ r.2)
end
mutual
def sameV : FV → FV → Bool
 | .int k n, .int k' n' => decide (k = k') && decide (n = n')
 | .bool b, .bool b' => b == b'
 | .str s, .str s' => decide (s = s')
 | .nil, .nil => true
 | .nilp, .nilp => true
 | .agg l, .agg l' => sameL l l'
 | _, _ => false
def sameL : List FV → List FV → Bool
 | [], [] => true
 | u :: l, v :: m => sameV u v && sameL l m
 | _, _ => false
end
mutual
def arM (r : Nat) : List Nat → DV → DV → Bool
 | w, .own _ _, .hdr q _ _ => decide (q = (r, w))
 | w, .agg l0, .agg l => arMs r w 0 l0 l
 | _, .fv u, .fv v => sameV u v
 | _, _, _ => false
def arMs (r : Nat) : List Nat → Nat → List DV → List DV → Bool
 | _, _, [], [] => true
 | w, i, d0 :: l0, d :: l => arM r (w ++ [i]) d0 d && arMs r w (i + 1) l0 l
 | _, _, _, _ => false
end
mutual
def rootD : DV → Option Pt
 | .hdr q _ _ => some q
 | .agg l => (rootL l).map fun q => (q.1, q.2.dropLast)
 | _ => none
def rootL : List DV → Option Pt
 | [] => none
 | d :: l => match rootD d with
  | some r => some r
  | none => rootL l
end
def ar2 (st : St) (md : Nat) (x : Operand) : Option Arg := match ev2 st x with
 | .agg l => if md = 2 then (rootL l).bind fun q => (get st q.1).bind fun d => (atD q.2.dropLast d).bind fun d0 => if (isAgg d0 && noRef d0 && arM q.1 q.2.dropLast d0 (.agg l)) = true then some ⟨d0, [], some (q.1, q.2.dropLast)⟩ else none
  else if md = 1 then (lendL st l).map fun a => ⟨.fv (.agg a.1), a.2, none⟩ else none
 | .fv v => some ⟨.fv v, [], none⟩
 | .hdr q z k => if md = 2 then (node st q).bind fun nd => match nd with | .own _ _ => some ⟨nd, [], some q⟩ | _ => none
  else if md = 1 then (node st q).bind fun nd => if isBox nd = true then none else (fzD nd).map fun v => ⟨.fv v, [q], none⟩ else none
 | .ptr q w o => if md = 2 then (if w = [0] ∧ o = 0 then (node st q).bind fun nd => match nd with | .box _ => some ⟨nd, [], some q⟩ | _ => none else none)
  else if md = 1 then (if w = [0] ∧ o = 0 then (node st q).bind fun nd => if isBox nd = true then (fzD nd).map fun v => ⟨.fv v, [q], none⟩ else none else none) else none
 | _ => none
def ars (st : St) (md : Nat → Nat) : Nat → List Operand → Option (List DV × List Pt × MV)
 | _, [] => some ([], [], [])
 | i, x :: xs => (ar2 st (md i) x).bind fun a => (ars st md (i + 1) xs).map fun r => (a.d :: r.1, a.lent ++ r.2.1, (match a.mv with | some q => [(q.1, i, q.2)] | none => []) ++ r.2.2)
def outD (outs : List DV) (i : Nat) : DV := (outs[i]?).getD (.junk 1)
def klC (mv : MV) (outs : List DV) (p : Pt) : Bool := match gvn mv p with
 | some (i, v) => !(v.isEmpty && isNode (outD outs i))
 | none => false
def okUp (d : DV) : DV → Bool
 | .own _ _ => true
 | .box _ => true
 | .agg _ => isNode d || noRef d
 | _ => false
def upD (outs : List DV) (d : DV) : Nat × List Nat → DV
 | (i, []) => outD outs i
 | (i, w) => if okUp d (outD outs i) = true then (setD w d (outD outs i)).getD (.junk 1) else .junk 1
def upS (mv : MV) (outs : List DV) : St → St
 | [] => []
 | (k, d) :: st => (k, match ix mv k with | some a => upD outs d a | none => kl (klC mv outs) d) :: upS mv outs st
def aft (mv : MV) (dst : Option Nat) (d : DV) (outs : List DV) (st : St) : St := match dst with
 | some r => (r, d) :: upS mv outs st
 | none => upS mv outs st
theorem get_upS (mv : MV) (outs : List DV) : ∀ (st : St) (q : Nat), get (upS mv outs st) q = (get st q).map fun d => match ix mv q with | some a => upD outs d a | none => kl (klC mv outs) d
 | [], q => rfl
 | (k, d) :: st, q => by
  unfold upS get
  by_cases hq : q = k
  ·subst hq; simp
  ·rw [if_neg hq, if_neg hq, get_upS mv outs st q]
section
variable {val val' : Nat → Value} {h h' : Hp} {ow ow' : Nat → Ow} {B : Nat} {st st' : St} {s : S} {G : Nat → Value}
theorem ix_mem {mv : MV} (hok : ok2 mv = true) {r i : Nat} {w : List Nat} (hm : (r, i, w) ∈ mv) : ix mv r = some (i, w) := by
 induction mv with
 | nil => simp at hm
 | cons a l ih =>
  obtain ⟨x, y, u⟩ := a
  have hok' := hok
  unfold ok2 at hok
  simp only [Bool.and_eq_true, Option.isNone_iff_eq_none] at hok
  unfold ix
  rcases List.mem_cons.1 hm with hm | hm
  ·injection hm with h1 h2; injection h2 with h2 h3; subst h1; subst h2; subst h3; rw [if_pos rfl]
  ·have := ih hok.2 hm
   by_cases hr : r = x
   ·subst hr; rw [hok.1.1] at this; cases this
   ·rw [if_neg hr]; exact this
theorem owC_fz {mv : MV} {L : List Pt} {n : Nat} (hn : ow n = .fz) : owC mv L ow n = .fz := by unfold owC; rw [hn]
theorem owC_no {mv : MV} {L : List Pt} {n : Nat} (hn : ow n = .no) : owC mv L ow n = .no := by unfold owC; rw [hn]
theorem owC_mv {mv : MV} {L : List Pt} {n i z k : Nat} {p : Pt} {v : List Nat} (hn : ow n = .of p z k) (hi : gvn mv p = some (i, v)) : owC mv L ow n = .of (GB + i, v) z k := by
 unfold owC; rw [hn]; simp only [hi]
theorem owC_lent {mv : MV} {L : List Pt} {n z k : Nat} {p q : Pt} (hn : ow n = .of p z k) (hi : ix mv p.1 = none) (hq : q ∈ L) (hb : Bel q p) : owC mv L ow n = .fz := by
 unfold owC; rw [hn]; simp only [gvn_none hi]
 rw [if_pos]
 rw [List.any_eq_true]
 exact ⟨q, hq, belB_iff.2 hb⟩
theorem owC_other {mv : MV} {L : List Pt} {n z k : Nat} {p : Pt} (hn : ow n = .of p z k) (hi : gvn mv p = none) : owC mv L ow n = .fz ∨ owC mv L ow n = .no := by
 unfold owC; rw [hn]; simp only [hi]
 split
 ·exact .inl rfl
 ·exact .inr rfl
theorem owC_otherL {mv : MV} {n z k : Nat} {p : Pt} (hn : ow n = .of p z k) (hi : gvn mv p = none) : owC mv [] ow n = .no := by
 unfold owC; rw [hn]; simp only [hi]; rfl
theorem owC_of {mv : MV} {L : List Pt} {n z k : Nat} {p : Pt} (hh : owC mv L ow n = .of p z k) : ∃ q i v, gvn mv q = some (i, v) ∧ p = (GB + i, v) ∧ ow n = .of q z k := by
 unfold owC at hh
 cases ho : ow n with
 | fz => rw [ho] at hh; cases hh
 | no => rw [ho] at hh; cases hh
 | of p' z' k' =>
  rw [ho] at hh
  simp only at hh
  split at hh
  ·rename_i i v hi
   injection hh with e1 e2 e3
   subst e2; subst e3
   exact ⟨p', i, v, hi, e1.symm, rfl⟩
  ·split at hh <;> cases hh
mutual
theorem lendD_ok (C1 : Core (vl s G) s.h ow s.h.next st) {mv : MV} {L : List Pt} : ∀ {d : DV} {v : FV} {qs : List Pt} {top : Bool} {p : Pt} {cs : List Value}, lendD st d = some (v, qs) → (∀ q ∈ qs, q ∈ L ∧ ix mv q.1 = none) → DR s.h ow s.h.next top p d cs → FR s.h (owC mv L ow) s.h.next v cs
 | .fv u, v, qs, top, p, cs, h, hl, e => by
  unfold lendD at h; injection h with h; injection h with h1 h2; subst h1; subst h2
  unfold DR at e; exact e.mono (fun n hn => ⟨owC_fz hn, rfl⟩) (Nat.le_refl _)
 | .hdr q z k, v, qs, top, p, cs, h, hl, e => by
  unfold lendD at h
  obtain ⟨nd, h1, h2⟩ := Option.bind_eq_some_iff.1 h
  split at h2
  ·cases h2
  ·rename_i hb
   obtain ⟨u, h3, h4⟩ := Option.map_eq_some_iff.1 h2
   injection h4 with h4 h5; subst h4; subst h5
   obtain ⟨hq1, hq2⟩ := hl q (by simp)
   obtain ⟨hc, hdn⟩ := node_dr C1 h1
   obtain ⟨_, _, _, _, hnode⟩ := node_at h1
   have hfr : FR s.h (owC mv L ow) s.h.next u hc := fz_ok (fun n hn => ⟨owC_fz hn, rfl⟩) (fun n w z k hn => ⟨owC_lent hn hq2 hq1 (Bel.ext q w), rfl⟩) hdn h3
   cases nd with
   | own z' l' => obtain ⟨rfl, _, _⟩ := ref_own C1 e hdn; exact hfr
   | box _ => exact absurd rfl hb
   | _ => cases hnode
 | .agg l, v, qs, top, p, cs, h, hl, e => by
  unfold lendD at h
  obtain ⟨⟨us, q2⟩, h1, h2⟩ := Option.map_eq_some_iff.1 h
  injection h2 with h2 h3; subst h2; subst h3
  unfold DR at e
  obtain ⟨css, e1, e2⟩ := e
  unfold FR
  exact ⟨css, e1, lendL_ok C1 h1 hl e2⟩
 | .own _ _, v, qs, top, p, cs, h, hl, e => by unfold lendD at h; cases h
 | .box _, v, qs, top, p, cs, h, hl, e => by unfold lendD at h; cases h
 | .ptr _ _ _, v, qs, top, p, cs, h, hl, e => by unfold lendD at h; cases h
 | .tup _, v, qs, top, p, cs, h, hl, e => by unfold lendD at h; cases h
 | .junk _, v, qs, top, p, cs, h, hl, e => by unfold lendD at h; cases h
theorem lendL_ok (C1 : Core (vl s G) s.h ow s.h.next st) {mv : MV} {L : List Pt} : ∀ {l : List DV} {vs : List FV} {qs : List Pt} {top : Bool} {p : Pt} {i : Nat} {css : List (List Value)}, lendL st l = some (vs, qs) → (∀ q ∈ qs, q ∈ L ∧ ix mv q.1 = none) → DRs s.h ow s.h.next top p i l css → FRs s.h (owC mv L ow) s.h.next vs css
 | [], vs, qs, top, p, i, css, h, hl, e => by
  unfold lendL at h; injection h with h; injection h with h1 h2; subst h1
  unfold DRs at e; unfold FRs; exact e
 | d :: l, vs, qs, top, p, i, css, h, hl, e => by
  unfold lendL at h
  obtain ⟨⟨u, q1⟩, h1, h2⟩ := Option.bind_eq_some_iff.1 h
  obtain ⟨⟨us, q2⟩, h3, h4⟩ := Option.map_eq_some_iff.1 h2
  injection h4 with h4 h5; subst h4; subst h5
  unfold DRs at e
  obtain ⟨c, r, rfl, e1, e2⟩ := e
  unfold FRs
  exact ⟨c, r, rfl, lendD_ok C1 h1 (fun q hq => hl q (List.mem_append_left _ hq)) e1, lendL_ok C1 h3 (fun q hq => hl q (List.mem_append_right _ hq)) e2⟩
end
mutual
theorem sameV_ok : ∀ {u v : FV} {cs cs' : List Value}, sameV u v = true → FR h ow B u cs → FR h ow B v cs' → cs = cs'
 | .int k n, v, cs, cs', hs, e, e' => by
  cases v <;> simp only [sameV, Bool.and_eq_true, decide_eq_true_eq, Bool.false_eq_true] at hs
  obtain ⟨rfl, rfl⟩ := hs
  unfold FR at e e'; rw [e, e']
 | .bool b, v, cs, cs', hs, e, e' => by
  cases v <;> simp only [sameV, beq_iff_eq, Bool.false_eq_true] at hs
  subst hs
  unfold FR at e e'; rw [e, e']
 | .str b, v, cs, cs', hs, e, e' => by
  cases v <;> simp only [sameV, decide_eq_true_eq, Bool.false_eq_true] at hs
  subst hs
  unfold FR at e e'; rw [e, e']
 | .nil, v, cs, cs', hs, e, e' => by
  cases v <;> simp only [sameV, Bool.false_eq_true] at hs
  unfold FR at e e'; rw [e, e']
 | .nilp, v, cs, cs', hs, e, e' => by
  cases v <;> simp only [sameV, Bool.false_eq_true] at hs
  unfold FR at e e'; rw [e, e']
 | .agg l, v, cs, cs', hs, e, e' => by
  cases v <;> simp only [sameV, Bool.false_eq_true] at hs
  unfold FR at e e'
  obtain ⟨css, rfl, e2⟩ := e
  obtain ⟨css', rfl, e3⟩ := e'
  rw [sameL_ok hs e2 e3]
 | .row _ _, v, cs, cs', hs, e, e' => by cases v <;> cases hs
 | .fp _, v, cs, cs', hs, e, e' => by cases v <;> cases hs
 | .fn _ _ _, v, cs, cs', hs, e, e' => by cases v <;> cases hs
theorem sameL_ok : ∀ {l m : List FV} {css css' : List (List Value)}, sameL l m = true → FRs h ow B l css → FRs h ow B m css' → css = css'
 | [], [], css, css', hs, e, e' => by unfold FRs at e e'; rw [e, e']
 | u :: l, v :: m, css, css', hs, e, e' => by
  unfold sameL at hs
  rw [Bool.and_eq_true] at hs
  unfold FRs at e e'
  obtain ⟨c, r, rfl, e1, e2⟩ := e
  obtain ⟨c', r', rfl, e3, e4⟩ := e'
  rw [sameV_ok hs.1 e1 e3, sameL_ok hs.2 e2 e4]
 | [], _ :: _, css, css', hs, e, e' => by cases hs
 | _ :: _, [], css, css', hs, e, e' => by cases hs
end
mutual
theorem arM_ok {B : Nat} (C1 : Core (vl s G) s.h ow B st) {r : Nat} : ∀ {d0 d : DV} {w : List Nat} {top : Bool} {p : Pt} {cs cs' : List Value}, arM r w d0 d = true → DR s.h ow B top (r, w) d0 cs → DR s.h ow B true p d cs' → cs = cs'
 | .own z l, d, w, top, p, cs, cs', ha, e, e' => by
  cases d <;> simp only [arM, decide_eq_true_eq, Bool.false_eq_true] at ha
  subst ha
  exact (ref_own C1 e' e).1.symm
 | .agg l0, d, w, top, p, cs, cs', ha, e, e' => by
  cases d <;> simp only [arM, Bool.false_eq_true] at ha
  unfold DR at e e'
  obtain ⟨css, rfl, e2⟩ := e
  obtain ⟨css', rfl, e3⟩ := e'
  rw [arMs_ok C1 ha e2 e3]
 | .fv u, d, w, top, p, cs, cs', ha, e, e' => by
  cases d <;> simp only [arM, Bool.false_eq_true] at ha
  unfold DR at e e'
  exact sameV_ok ha e e'
 | .box _, d, w, top, p, cs, cs', ha, e, e' => by cases d <;> cases ha
 | .hdr _ _ _, d, w, top, p, cs, cs', ha, e, e' => by cases d <;> cases ha
 | .ptr _ _ _, d, w, top, p, cs, cs', ha, e, e' => by cases d <;> cases ha
 | .tup _, d, w, top, p, cs, cs', ha, e, e' => by cases d <;> cases ha
 | .junk _, d, w, top, p, cs, cs', ha, e, e' => by cases d <;> cases ha
theorem arMs_ok {B : Nat} (C1 : Core (vl s G) s.h ow B st) {r : Nat} : ∀ {l0 l : List DV} {w : List Nat} {i i' : Nat} {top : Bool} {p : Pt} {css css' : List (List Value)}, arMs r w i l0 l = true → DRs s.h ow B top (r, w) i l0 css → DRs s.h ow B true p i' l css' → css = css'
 | [], [], w, i, i', top, p, css, css', ha, e, e' => by unfold DRs at e e'; rw [e, e']
 | d0 :: l0, d :: l, w, i, i', top, p, css, css', ha, e, e' => by
  unfold arMs at ha
  rw [Bool.and_eq_true] at ha
  unfold DRs at e e'
  obtain ⟨c, q, rfl, e1, e2⟩ := e
  obtain ⟨c', q', rfl, e3, e4⟩ := e'
  rw [arM_ok C1 ha.1 e1 e3, arMs_ok C1 ha.2 e2 e4]
 | [], _ :: _, w, i, i', top, p, css, css', ha, e, e' => by cases ha
 | _ :: _, [], w, i, i', top, p, css, css', ha, e, e' => by cases ha
end
def Giv (st : St) (s : S) (G : Nat → Value) (ow : Nat → Ow) (q : Pt) (v : Value) : Prop := (q.2 = [] ∧ vl s G q.1 = v ∧ ∃ nd, get st q.1 = some nd ∧ isNode nd = false ∧ isAgg nd = true) ∨ ((q.2 = [] → vl s G q.1 = v) ∧ ∃ nd cs, node st q = some nd ∧ DR s.h ow s.h.next false q nd cs ∧ v = mkv false cs) ∨ (q.2 ≠ [] ∧ ∃ dr nd, get st q.1 = some dr ∧ atD q.2 dr = some nd ∧ ndA nd = true ∧ isAgg nd = true ∧ (∃ cs, v = mkv true cs) ∧ ∀ B' hc, s.h.next ≤ B' → DR s.h ow B' false q nd hc → v = mkv true hc)
theorem DR.subA {h : Hp} {ow : Nat → Ow} {B : Nat} : ∀ {w : List Nat} {d nd : DV} {top : Bool} {p : Pt} {cs : List Value}, DR h ow B top p d cs → atD w d = some nd → ∃ top' hc, DR h ow B top' (p.1, p.2 ++ w) nd hc
 | [], d, nd, top, p, cs, e, ha => by
  simp only [atD, Option.some.injEq] at ha; subst ha
  exact ⟨top, cs, by rw [List.append_nil]; exact e⟩
 | i :: w, .own z l, nd, top, p, cs, e, ha => by
  simp only [atD] at ha
  obtain ⟨d, h1, h2⟩ := Option.bind_eq_some_iff.1 ha
  unfold DR at e
  obtain ⟨n, css, _, _, _, _, _, _, e2⟩ := e
  obtain ⟨c, h4, h5⟩ := e2.get h1
  rw [Nat.zero_add] at h5
  obtain ⟨t', hc, h6⟩ := DR.subA h5 h2
  exact ⟨t', hc, by rw [pt_app]; exact h6⟩
 | i :: w, .agg l, nd, top, p, cs, e, ha => by
  simp only [atD] at ha
  obtain ⟨d, h1, h2⟩ := Option.bind_eq_some_iff.1 ha
  unfold DR at e
  obtain ⟨css, _, e2⟩ := e
  obtain ⟨c, h4, h5⟩ := e2.get h1
  rw [Nat.zero_add] at h5
  obtain ⟨t', hc, h6⟩ := DR.subA h5 h2
  exact ⟨t', hc, by rw [pt_app]; exact h6⟩
 | i :: w, .box d, nd, top, p, cs, e, ha => by
  simp only [atD] at ha
  split at ha
  ·rename_i hi; subst hi
   unfold DR at e
   obtain ⟨n, c, _, _, _, _, e2⟩ := e
   obtain ⟨t', hc, h6⟩ := DR.subA e2 ha
   exact ⟨t', hc, by rw [pt_app]; exact h6⟩
  ·cases ha
 | i :: w, .fv (.agg l), nd, top, p, cs, e, ha => by
  simp only [atD] at ha
  obtain ⟨d, h1, h2⟩ := Option.bind_eq_some_iff.1 ha
  unfold DR FR at e
  obtain ⟨css, _, e2⟩ := e
  obtain ⟨c, h4, h5⟩ := e2.get h1
  obtain ⟨t', hc, h6⟩ := DR.subA (d := .fv d) (p := (p.1, p.2 ++ [i])) (top := top) (by unfold DR; exact h5) h2
  exact ⟨t', hc, by rw [pt_app]; exact h6⟩
 | i :: w, .hdr _ _ _, nd, top, p, cs, e, ha => by simp [atD] at ha
 | i :: w, .ptr _ _ _, nd, top, p, cs, e, ha => by simp [atD] at ha
 | i :: w, .tup _, nd, top, p, cs, e, ha => by simp [atD] at ha
 | i :: w, .junk _, nd, top, p, cs, e, ha => by simp [atD] at ha
 | i :: w, .fv (.int _ _), nd, top, p, cs, e, ha => by simp [atD] at ha
 | i :: w, .fv (.bool _), nd, top, p, cs, e, ha => by simp [atD] at ha
 | i :: w, .fv (.str _), nd, top, p, cs, e, ha => by simp [atD] at ha
 | i :: w, .fv .nil, nd, top, p, cs, e, ha => by simp [atD] at ha
 | i :: w, .fv .nilp, nd, top, p, cs, e, ha => by simp [atD] at ha
 | i :: w, .fv (.row _ _), nd, top, p, cs, e, ha => by simp [atD] at ha
 | i :: w, .fv (.fp _), nd, top, p, cs, e, ha => by simp [atD] at ha
 | i :: w, .fv (.fn _ _ _), nd, top, p, cs, e, ha => by simp [atD] at ha
theorem get_of_node {q : Pt} {nd : DV} (h : node st q = some nd) : ∃ d, get st q.1 = some d := by
 obtain ⟨d, h1, _⟩ := node_at h
 exact ⟨d, h1⟩
theorem ar2_ok (C1 : Core (vl s G) s.h ow s.h.next st) {md i : Nat} {x : Operand} {a : Arg} {mv : MV} {L : List Pt} (ha : ar2 st md x = some a) (hl : ∀ q ∈ a.lent, q ∈ L ∧ ix mv q.1 = none) (hm : ∀ q, a.mv = some q → ix mv q.1 = some (i, q.2)) :
  VRc s.h (owC mv L ow) s.h.next (GB + i, []) a.d (s.ev x) ∧ ∀ q, a.mv = some q → Giv st s G ow q (s.ev x) := by
 have hx := (ev2_ok C1 x (0, [])).1
 have hfz : FzSame s.h ow s.h (owC mv L ow) := fun n hn => ⟨owC_fz hn, rfl⟩
 have hMv : ∀ q : Pt, ix mv q.1 = some (i, q.2) → Mv s.h ow s.h (owC mv L ow) q (GB + i, []) := fun q hi => ⟨hfz, fun n w z k hn => ⟨by have := owC_mv (L := L) hn (gvn_app hi w); simpa using this, rfl⟩⟩
 have hroot : ∀ (q : Pt) (nd : DV), node st q = some nd → ∀ cs, DR s.h ow s.h.next false q nd cs → q.2 = [] → vl s G q.1 = mkv false cs := by
  intro q nd h1 cs h2 hq
  obtain ⟨d, g1, _, g2, g3⟩ := node_at h1
  rw [hq] at g2
  simp only [atD, Option.some.injEq] at g2; subst g2
  obtain ⟨cs', h3, h4⟩ := at_reg C1 (w := []) g1 rfl g3
  have hqe : q = (q.1, []) := by obtain ⟨q1, q2⟩ := q; simp only at hq; subst hq; rfl
  have hag : isAgg d = false := by cases d <;> first | rfl | cases g3
  rw [h4, hag]
  congr 1
  rw [hqe] at h2
  cases d with
  | own z l =>
   obtain ⟨n1, css1, a1, _, _, a4, _⟩ := own_blk h3
   obtain ⟨n2, css2, b1, _, _, b4, _⟩ := own_blk h2
   obtain rfl := C1.inj _ _ _ _ _ _ _ a4 b4
   rw [a1, b1]
  | box d =>
   obtain ⟨n1, c1, a1, _, a4, _⟩ := box_blk h3
   obtain ⟨n2, c2, b1, _, b4, _⟩ := box_blk h2
   obtain rfl := C1.inj _ _ _ _ _ _ _ a4 b4
   rw [a1, b1]
  | _ => cases g3
 unfold ar2 at ha
 split at ha
 ·rename_i l hv
  rw [hv] at hx
  rcases hx with ⟨k, hk⟩ | ⟨cs, e1, e2⟩
  ·cases hk
  ·split at ha
   ·obtain ⟨⟨r, u⟩, h1, h2⟩ := Option.bind_eq_some_iff.1 ha
    obtain ⟨dr, h3, h2⟩ := Option.bind_eq_some_iff.1 h2
    obtain ⟨d0, h5, h4⟩ := Option.bind_eq_some_iff.1 h2
    simp only at h3 h5 h4
    generalize u.dropLast = w at h5 h4
    split at h4
    ·rename_i hc
     injection h4 with h4; subst h4
     simp only [Bool.and_eq_true] at hc
     obtain ⟨⟨hag, hnr⟩, har⟩ := hc
     have hi := hm (r, w) rfl
     have hsub : ∃ top' hc, DR s.h ow s.h.next top' (r, w) d0 hc := by
      rcases C1.regs r dr h3 with ⟨l', vs, rfl, _⟩ | ⟨k, rfl⟩ | ⟨cs0, k1, k2⟩
      ·cases w <;> simp only [atD] at h5
       ·injection h5 with h5; subst h5; cases hag
       ·cases h5
      ·cases w <;> simp only [atD] at h5
       ·injection h5 with h5; subst h5; cases hag
       ·cases h5
      ·obtain ⟨t', hc, h6⟩ := DR.subA k1 h5
       exact ⟨t', hc, by simpa using h6⟩
     obtain ⟨top', hc, hdr⟩ := hsub
     have hcs := arM_ok C1 har hdr e1
     subst hcs
     refine ⟨.inr ⟨_, hdr.mv (hMv (r, w) hi) (.inl hnr) (Nat.le_refl _), by rw [e2, hag]; rfl⟩, fun q hr => ?_⟩
     injection hr with hr; subst hr
     cases w with
     | nil =>
      simp only [atD, Option.some.injEq] at h5; subst h5
      rcases C1.regs r dr h3 with ⟨l', vs, rfl, _⟩ | ⟨k, rfl⟩ | ⟨cs0, k1, k2⟩
      ·cases hag
      ·cases hag
      ·have hcs := arM_ok C1 har k1 e1
       subst hcs
       have hval : vl s G r = s.ev x := by
        rw [k2, e2, hag]; rfl
       exact .inl ⟨rfl, hval, _, h3, (by cases dr <;> first | rfl | cases hag), hag⟩
     | cons a w =>
      have hnd : ndA d0 = true := by
       cases d0 with
       | agg l0 => unfold noRef at hnr; exact hnr
       | _ => first | cases hag | (simp only [arM, Bool.false_eq_true] at har)
      exact .inr (.inr ⟨by simp, dr, d0, h3, h5, hnd, hag, ⟨_, e2⟩, fun B' hc2 hB' hd2 => by
       rw [arM_ok (C1.mono hB') har hd2 (e1.mv (top' := true) ⟨fun _ hh => ⟨hh, rfl⟩, fun _ _ _ _ hh => ⟨hh, rfl⟩⟩ (.inr ⟨fun _ => rfl, fun _ _ _ _ _ hh => hh⟩) hB')]
       exact e2⟩)
    ·cases h4
   ·split at ha
    ·obtain ⟨⟨vs, qs⟩, h1, rfl⟩ := Option.map_eq_some_iff.1 ha
     refine ⟨.inr ⟨cs, ?_, by rw [e2]; rfl⟩, fun r hr => by cases hr⟩
     unfold DR at e1 ⊢
     obtain ⟨css, q1, q2⟩ := e1
     unfold FR
     exact ⟨css, q1, lendL_ok C1 h1 hl q2⟩
    ·cases ha
 ·rename_i v hv
  injection ha with ha; subst ha
  rw [hv] at hx
  rcases hx with ⟨k, hk⟩ | ⟨cs, e1, e2⟩
  ·cases hk
  ·exact ⟨.inr ⟨cs, by unfold DR at *; exact e1.mono hfz (Nat.le_refl _), e2⟩, fun r hr => by cases hr⟩
 ·rename_i q z k hv
  rw [hv] at hx
  rcases hx with ⟨k', hk⟩ | ⟨cs, e1, e2⟩
  ·cases hk
  ·split at ha
   ·obtain ⟨nd, h1, h2⟩ := Option.bind_eq_some_iff.1 ha
    split at h2
    ·rename_i z' l'
     injection h2 with h2; subst h2
     have hi := hm q rfl
     obtain ⟨hc, hdn⟩ := node_dr C1 h1
     obtain ⟨rfl, _, _⟩ := ref_own C1 e1 hdn
     refine ⟨.inr ⟨cs, ?_, e2⟩, fun r hr => by
      injection hr with hr; subst hr
      exact .inr (.inl ⟨fun hq => by rw [hroot q _ h1 _ hdn hq, e2]; rfl, _, _, h1, hdn, e2⟩)⟩
     exact hdn.mv (top' := true) (hMv q hi) (.inr ⟨fun x => (by cases x), fun _ _ _ _ hh => Bool.noConfusion hh⟩) (Nat.le_refl _)
    ·cases h2
   ·split at ha
    ·obtain ⟨nd, h1, h2⟩ := Option.bind_eq_some_iff.1 ha
     split at h2
     ·cases h2
     ·rename_i hb
      obtain ⟨v, h3, rfl⟩ := Option.map_eq_some_iff.1 h2
      obtain ⟨hq1, hq2⟩ := hl q (by simp)
      obtain ⟨hc, hdn⟩ := node_dr C1 h1
      obtain ⟨_, _, _, _, hnode⟩ := node_at h1
      have hfr : FR s.h (owC mv L ow) s.h.next v hc := fz_ok hfz (fun n w z k hn => ⟨owC_lent hn hq2 hq1 (Bel.ext q w), rfl⟩) hdn h3
      refine ⟨.inr ⟨cs, ?_, ?_⟩, fun r hr => by cases hr⟩
      ·cases nd with
       | own z' l' => obtain ⟨rfl, _, _⟩ := ref_own C1 e1 hdn; unfold DR; exact hfr
       | box _ => exact absurd rfl hb
       | _ => cases hnode
      ·rw [e2]
       have : isAgg (.fv v) = isAgg nd := fz_agg h3
       rw [this]
       cases nd <;> first | rfl | cases hnode
    ·cases ha
 ·rename_i q w o hv
  rw [hv] at hx
  rcases hx with ⟨k', hk⟩ | ⟨cs, e1, e2⟩
  ·cases hk
  ·split at ha
   ·split at ha
    ·rename_i hq
     obtain ⟨hw, ho⟩ := hq
     obtain ⟨nd, h1, h2⟩ := Option.bind_eq_some_iff.1 ha
     split at h2
     ·rename_i d'
      injection h2 with h2; subst h2
      have hi := hm q rfl
      obtain ⟨hc, hdn⟩ := node_dr C1 h1
      have hcs := ptr_own C1 e1 hdn ho
      subst hcs
      refine ⟨.inr ⟨cs, ?_, e2⟩, fun r hr => by
       injection hr with hr; subst hr
       exact .inr (.inl ⟨fun hq => by rw [hroot q _ h1 _ hdn hq, e2]; rfl, _, _, h1, hdn, e2⟩)⟩
      exact hdn.mv (top' := true) (hMv q hi) (.inr ⟨fun x => (by cases x), fun _ _ _ _ hh => Bool.noConfusion hh⟩) (Nat.le_refl _)
     ·cases h2
    ·cases ha
   ·split at ha
    ·split at ha
     ·rename_i hwo
      obtain ⟨nd, h1, h2⟩ := Option.bind_eq_some_iff.1 ha
      split at h2
      ·rename_i hb
       obtain ⟨v, h3, rfl⟩ := Option.map_eq_some_iff.1 h2
       obtain ⟨hq1, hq2⟩ := hl q (by simp)
       obtain ⟨hc, hdn⟩ := node_dr C1 h1
       obtain ⟨_, _, _, _, hnode⟩ := node_at h1
       have hfr : FR s.h (owC mv L ow) s.h.next v hc := fz_ok hfz (fun n w z k hn => ⟨owC_lent hn hq2 hq1 (Bel.ext q w), rfl⟩) hdn h3
       refine ⟨.inr ⟨cs, ?_, ?_⟩, fun r hr => by cases hr⟩
       ·cases nd with
        | box _ => have := ptr_own C1 e1 hdn hwo.2; rw [this]; unfold DR; exact hfr
        | _ => cases hb
       ·rw [e2]
        have : isAgg (.fv v) = isAgg nd := fz_agg h3
        rw [this]
        cases nd <;> first | rfl | cases hnode
      ·cases h2
     ·cases ha
    ·cases ha
 ·cases ha
theorem ars_ok (C1 : Core (vl s G) s.h ow s.h.next st) {md : Nat → Nat} {mv : MV} {L : List Pt} (hok : ok2 mv = true) (hL : ∀ q ∈ L, ix mv q.1 = none) : ∀ {xs : List Operand} {i : Nat} {ds : List DV} {L' : List Pt} {mv' : MV}, ars st md i xs = some (ds, L', mv') → (∀ q ∈ L', q ∈ L) → (∀ e ∈ mv', e ∈ mv) →
  ds.length = xs.length ∧ (∀ j d v, ds[j]? = some d → (xs.map s.ev)[j]? = some v → VRc s.h (owC mv L ow) s.h.next (GB + (i + j), []) d v) ∧ ∀ r k w, (r, k, w) ∈ mv' → ∃ j, k = i + j ∧ ∃ v, (xs.map s.ev)[j]? = some v ∧ Giv st s G ow (r, w) v
 | [], i, ds, L', mv', h, _, _ => by
  unfold ars at h; injection h with h; injection h with h1 h2; injection h2 with h2 h3; subst h1; subst h2; subst h3
  exact ⟨rfl, fun j d v hd => by simp at hd, fun r k w hk => by simp at hk⟩
 | x :: xs, i, ds, L', mv', h, hL1, hm1 => by
  unfold ars at h
  obtain ⟨a, h1, h2⟩ := Option.bind_eq_some_iff.1 h
  obtain ⟨⟨ds2, L2, mv2⟩, h3, h4⟩ := Option.map_eq_some_iff.1 h2
  injection h4 with h4 h5; injection h5 with h5 h6; subst h4; subst h5; subst h6
  obtain ⟨k1, k2⟩ := ar2_ok C1 (i := i) (mv := mv) (L := L) h1 (fun q hq => by
   have := hL1 q (List.mem_append_left _ hq)
   exact ⟨this, hL q this⟩) (fun q hr => by
   refine ix_mem hok (hm1 _ (List.mem_append_left _ ?_))
   rw [hr]; simp)
  obtain ⟨q1, q2, q3⟩ := ars_ok C1 hok hL h3 (fun q hq => hL1 q (List.mem_append_right _ hq)) (fun e he => hm1 e (List.mem_append_right _ he))
  refine ⟨by simp [q1], fun j d v hd hv => ?_, fun r k w hk => ?_⟩
  ·cases j with
   | zero => simp at hd hv; subst hd; subst hv; exact k1
   | succ j =>
    simp only [List.getElem?_cons_succ, List.map_cons] at hd hv
    have := q2 j d v hd hv
    rw [show i + (j + 1) = i + 1 + j by omega]; exact this
  ·rcases List.mem_append.1 hk with hk | hk
   ·cases hamv : a.mv with
    | none => rw [hamv] at hk; simp at hk
    | some r0 =>
     rw [hamv] at hk
     simp only [List.mem_singleton] at hk
     injection hk with e1 e2; injection e2 with e2 e3; subst e1; subst e2; subst e3
     exact ⟨0, rfl, _, by simp, k2 r0 hamv⟩
   ·obtain ⟨j, e1, v, e2, e4⟩ := q3 r k w hk
    exact ⟨j + 1, by omega, v, by simpa using e2, e4⟩
theorem ix_of_mem {mv : MV} {r i : Nat} {w : List Nat} (h : ix mv r = some (i, w)) : (r, i, w) ∈ mv := by
 induction mv with
 | nil => cases h
 | cons a l ih =>
  obtain ⟨x, y, u⟩ := a
  unfold ix at h
  split at h
  ·rename_i hx; injection h with h; injection h with h h'; subst h; subst h'; subst hx; simp
  ·exact List.mem_cons_of_mem _ (ih h)
theorem up_ok {h h' : Hp} {ow ow' : Nat → Ow} {B : Nat} {q : Pt} {d0 nd o : DV} {cs : List Value} {val : Nat → Value} {st : St} (C : Core val h ow B st) (hL : q.1 ≠ LB) (hn : node st q = some nd) (hcs : DR h ow B false q nd cs) (ho : isNode o = true) (ho2 : DR h' ow' B false q o cs) (hout : OutR h ow h' ow' q) (hg : get st q.1 = some d0) (hw : q.2 ≠ []) :
  VR2 h' ow' B (q.1, []) ((setD q.2 d0 o).getD (.junk 1)) (val q.1) := by
 obtain ⟨d, h1, h2, h3, h4⟩ := node_at hn
 rw [hg] at h1; injection h1 with h1; subst h1
 cases h5 : setD q.2 d0 o with
 | none => exact .inr (.inl ⟨1, rfl⟩)
 | some d' =>
  simp only [Option.getD_some]
  obtain ⟨cs1, h6, h7⟩ := at_reg C hg h3 h4
  have h8 := DR.upd (p := (q.1, [])) hL h6 h3 h5 (fun _ => h2.symm) (ndA_node h4) (by
   intro hc hd
   simp only [List.nil_append] at hd ⊢
   have : hc = cs := by
    cases nd with
    | own z l =>
     obtain ⟨n1, css1, a1, _, _, a4, _⟩ := own_blk hd
     obtain ⟨n2, css2, b1, _, _, b4, _⟩ := own_blk hcs
     obtain rfl := C.inj _ _ _ _ _ _ _ a4 b4
     rw [a1, b1]
    | box d =>
     obtain ⟨n1, c1, a1, _, a4, _⟩ := box_blk hd
     obtain ⟨n2, c2, b1, _, b4, _⟩ := box_blk hcs
     obtain rfl := C.inj _ _ _ _ _ _ _ a4 b4
     rw [a1, b1]
    | _ => cases h4
   rw [this]; exact ho2) (by simpa using hout)
  have hnag : isAgg nd = false := by cases nd <;> first | rfl | cases h4
  have hoag : isAgg o = false := by cases o <;> first | rfl | cases ho
  right; right
  refine ⟨cs1, ?_, by rw [setD_agg h3 h5 hnag hoag]; exact h7⟩
  exact h8.mv (top' := true) ⟨fun _ hh => ⟨hh, rfl⟩, fun _ _ _ _ hh => ⟨hh, rfl⟩⟩ (.inr ⟨fun _ => rfl, fun _ _ _ _ _ hh => hh⟩) (Nat.le_refl _)
theorem setD_agA : ∀ {w : List Nat} {d d' nd nd' : DV}, atD w d = some nd → setD w d nd' = some d' → isAgg nd = isAgg nd' → isAgg d' = isAgg d
 | [], d, d', nd, nd', h1, h2, h3 => by
  simp only [atD, Option.some.injEq] at h1; subst h1
  simp only [setD, Option.some.injEq] at h2; subst h2
  exact h3.symm
 | i :: w, .own z l, d', nd, nd', h1, h2, h3 => by
  simp only [setD] at h2
  obtain ⟨x, _, h5⟩ := Option.bind_eq_some_iff.1 h2
  obtain ⟨y, _, rfl⟩ := Option.map_eq_some_iff.1 h5
  rfl
 | i :: w, .agg l, d', nd, nd', h1, h2, h3 => by
  simp only [setD] at h2
  obtain ⟨x, _, h5⟩ := Option.bind_eq_some_iff.1 h2
  obtain ⟨y, _, rfl⟩ := Option.map_eq_some_iff.1 h5
  rfl
 | i :: w, .box d, d', nd, nd', h1, h2, h3 => by
  simp only [setD] at h2
  split at h2
  ·obtain ⟨y, _, rfl⟩ := Option.map_eq_some_iff.1 h2; rfl
  ·cases h2
 | i :: w, .fv (.agg l), d', nd, nd', h1, h2, h3 => by
  simp only [setD] at h2
  obtain ⟨x, _, h5⟩ := Option.bind_eq_some_iff.1 h2
  obtain ⟨y, _, rfl⟩ := Option.map_eq_some_iff.1 h5
  cases y <;> rfl
 | i :: w, .hdr _ _ _, d', nd, nd', h1, h2, h3 => by simp [atD] at h1
 | i :: w, .ptr _ _ _, d', nd, nd', h1, h2, h3 => by simp [atD] at h1
 | i :: w, .tup _, d', nd, nd', h1, h2, h3 => by simp [atD] at h1
 | i :: w, .junk _, d', nd, nd', h1, h2, h3 => by simp [atD] at h1
 | i :: w, .fv (.int _ _), d', nd, nd', h1, h2, h3 => by simp [atD] at h1
 | i :: w, .fv (.bool _), d', nd, nd', h1, h2, h3 => by simp [atD] at h1
 | i :: w, .fv (.str _), d', nd, nd', h1, h2, h3 => by simp [atD] at h1
 | i :: w, .fv .nil, d', nd, nd', h1, h2, h3 => by simp [atD] at h1
 | i :: w, .fv .nilp, d', nd, nd', h1, h2, h3 => by simp [atD] at h1
 | i :: w, .fv (.row _ _), d', nd, nd', h1, h2, h3 => by simp [atD] at h1
 | i :: w, .fv (.fp _), d', nd, nd', h1, h2, h3 => by simp [atD] at h1
 | i :: w, .fv (.fn _ _ _), d', nd, nd', h1, h2, h3 => by simp [atD] at h1
theorem up_okA {h h' : Hp} {ow ow' : Nat → Ow} {B : Nat} {q : Pt} {d0 nd o : DV} {val : Nat → Value} {st : St} (C : Core val h ow B st) (hL : q.1 ≠ LB) (hg : get st q.1 = some d0) (hd : isNode d0 = true ∨ noRef d0 = true) (hat : atD q.2 d0 = some nd) (hna : ndA nd = true) (hag : isAgg nd = true) (hoa : isAgg o = true) (ho2 : ∀ hc, DR h ow B false q nd hc → DR h' ow' B false q o hc) (hout : OutR h ow h' ow' q) (hw : q.2 ≠ []) :
  VR2 h' ow' B (q.1, []) ((setD q.2 d0 o).getD (.junk 1)) (val q.1) := by
 cases h5 : setD q.2 d0 o with
 | none => exact .inr (.inl ⟨1, rfl⟩)
 | some d' =>
  simp only [Option.getD_some]
  have hne : ∀ {d : DV}, (∃ l, d = .tup l) ∨ (∃ k, d = .junk k) → atD q.2 d = none := by
   intro d hd
   cases hq : q.2 with
   | nil => exact absurd hq hw
   | cons i w => rcases hd with ⟨l, rfl⟩ | ⟨k, rfl⟩ <;> rfl
  rcases C.regs q.1 d0 hg with ⟨l, vs, hl, _⟩ | ⟨k, hk⟩ | ⟨cs1, h6, h7⟩
  ·rw [hne (.inl ⟨l, hl⟩)] at hat; cases hat
  ·rw [hne (.inr ⟨k, hk⟩)] at hat; cases hat
  ·have h8 := DR.upd (p := (q.1, [])) hL h6 hat h5 (fun _ => hd.symm) hna (by
    intro hc hdr
    simp only [List.nil_append] at hdr ⊢
    exact ho2 hc hdr) (by simpa using hout)
   right; right
   refine ⟨cs1, ?_, by rw [setD_agA hat h5 (by rw [hag, hoa])]; exact h7⟩
   exact h8.mv (top' := true) ⟨fun _ hh => ⟨hh, rfl⟩, fun _ _ _ _ hh => ⟨hh, rfl⟩⟩ (.inr ⟨fun _ => rfl, fun _ _ _ _ _ hh => hh⟩) (Nat.le_refl _)
end
section
variable {CR : Rel} {h0 : Hp} {ow0 ow : Nat → Ow} {G : Nat → Value} {s : S} {st : St}
theorem node_one {h : Hp} {ow : Nat → Ow} {B : Nat} {top : Bool} {p : Pt} {d : DV} {cs : List Value} (hn : isNode d = true) (e : DR h ow B top p d cs) : ∃ v, cs = [v] := by
 cases d with
 | own z l => obtain ⟨n, css, a, _⟩ := own_blk e; exact ⟨_, a⟩
 | box d => obtain ⟨n, c, a, _⟩ := box_blk e; exact ⟨_, a⟩
 | _ => cases hn
theorem call_ok {r0 : Nat} {dst : Option Nat} {md : Nat → Nat} {xs : List Operand} {ds outs : List DV} {d : DV} {L : List Pt} {mv : MV} {f : FuncId} {bs : List FV} {vb : List Value} (C1 : Core (vl s G) s.h ow s.h.next st) (hbl : vb.length = bs.length) (hbs : ∀ (j : Nat) (b : FV) (v : Value), bs[j]? = some b → vb[j]? = some v → ∃ cs, FR s.h ow s.h.next b cs ∧ v = mkv (isAggF b) cs) (htop : ∀ n, s.h.next ≤ n → s.h.blk n = none)
  (hfree : ∀ n p z k, ow n = .of p z k → p.1 ≠ r0 ∧ p.1 ≠ LB) (hdst : dst = none ∨ (dst = some r0 ∧ r0 < LB)) (hg : get st r0 = none) (ha : ars st md 0 xs = some (ds, L, mv)) (hok : ok2 mv = true) (hL : ∀ q ∈ L, ix mv q.1 = none) (hnr : noRef d = true) (hno : noRefs outs = true) (hcl : L = [] ∨ (clD d = true ∧ clDs outs = true)) (hc : C2 CR f (ds ++ bs.map .fv) d outs) :
  ∃ v h' ow2, CR f (xs.map s.ev ++ vb) s.h v h' ∧ s.h.next ≤ h'.next ∧ (∀ n, n < s.h.next → s.h.blk n = none → h'.blk n = none) ∧ (∀ n, n < s.h.next → (ow n = .fz ∨ ow n = .no) → ow2 n = ow n ∧ h'.blk n = s.h.blk n) ∧ (mv = [] → ∀ n, n < s.h.next → h'.blk n = s.h.blk n) ∧ (∀ n, h'.next ≤ n → h'.blk n = none) ∧
   Core (vl ((s.hp h').put dst v) G) h' ow2 h'.next (aft mv dst d outs st) ∧ (mv = [] → ∀ n p z k, ow n = .of p z k → ow2 n = .of p z k) := by
 obtain ⟨a1, a2, a3⟩ := ars_ok C1 hok hL (i := 0) ha (fun q hq => hq) (fun e he => he)
 have hixi := ixi hok
 have hinjC : ∀ n m p z k z' k', owC mv L ow n = .of p z k → owC mv L ow m = .of p z' k' → n = m := by
  intro n m p z k z' k' h1 h2
  obtain ⟨q, i, v, e1, e2, e3⟩ := owC_of h1
  obtain ⟨q', i', v', f1, f2, f3⟩ := owC_of h2
  rw [e2] at f2; injection f2 with f2 f4
  have : i = i' := by omega
  subst this; subst f4
  obtain ⟨w, g1, g2⟩ := gvn_some.1 e1
  obtain ⟨w', g3, g4⟩ := gvn_some.1 f1
  have hr : some (q.1, w) = some (q'.1, w') := by rw [← (hixi _ i _).1 g1, ← (hixi _ i _).1 g3]
  injection hr with hr; injection hr with hr1 hr2
  have : q = q' := by
   obtain ⟨x, y⟩ := q; obtain ⟨x', y'⟩ := q'
   simp only at hr1 g2 g4; subst hr1; subst hr2; rw [g2, g4]
  subst this
  exact C1.inj _ _ _ _ _ _ _ e3 f3
 obtain ⟨v, h', ow', c1, c2, c3, c4, c5, c6, c7⟩ := hc s.h (owC mv L ow) (xs.map s.ev ++ vb) (by simp [a1, hbl]) (fun i d v hd hv => by
  rcases Nat.lt_or_ge i ds.length with hl | hl
  ·rw [List.getElem?_append_left hl] at hd
   rw [List.getElem?_append_left (by simp; omega)] at hv
   have := a2 i d v hd hv; rw [Nat.zero_add] at this; exact this
  ·rw [List.getElem?_append_right hl, List.getElem?_map] at hd
   rw [List.getElem?_append_right (by simp; omega)] at hv
   obtain ⟨b, hb1, rfl⟩ := Option.map_eq_some_iff.1 hd
   rw [List.length_map, ← a1] at hv
   obtain ⟨cs, e1, e2⟩ := hbs _ b v hb1 hv
   exact .inr ⟨cs, by unfold DR; exact e1.mono (fun n hn => ⟨owC_fz hn, rfl⟩) (Nat.le_refl _), e2⟩) hinjC (fun n hn => owC_no (C1.nn n hn)) (fun n p z k hh => by
  obtain ⟨q, i, w, _, rfl, _⟩ := owC_of hh
  exact Nat.le_add_right _ _) htop
 -- who owns what behind the call
 have hlt : ∀ n p z k, ow n = .of p z k → n < s.h.next := fun n p z k hn => Nat.lt_of_not_le fun hle => by
  have := C1.nn n (htop n hle)
  rw [hn] at this; cases this
 have hun : ∀ n p z k, ow n = .of p z k → gvn mv p = none → owR mv dst s.h.next ow ow' n = .of p z k ∧ h'.blk n = s.h.blk n := by
  intro n p z k hn hi
  have hl := hlt n p z k hn
  refine ⟨by unfold owR; rw [if_pos hl, hn]; simp only [hi]; simp, ?_⟩
  rcases owC_other (L := L) hn hi with hh | hh
  ·exact (c2.fz n hl hh).2
  ·exact (c2.no n hl hh).2
 have hother : ∀ n, n < s.h.next → (∀ p z k, ow n = .of p z k → gvn mv p ≠ none) → owR mv dst s.h.next ow ow' n = bkO mv dst (ow' n) := by
  intro n hn hp
  unfold owR; rw [if_pos hn]
  cases ho : ow n with
  | fz => rfl
  | no => rfl
  | of p z k =>
   simp only
   have := hp p z k ho
   cases hi : gvn mv p with
   | none => exact absurd hi this
   | some i => simp
 have hnew : ∀ n, s.h.next ≤ n → owR mv dst s.h.next ow ow' n = bkO mv dst (ow' n) := by
  intro n hn; unfold owR; rw [if_neg (by omega)]
 -- an owned block of the call's is no other's
 have hback : ∀ n p z k, ow' n = .of p z k → owR mv dst s.h.next ow ow' n = bkO mv dst (.of p z k) := by
  intro n p z k hn
  rcases Nat.lt_or_ge n s.h.next with hl | hl
  ·rw [hother n hl, hn]
   intro p' z' k' ho hi
   rcases owC_other (L := L) ho hi with hh | hh
   ·rw [(c2.fz n hl hh).1] at hn; cases hn
   ·rw [(c2.no n hl hh).1] at hn; cases hn
  ·rw [hnew n hl, hn]
 have hfzno : ∀ n, n < s.h.next → (ow n = .fz ∨ ow n = .no) → owR mv dst s.h.next ow ow' n = ow n ∧ h'.blk n = s.h.blk n := by
  intro n hl hh
  rw [hother n hl (fun p z k ho => by rcases hh with hh | hh <;> (rw [hh] at ho; cases ho))]
  rcases hh with hh | hh
  ·obtain ⟨q1, q2⟩ := c2.fz n hl (owC_fz hh)
   exact ⟨by rw [q1, hh]; rfl, q2⟩
  ·obtain ⟨q1, q2⟩ := c2.no n hl (owC_no hh)
   exact ⟨by rw [q1, hh]; rfl, q2⟩
 have hfz : FzSame s.h ow h' (owR mv dst s.h.next ow ow') := fun n hn => by
  have hl : n < s.h.next := Nat.lt_of_not_le fun hle => by
   have := C1.nn n (htop n hle)
   rw [hn] at this; cases this
  obtain ⟨q1, q2⟩ := hfzno n hl (.inl hn)
  exact ⟨q1.trans hn, q2⟩
 refine ⟨v, h', owR mv dst s.h.next ow ow', c1, c2.nx, c2.nr, hfzno, ?_, c3, ?_, fun hmv n p z k hn => (hun n p z k hn (by subst hmv; rfl)).1⟩
 ·intro hmv n hl
  subst hmv
  cases ho : ow n with
  | fz => exact (hfzno n hl (.inl ho)).2
  | no => exact (hfzno n hl (.inr ho)).2
  | of p z k => exact (hun n p z k ho rfl).2
 ·have hLBr : r0 ≠ LB ∨ dst = none := by
   rcases hdst with hd | ⟨_, hd⟩
   ·exact .inr hd
   ·exact .inl (by omega)
  -- going back
  have bk_cases : ∀ n p z k, owR mv dst s.h.next ow ow' n = .of p z k → (ow n = .of p z k ∧ gvn mv p = none) ∨ (∃ r w, dst = some r ∧ p = (r, w) ∧ ow' n = .of (LB, w) z k) ∨ (∃ i w, gvn mv p = some (i, w) ∧ ow' n = .of (GB + i, w) z k) := by
   intro n p z k hh
   have key : ∀ o, bkO mv dst o = .of p z k → (∃ r w, dst = some r ∧ p = (r, w) ∧ o = .of (LB, w) z k) ∨ (∃ i w, gvn mv p = some (i, w) ∧ o = .of (GB + i, w) z k) := by
    intro o ho
    cases o with
    | fz => cases ho
    | no => cases ho
    | of p' z' k' =>
     obtain ⟨p1, p2⟩ := p'
     simp only [bkO] at ho
     split at ho
     ·rename_i hp1
      subst hp1
      split at ho
      ·rename_i r
       injection ho with e1 e2 e3
       subst e2; subst e3
       exact .inl ⟨_, p2, rfl, e1.symm, rfl⟩
      ·cases ho
     ·split at ho
      ·rename_i hg2
       split at ho
       ·rename_i r w hr
        injection ho with e1 e2 e3
        subst e2; subst e3
        refine .inr ⟨p1 - GB, p2, ?_, by rw [Nat.add_sub_cancel' hg2]⟩
        rw [← e1]
        exact gvn_some.2 ⟨w, (hixi r _ w).2 hr, rfl⟩
       ·cases ho
      ·cases ho
   rcases Nat.lt_or_ge n s.h.next with hl | hl
   ·unfold owR at hh
    rw [if_pos hl] at hh
    cases ho : ow n with
    | fz => rw [ho] at hh; exact .inr (key _ hh)
    | no => rw [ho] at hh; exact .inr (key _ hh)
    | of p' z' k' =>
     rw [ho] at hh
     simp only at hh
     split at hh
     ·exact .inr (key _ hh)
     ·rename_i hi
      injection hh with e1 e2 e3
      subst e1; subst e2; subst e3
      exact .inl ⟨rfl, by simpa using hi⟩
   ·rw [hnew n hl] at hh; exact .inr (key _ hh)
  have bk_dst : ∀ n r w z k, dst = some r → ow' n = .of (LB, w) z k → owR mv dst s.h.next ow ow' n = .of (r, w) z k := by
   intro n r w z k hd hn
   rw [hback n _ z k hn]; simp [bkO, hd]
  have bk_mv : ∀ n r i w u z k, ix mv r = some (i, u) → ow' n = .of (GB + i, w) z k → owR mv dst s.h.next ow ow' n = .of (r, u ++ w) z k := by
   intro n r i w u z k hi hn
   rw [hback n _ z k hn]
   have h1 : GB + i ≠ LB := by unfold GB LB; omega
   simp only [bkO]
   rw [if_neg h1, if_pos (Nat.le_add_right _ _), Nat.add_sub_cancel_left, (hixi r i u).1 hi]
  have hgiv : ∀ r i w, ix mv r = some (i, w) → ∃ v2, (xs.map s.ev ++ vb)[i]? = some v2 ∧ Giv st s G ow (r, w) v2 := by
   intro r i w hi
   obtain ⟨j, e1, v2, e2', e4⟩ := a3 r i w (ix_of_mem hi)
   rw [Nat.zero_add] at e1; subst e1
   exact ⟨v2, by rw [List.getElem?_append_left (List.getElem?_eq_some_iff.1 e2').1]; exact e2', e4⟩
  have hmvreg : ∀ r i w, ix mv r = some (i, w) → ∃ nd, get st r = some nd := by
   intro r i w hi
   obtain ⟨v2, _, h2⟩ := hgiv r i w hi
   rcases h2 with ⟨_, _, nd, h3, _⟩ | ⟨_, nd, cs, h3, _⟩ | ⟨_, dr, _, h3, _⟩
   ·exact ⟨nd, h3⟩
   ·exact get_of_node h3
   ·exact ⟨dr, h3⟩
  have hmvr0 : ix mv r0 = none := by
   cases hi : ix mv r0 with
   | none => rfl
   | some a => obtain ⟨nd, h1⟩ := hmvreg r0 a.1 a.2 hi; rw [hg] at h1; cases h1
  have hfzL : L = [] → FzSame h' ow' h' (owR mv dst s.h.next ow ow') := by
   intro hLe n hn
   subst hLe
   refine ⟨?_, rfl⟩
   rcases Nat.lt_or_ge n s.h.next with hl | hl
   ·rw [hother n hl, hn]; rfl
    intro p z k ho hi
    have := owC_otherL ho hi
    rw [(c2.no n hl this).1] at hn; cases hn
   ·rw [hnew n hl, hn]; rfl
  have hvalr : ∀ q, (∀ r, dst = some r → q ≠ r) → vl ((s.hp h').put dst v) G q = vl s G q := by
   intro q hq
   cases hd : dst with
   | none => rfl
   | some r => rw [vl_put_ne q (hq r hd)]; rfl
  -- what was given
  have hmvO : ∀ r i w o v2, ix mv r = some (i, w) → outs[i]? = some o → VRc h' ow' h'.next (GB + i, []) o v2 → VRc h' (owR mv dst s.h.next ow ow') h'.next (r, w) o v2 := by
   intro r i w o v2 hi ho h1
   rcases hcl with hcl | ⟨_, hcl⟩
   ·exact h1.mv ⟨hfzL hcl, fun n u z k hn => ⟨by have := bk_mv n r i u w z k hi (by simpa using hn); simpa using this, rfl⟩⟩ (Nat.le_refl _) (noRefs_get hno ho)
   ·refine h1.cl (fun n u z k hn => ⟨by have := bk_mv n r i u w z k hi (by simpa using hn); simpa using this, rfl⟩) (Nat.le_refl _) ?_
    have : ∀ {l : List DV} {j : Nat} {d : DV}, clDs l = true → l[j]? = some d → clD d = true := by
     intro l
     induction l with
     | nil => intro j d _ hj; simp at hj
     | cons a l ih =>
      intro j d hl hj
      unfold clDs at hl; rw [Bool.and_eq_true] at hl
      cases j with
      | zero => simp at hj; subst hj; exact hl.1
      | succ j => simp at hj; exact ih hl.2 hj
    exact this hcl ho
  have hmvs : ∀ r i w d0, ix mv r = some (i, w) → get st r = some d0 → VR2 h' (owR mv dst s.h.next ow ow') h'.next (r, []) (upD outs d0 (i, w)) (vl s G r) := by
   intro r i w d0 hi hd0
   obtain ⟨v2, e2, e4⟩ := hgiv r i w hi
   cases w with
   | nil =>
    have e3 : vl s G r = v2 := by
     rcases e4 with ⟨_, e, _⟩ | ⟨e, _⟩ | ⟨e, _⟩
     ·exact e
     ·exact e rfl
     ·exact absurd rfl e
    show VR2 _ _ _ _ (outD outs i) _
    unfold outD
    cases ho : outs[i]? with
    | none => exact .inr (.inl ⟨1, rfl⟩)
    | some o =>
     have h1 := c7 i o v2 ho e2
     simp only [Option.getD_some]
     rw [e3]
     exact .inr (hmvO r i [] o v2 hi ho h1)
   | cons a w =>
    have hout0 : OutR s.h ow h' (owR mv dst s.h.next ow ow') (r, a :: w) := ⟨hfz, fun n q z k q1 q2 q3 _ => by
     refine (hun n q z k q1 ?_)
     cases hgq : gvn mv q with
     | none => rfl
     | some b =>
      obtain ⟨j, u⟩ := b
      obtain ⟨w', f1, f2⟩ := gvn_some.1 hgq
      simp only at q2
      rw [q2, hi] at f1
      injection f1 with f1; injection f1 with f1 f3; subst f3
      exact absurd ⟨q2.symm, u, f2⟩ q3⟩
    rcases e4 with ⟨e, _⟩ | ⟨_, nd, cs, g1, g2, g3⟩ | ⟨_, dr, nd, g0, g1, g2, gag, ⟨cs, g3⟩, g4⟩
    ·cases e
    rotate_left
    ·simp only at g0 g1
     rw [hd0] at g0; injection g0 with g0; subst g0
     unfold upD
     simp only
     split
     ·rename_i hnode
      unfold outD at hnode ⊢
      cases ho : outs[i]? with
      | none => rw [ho] at hnode; cases hnode
      | some o =>
       rw [ho] at hnode
       simp only [Option.getD_some] at hnode ⊢
       rcases hmvO r i _ o v2 hi ho (c7 i o v2 ho e2) with ⟨kk, hkk⟩ | ⟨cs2, q1, q2⟩
       ·subst hkk; cases hnode
       ·cases o with
        | own z2 l2 => obtain ⟨n2, css2, b1, _⟩ := own_blk q1; rw [g3, b1] at q2; cases q2
        | box _ => obtain ⟨n2, c2', b1, _⟩ := box_blk q1; rw [g3, b1] at q2; cases q2
        | agg l2 =>
         have hno2 : noRef (.agg l2) = true := noRefs_get hno ho
         refine up_okA (q := (r, a :: w)) (C1.mono c2.nx) (C1.lim r d0 hd0) hd0 (by simpa [okUp] using hnode) g1 g2 gag rfl (fun hc hd => ?_) hout0 (by simp)
         have h9 := g4 _ hc c2.nx hd
         rw [q2] at h9
         have h10 : cs2 = hc := by
          have : Value.agg cs2.toArray = Value.agg hc.toArray := h9
          injection this with this
          have := congrArg Array.toList this
          simpa using this
         subst h10
         exact q1.topA (by unfold noRef at hno2; exact hno2)
        | _ => cases hnode
     ·exact .inr (.inl ⟨1, rfl⟩)
    unfold upD
    simp only
    split
    ·rename_i hnode
     unfold outD at hnode ⊢
     cases ho : outs[i]? with
     | none => rw [ho] at hnode; cases hnode
     | some o =>
      rw [ho] at hnode
      simp only [Option.getD_some] at hnode ⊢
      have h1 := hmvO r i _ o v2 hi ho (c7 i o v2 ho e2)
      rcases h1 with ⟨k, hk⟩ | ⟨cs', k1, k2⟩
      ·subst hk; cases hnode
      obtain ⟨_, _, _, _, hndn⟩ := node_at g1
      have hoag : isAgg o = false := by
       cases o with
       | agg l2 =>
        exfalso
        cases nd with
        | own z2 l3 => obtain ⟨n2, css2, b1, _⟩ := own_blk g2; rw [g3, b1] at k2; cases k2
        | box _ => obtain ⟨n2, c2', b1, _⟩ := box_blk g2; rw [g3, b1] at k2; cases k2
        | _ => cases hndn
       | _ => first | rfl | cases hnode
      rw [hoag] at k2
      replace hnode : isNode o = true := by cases o <;> first | rfl | cases hnode | cases hoag
      obtain ⟨x1, rfl⟩ := node_one hndn g2
      obtain ⟨x2, rfl⟩ := node_one hnode k1
      have hxx : x2 = x1 := by rw [k2] at g3; exact g3
      subst hxx
      exact up_ok (C1.mono c2.nx) (C1.lim r d0 hd0) g1 (g2.mv (top' := false) ⟨fun _ hh => ⟨hh, rfl⟩, fun _ _ _ _ hh => ⟨hh, rfl⟩⟩ (.inr ⟨id, fun _ _ _ _ hh => Bool.noConfusion hh⟩) c2.nx) hnode (k1.topI hnode) hout0 hd0 (by simp)
    ·exact .inr (.inl ⟨1, rfl⟩)
  -- the core without the result
  have main : Core (vl ((s.hp h').put dst v) G) h' (owR mv dst s.h.next ow ow') h'.next (upS mv outs st) := by
   refine ⟨fun q x hx => ?_, ?_, ?_, fun q x hx => ?_⟩
   ·rw [get_upS] at hx
    obtain ⟨x0, hx0, hx⟩ := Option.map_eq_some_iff.1 hx
    rw [hvalr q]
    ·cases hi : ix mv q with
     | some a =>
      rw [hi] at hx
      simp only at hx; subst hx
      exact hmvs q a.1 a.2 x0 hi hx0
     | none =>
      rw [hi] at hx
      simp only at hx; subst hx
      refine (C1.regs q x0 hx0).kl ⟨hfz, fun n p z k hk hn => ?_⟩ c2.nx ⟨hfz, fun n w z k hn => hun n _ z k hn (gvn_none hi)⟩
      cases hip : gvn mv p with
      | none => exact (hun n p z k hn hip).1
      | some b =>
       obtain ⟨i, u⟩ := b
       unfold klC at hk
       rw [hip] at hk
       simp only [Bool.not_eq_false', Bool.and_eq_true, List.isEmpty_iff] at hk
       obtain ⟨hp2, hnd⟩ := hk
       subst hp2
       obtain ⟨w, hiw, hpw⟩ := gvn_some.1 hip
       rw [List.append_nil] at hpw
       have hpe : p = (p.1, w) := by rw [← hpw]
       -- its header is as it was
       obtain ⟨v2, e2, e4⟩ := hgiv p.1 i w hiw
       unfold outD at hnd
       cases ho : outs[i]? with
       | none => rw [ho] at hnd; cases hnd
       | some o =>
        rw [ho] at hnd
        simp only [Option.getD_some] at hnd
        have h1 := c7 i o v2 ho e2
        rcases h1 with ⟨kk, hkk⟩ | ⟨cs2, q1, q2⟩
        ·subst hkk; cases hnd
        have hbk : ∀ z' k', ow' n = .of (GB + i, []) z' k' → z' = z → k' = k → owR mv dst s.h.next ow ow' n = .of p z k := by
         rintro z' k' hh rfl rfl
         have := bk_mv n p.1 i [] w z' k' hiw hh
         rw [List.append_nil] at this
         rw [hpe]; exact this
        rcases e4 with ⟨hw, e3, nd, e4, e5, e6⟩ | ⟨_, nd, cs, g1, g2, g3⟩ | ⟨_, _, _, _, _, _, _, ⟨cs, g3⟩, _⟩
        rotate_right
        ·exfalso
         rw [g3] at q2
         cases o with
         | own z2 l2 => obtain ⟨n2, css2, d1, _⟩ := own_blk q1; rw [d1] at q2; cases q2
         | box _ => obtain ⟨n2, c2', d1, _⟩ := box_blk q1; rw [d1] at q2; cases q2
         | _ => cases hnd
        ·exfalso
         simp only at e3 e4
         have hreg := C1.regs p.1 nd e4
         rcases hreg with ⟨l', vs, rfl, _⟩ | hreg
         ·cases e6
         ·rcases hreg with ⟨k, rfl⟩ | ⟨cs0, k1, k2⟩
          ·cases e6
          ·rw [e3, q2, e6] at k2
           cases o with
           | own z2 l2 => obtain ⟨n2, css2, d1, _⟩ := own_blk q1; rw [d1] at k2; cases k2
           | box _ => obtain ⟨n2, c2', d1, _⟩ := box_blk q1; rw [d1] at k2; cases k2
           | _ => cases hnd
        ·obtain ⟨_, _, _, _, hndn⟩ := node_at g1
         rw [hpe] at hn
         cases nd with
         | own z1 l1 =>
          obtain ⟨n1, css, b1, _, _, b2, _⟩ := own_blk g2
          obtain rfl := C1.inj _ _ _ _ _ _ _ hn b2
          rw [hn] at b2; injection b2 with _ b3 b4
          cases o with
          | own z2 l2 =>
           obtain ⟨n2, css2, d1, _, _, d2, _⟩ := own_blk q1
           have hv2 : v2 = .slice (some ⟨n2, 0, none⟩) l2.length (U z2) := by rw [q2, d1]; rfl
           have hv1 : v2 = .slice (some ⟨n, 0, none⟩) l1.length (U z1) := by rw [g3, b1]; rfl
           rw [hv2] at hv1
           injection hv1 with x1 x2 x3
           injection x1 with x1; injection x1 with x1
           have x4 : z2 = z1 := by unfold U at x3; omega
           subst x1; subst x4
           exact hbk _ _ d2 b3.symm (by rw [x2]; exact b4.symm)
          | box _ =>
           obtain ⟨n2, css2, d1, _⟩ := box_blk q1
           have hv2 : v2 = .pointer (some ⟨n2, 0, none⟩) := by rw [q2, d1]; rfl
           have hv1 : v2 = .slice (some ⟨n, 0, none⟩) l1.length (U z1) := by rw [g3, b1]; rfl
           rw [hv2] at hv1; cases hv1
          | _ => cases hnd
         | box d1' =>
          obtain ⟨n1, c, b1, _, b2, _⟩ := box_blk g2
          obtain rfl := C1.inj _ _ _ _ _ _ _ hn b2
          rw [hn] at b2; injection b2 with _ b3 b4
          cases o with
          | own z2 l2 =>
           obtain ⟨n2, css2, d1, _⟩ := own_blk q1
           have hv2 : v2 = .slice (some ⟨n2, 0, none⟩) l2.length (U z2) := by rw [q2, d1]; rfl
           have hv1 : v2 = .pointer (some ⟨n, 0, none⟩) := by rw [g3, b1]; rfl
           rw [hv2] at hv1; cases hv1
          | box _ =>
           obtain ⟨n2, c2', d1, _, d2, _⟩ := box_blk q1
           have hv2 : v2 = .pointer (some ⟨n2, 0, none⟩) := by rw [q2, d1]; rfl
           have hv1 : v2 = .pointer (some ⟨n, 0, none⟩) := by rw [g3, b1]; rfl
           rw [hv2] at hv1
           injection hv1 with x1; injection x1 with x1; injection x1 with x1
           subst x1
           exact hbk _ _ d2 b3.symm b4.symm
          | _ => cases hnd
         | _ => cases hndn
    ·intro r hr hq; subst hq
     rcases hdst with hd | ⟨hd, _⟩
     ·rw [hd] at hr; cases hr
     ·rw [hd] at hr; injection hr with hr; subst hr; rw [hg] at hx0; cases hx0
   ·intro n m p z k z' k' h1 h2
    rcases bk_cases n p z k h1 with ⟨e1, e2⟩ | ⟨r, w, e1, e2, e3⟩ | ⟨i, w, e2, e3⟩ <;> rcases bk_cases m p z' k' h2 with ⟨f1, f2⟩ | ⟨r', w', f1, f2, f3⟩ | ⟨i', w', f2, f3⟩
    ·exact C1.inj _ _ _ _ _ _ _ e1 f1
    ·exfalso
     rcases hdst with hd | ⟨hd, _⟩
     ·rw [hd] at f1; cases f1
     ·rw [hd] at f1; injection f1 with f1; subst f1
      exact (hfree _ _ _ _ e1).1 (by rw [f2])
    ·rw [e2] at f2; cases f2
    ·exfalso
     rcases hdst with hd | ⟨hd, _⟩
     ·rw [hd] at e1; cases e1
     ·rw [hd] at e1; injection e1 with e1; subst e1
      exact (hfree _ _ _ _ f1).1 (by rw [e2])
    ·rw [e2] at f2; injection f2 with _ f2; subst f2; exact c4 _ _ _ _ _ _ _ e3 f3
    ·exfalso
     rw [e2] at f2
     rcases hdst with hd | ⟨hd, _⟩
     ·rw [hd] at e1; cases e1
     ·rw [hd] at e1; injection e1 with e1; subst e1; rw [gvn_none hmvr0] at f2; cases f2
    ·rw [e2] at f2; cases f2
    ·exfalso
     rw [f2] at e2
     rcases hdst with hd | ⟨hd, _⟩
     ·rw [hd] at f1; cases f1
     ·rw [hd] at f1; injection f1 with f1; subst f1; rw [gvn_none hmvr0] at e2; cases e2
    ·rw [e2] at f2; injection f2 with f2; injection f2 with f2 f4; subst f2; subst f4
     exact c4 _ _ _ _ _ _ _ e3 f3
   ·intro n hn
    have h1 := c5 n hn
    rcases Nat.lt_or_ge n s.h.next with hl | hl
    ·cases ho : ow n with
     | fz => rw [(hfzno n hl (.inl ho)).2] at hn; have := C1.nn n hn; rw [ho] at this; cases this
     | no => rw [(hfzno n hl (.inr ho)).1, ho]
     | of p z k =>
      cases hi : gvn mv p with
      | none => rw [(hun n p z k ho hi).2] at hn; have := C1.nn n hn; rw [ho] at this; cases this
      | some i =>
       rw [hother n hl, h1]; rfl
       intro p' z' k' ho'; rw [ho] at ho'; injection ho' with ho'; subst ho'; rw [hi]; simp
    ·rw [hnew n hl, h1]; rfl
   ·rw [get_upS] at hx
    obtain ⟨x0, hx0, _⟩ := Option.map_eq_some_iff.1 hx
    exact C1.lim q x0 hx0
  cases hd : dst with
  | none => rw [hd] at main; exact main
  | some r =>
   rw [hd] at main
   rcases hdst with hd2 | ⟨hd2, hlt2⟩
   ·rw [hd2] at hd; cases hd
   ·rw [hd] at hd2; injection hd2 with hd2; subst hd2
    refine main.add (by omega) ?_
    rw [vl_put hlt2]
    rcases hcl with hcl | ⟨hcl, _⟩
    ·have := hfzL hcl
     rw [hd] at this
     exact c6.mv ⟨this, fun n w z k hn => ⟨by have := bk_dst n r w z k hd (by simpa using hn); rw [hd] at this; simpa using this, rfl⟩⟩ (Nat.le_refl _) hnr
    ·exact c6.cl (fun n w z k hn => ⟨by have := bk_dst n r w z k hd (by simpa using hn); rw [hd] at this; simpa using this, rfl⟩) (Nat.le_refl _) hcl
end
end Go.Proofs.YtonpnjfclelpiaaGreatM
