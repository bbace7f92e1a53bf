import Derived.Test.YtonpnjfclelpiaaGreatVDMvi
namespace Go.Proofs.YtonpnjfclelpiaaGreatM
open Go
set_option linter.unusedVariables false
set_option linter.unusedSimpArgs false
def ini : Nat → List DV → St
 | _, [] => []
 | i, .fv v :: ds => (i, .fv v) :: ini (i + 1) ds
 | i, d :: ds => (i, cp (GB + i, []) d) :: (GB + i, d) :: ini (i + 1) ds
mutual
theorem ab_agg : ∀ {d d' : DV} {a a' : Pt → Bool} {st st' : St}, ab a st d = some (d', st', a') → isAgg d' = isAgg d
 | .fv v, d', a, a', st, st', h => by unfold ab at h; injection h with h; injection h with h _; subst h; rfl
 | .junk k, d', a, a', st, st', h => by unfold ab at h; injection h with h; injection h with h _; subst h; rfl
 | .hdr q z k, d', a, a', st, st', h => by
  unfold ab at h
  split at h
  ·cases h
  ·obtain ⟨nd, h1, h2⟩ := Option.bind_eq_some_iff.1 h
   split at h2
   ·cases h2
   ·obtain ⟨st1, _, h3⟩ := Option.map_eq_some_iff.1 h2
    injection h3 with h3 _; subst h3
    obtain ⟨_, _, _, _, hn⟩ := node_at h1
    cases nd <;> first | rfl | cases hn
 | .ptr q w o, d', a, a', st, st', h => by
  unfold ab at h
  split at h
  ·cases h
  ·obtain ⟨nd, h1, h2⟩ := Option.bind_eq_some_iff.1 h
   split at h2
   ·obtain ⟨st1, _, h3⟩ := Option.map_eq_some_iff.1 h2
    injection h3 with h3 _; subst h3
    obtain ⟨_, _, _, _, hn⟩ := node_at h1
    cases nd <;> first | rfl | cases hn
   ·cases h2
 | .agg l, d', a, a', st, st', h => by
  unfold ab at h
  obtain ⟨r, _, h2⟩ := Option.map_eq_some_iff.1 h
  injection h2 with h2 _; subst h2; rfl
 | .own _ _, d', a, a', st, st', h => by unfold ab at h; cases h
 | .box _, d', a, a', st, st', h => by unfold ab at h; cases h
 | .tup _, d', a, a', st, st', h => by unfold ab at h; cases h
end
theorem abL_agg : ∀ {l l' : List DV} {a a' : Pt → Bool} {st st' : St}, abL a st l = some (l', st', a') → l'.map isAgg = l.map isAgg
 | [], l', a, a', st, st', h => by unfold abL at h; injection h with h; injection h with h _; subst h; rfl
 | d :: l, l', a, a', st, st', h => by
  unfold abL at h
  obtain ⟨⟨d1, st1, a1⟩, h1, h2⟩ := Option.bind_eq_some_iff.1 h
  obtain ⟨⟨l1, st2, a2⟩, h3, h4⟩ := Option.map_eq_some_iff.1 h2
  injection h4 with h4 _; subst h4
  rw [List.map_cons, List.map_cons, ab_agg h1, abL_agg h3]
def rs2 (Γ : TypeId → Option TI) (st : St) : ResultVar → Option DV
 | .tmp t => some (ev2 st (.tmp t))
 | .cell a t => ld2 Γ st t (ev2 st (.tmp a))
def frD : DV → St → Option St
 | .ptr q _ _, st => (frz st q).map (·.2)
 | .hdr q _ _, st => (frz st q).map (·.2)
 | .agg l, st => l.foldl (fun o d => o.bind fun st => match d with
  | .ptr q _ _ => (frz st q).map (·.2)
  | .hdr q _ _ => (frz st q).map (·.2)
  | _ => some st) (some st)
 | _, st => some st
def frR (Γ : TypeId → Option TI) : List ResultVar → St → Option St
 | [], st => some st
 | r :: rs, st => (rs2 Γ st r).bind fun d => (frD d st).bind fun st1 => frR Γ rs st1
def fin2 (Γ : TypeId → Option TI) (fz : Bool) (rs : List ResultVar) (st : St) : Option (DV × St) := (if fz = true then frR Γ rs st else some st).bind fun st1 => (optL (rs.map (rs2 Γ st1))).bind fun cs => match cs with
 | [c] => (take2 LB st1 c).map fun r => (r.1, r.2.1)
 | cs => (takeL LB st1 cs).map fun r => (.tup r.1, r.2.1)
def isTup : DV → Bool
 | .tup _ => true
 | _ => false
def okO : Nat → List DV → St → Prop
 | _, [], _ => True
 | i, o :: l, st => ((∃ k, o = .junk k) ∨ (get st (GB + i) = some o ∧ isTup o = false)) ∧ okO (i + 1) l st
def EK (Γ : TypeId → Option TI) (fz : Bool) (rs : List ResultVar) (P : DV → List DV → Prop) (outs : St → List DV) : Ex → St → Prop := fun x st => (x = .norm ∨ x = .ret) ∧ ∃ d st2, fin2 Γ fz rs st = some (d, st2) ∧ okO 0 (outs st2) st2 ∧ P d (outs st2)
section
variable {Γ : TypeId → Option TI} {E : TypeId → Nat} {MU : FuncId → Nat → Nat} {C : Rel} {h0 : Hp} {ow0 : Nat → Ow} {G : Nat → Value} {s : S} {st st' : St}
theorem sm_frD {ow : Nat → Ow} {d : DV} (m : SmW h0 ow0 G st s ow) (h : frD d st = some st') : ∃ ow', SmW h0 ow0 G st' s ow' := by
 unfold frD at h
 split at h
 ·obtain ⟨⟨v, st1⟩, h1, rfl⟩ := Option.map_eq_some_iff.1 h; exact ⟨_, sm_frz m h1⟩
 ·obtain ⟨⟨v, st1⟩, h1, rfl⟩ := Option.map_eq_some_iff.1 h; exact ⟨_, sm_frz m h1⟩
 ·rename_i l
  have key : ∀ (l : List DV) (o : Option St), (∀ st1, o = some st1 → ∃ ow', SmW h0 ow0 G st1 s ow') → ∀ st', l.foldl (fun o d => o.bind fun st => match d with
    | .ptr q _ _ => (frz st q).map (·.2)
    | .hdr q _ _ => (frz st q).map (·.2)
    | _ => some st) o = some st' → ∃ ow', SmW h0 ow0 G st' s ow' := by
   intro l
   induction l with
   | nil => intro o ho st' h; exact ho st' h
   | cons d l ih =>
    intro o ho st' h
    rw [List.foldl_cons] at h
    refine ih _ (fun st1 h1 => ?_) st' h
    obtain ⟨st2, h2, h3⟩ := Option.bind_eq_some_iff.1 h1
    obtain ⟨ow2, m2⟩ := ho st2 h2
    split at h3
    ·obtain ⟨⟨v, st3⟩, h4, rfl⟩ := Option.map_eq_some_iff.1 h3; exact ⟨_, sm_frz m2 h4⟩
    ·obtain ⟨⟨v, st3⟩, h4, rfl⟩ := Option.map_eq_some_iff.1 h3; exact ⟨_, sm_frz m2 h4⟩
    ·injection h3 with h3; subst h3; exact ⟨_, m2⟩
  exact key l (some st) (fun st1 h1 => by injection h1 with h1; subst h1; exact ⟨ow, m⟩) st' h
 ·injection h with h; subst h; exact ⟨ow, m⟩
theorem sm_frR : ∀ {rs : List ResultVar} {st st' : St} {ow : Nat → Ow}, SmW h0 ow0 G st s ow → frR Γ rs st = some st' → ∃ ow', SmW h0 ow0 G st' s ow'
 | [], st, st', ow, m, h => by unfold frR at h; injection h with h; subst h; exact ⟨ow, m⟩
 | r :: rs, st, st', ow, m, h => by
  unfold frR at h
  obtain ⟨d, h1, h2⟩ := Option.bind_eq_some_iff.1 h
  obtain ⟨st1, h3, h4⟩ := Option.bind_eq_some_iff.1 h2
  obtain ⟨ow1, m1⟩ := sm_frD m h3
  exact sm_frR m1 h4
theorem rs2_ok {ow : Nat → Ow} (m : SmW h0 ow0 G st s ow) : ∀ {rs : List ResultVar} {cs : List DV}, optL (rs.map (rs2 Γ st)) = some cs → okSs (kls (atR LB) cs) = true → ∃ vs, resL Γ s rs = some vs ∧ VRl s.h ow s.h.next (LB, []) cs vs ∧ noOwns cs = true
 | [], cs, h, _ => by unfold optL at h; injection h with h; subst h; exact ⟨[], rfl, by unfold VRl; rfl, by unfold noOwns; rfl⟩
 | r :: rs, cs, h, hok => by
  rw [List.map_cons] at h; unfold optL at h
  obtain ⟨c, h1, h2⟩ := Option.bind_eq_some_iff.1 h
  obtain ⟨r', h3, rfl⟩ := Option.map_eq_some_iff.1 h2
  have hok' : okS (kl (atR LB) c) = true ∧ okSs (kls (atR LB) r') = true := by
   unfold kls okSs at hok; rw [List.all_cons, Bool.and_eq_true] at hok; exact hok
  obtain ⟨vs, k1, k2, k3⟩ := rs2_ok m h3 hok'.2
  unfold rs2 at h1
  split at h1
  ·rename_i t
   injection h1 with h1; subst h1
   obtain ⟨g1, g2⟩ := ev2_ok m.core (.tmp t) (LB, [])
   obtain ⟨_, _, g3, _⟩ := var_ok (okS_kl hok'.1) g1
   have : isRes (s.t t) = true := by
    have g3' : isVar (s.t t) = true := g3
    cases hv : s.t t <;> first | rfl | (rw [hv] at g3'; cases g3')
   refine ⟨s.t t :: vs, ?_, by unfold VRl; exact ⟨_, _, rfl, g1, k2⟩, by unfold noOwns; rw [g2, k3]; rfl⟩
   unfold resL
   rw [if_pos this, k1]; rfl
  ·rename_i a t
   obtain ⟨v, g1, g2, g3⟩ := ld2_ok (p := (LB, [])) m.core h1 (ev2_ok m.core (.tmp a) (LB, [])).1
   refine ⟨v :: vs, ?_, by unfold VRl; exact ⟨_, _, rfl, g2, k2⟩, by unfold noOwns; rw [g3, k3]; rfl⟩
   unfold resL
   have : ldv Γ t (s.t a) s.h = some v := g1
   rw [this, k1]; rfl
theorem mkv_cells {d : DV} {h : Hp} {ow : Nat → Ow} {B : Nat} {p : Pt} {v : Value} (ho : okS d = true) (e : VRc h ow B p d v) : v = mkv (isAgg d) v.cells.toList := by
 obtain ⟨cs, h1, h2, h3⟩ := var_ok ho e
 rcases e with ⟨k, rfl⟩ | ⟨cs', e1, e2⟩
 ·cases ho
 ·have : ∀ cs cs' : List Value, v = mkv (isAgg d) cs' → v = mkv (isAgg d) v.cells.toList := by
   intro cs cs' hv
   cases hag : isAgg d with
   | true => rw [hag] at hv; rw [mkv_agg rfl] at hv; subst hv; rw [mkv_agg rfl]; simp [Value.cells]
   | false =>
    have hnot : ∀ xs, v ≠ .agg xs := by
     intro xs hx
     subst hx
     rw [hag] at e2
     cases d with
     | fv u =>
      unfold DR at e1
      cases u with
      | agg l => cases hag
      | fn _ _ _ => cases ho
      | int _ _ => unfold FR at e1; subst e1; cases e2
      | bool _ => unfold FR at e1; subst e1; cases e2
      | str _ => unfold FR at e1; subst e1; cases e2
      | nil => unfold FR at e1; subst e1; cases e2
      | nilp => unfold FR at e1; subst e1; cases e2
      | row _ _ => unfold FR at e1; rcases e1 with ⟨_, rfl⟩ | ⟨n, o, c, css, rfl, _⟩ <;> cases e2
      | fp _ => unfold FR at e1; obtain ⟨n, o, c, rfl, _⟩ := e1; cases e2
     | hdr _ _ _ => unfold DR at e1; obtain ⟨_, n, _, _, rfl⟩ := e1; cases e2
     | ptr _ _ _ => unfold DR at e1; obtain ⟨_, n, _, _, _, _, rfl⟩ := e1; cases e2
     | agg l => cases hag
     | _ => cases ho
    cases v <;> first | (simp [mkv, Value.cells]; done) | exact absurd rfl (hnot _)
  exact this cs' cs' e2
def gb3 (i : Nat) (d : DV) (st0 : St) : Option St → St
 | some st2 => (GB + i, .box d) :: st2
 | none => st0
def gb2 (i : Nat) (q : Pt) (st0 st1 : St) : Option DV → St
 | some (.box d) => gb3 i d st0 (nset (belB q) st1 q (.junk 1))
 | _ => st0
def gb5 (i z : Nat) (l' l : List DV) (st0 : St) : Option St → St
 | some st2 => (GB + i, .agg (.own z l' :: l)) :: st2
 | none => st0
def gb4 (i : Nat) (q : Pt) (l : List DV) (st0 st1 : St) : Option DV → St
 | some (.own z l') => if fvs l = true then gb5 i z l' l st0 (nset (belB q) st1 q (.junk 1)) else st0
 | _ => st0
def gb1 (i : Nat) (st : St) : Option DV → St
 | some (.ptr q [0] 0) => gb2 i q st (clr (GB + i) st) (node (clr (GB + i) st) q)
 | some (.agg (.hdr q _ _ :: l)) => gb4 i q l st (clr (GB + i) st) (node (clr (GB + i) st) q)
 | _ => st
def gbS (i : Nat) (st : St) : St := gb1 i st (get st (GB + i))
theorem fvs_any {h : Hp} {ow ow' : Nat → Ow} {B : Nat} (hfz : FzSame h ow h ow') : ∀ {l : List DV} {top : Bool} {p : Pt} {i : Nat} {css : List (List Value)}, fvs l = true → DRs h ow B top p i l css → DRs h ow' B top p i l css
 | [], top, p, i, css, _, e => by unfold DRs at *; exact e
 | .fv v :: l, top, p, i, css, hf, e => by
  unfold DRs at e ⊢
  obtain ⟨c, r, h1, h2, h3⟩ := e
  exact ⟨c, r, h1, by unfold DR at *; exact h2.mono hfz (Nat.le_refl _), fvs_any hfz hf h3⟩
 | .own _ _ :: l, top, p, i, css, hf, e => by cases hf
 | .agg _ :: l, top, p, i, css, hf, e => by cases hf
 | .box _ :: l, top, p, i, css, hf, e => by cases hf
 | .hdr _ _ _ :: l, top, p, i, css, hf, e => by cases hf
 | .ptr _ _ _ :: l, top, p, i, css, hf, e => by cases hf
 | .tup _ :: l, top, p, i, css, hf, e => by cases hf
 | .junk _ :: l, top, p, i, css, hf, e => by cases hf
theorem sm_gb {ow : Nat → Ow} (i : Nat) (m : SmW h0 ow0 G st s ow) : ∃ ow', SmW h0 ow0 G (gbS i st) s ow' := by
 unfold gbS gb1
 split
 ·rename_i q hg
  unfold gb2
  split
  ·rename_i d hn
   unfold gb3
   split
   ·rename_i st2 hs
    have C1 := m.core.clr (val' := vl s G) (r := GB + i) (fun _ _ => rfl)
    obtain ⟨C2, hc, k1, k2⟩ := C1.move (T := (GB + i, [])) hn (fun n p z k hh hb => by
     have := (dropO_at.1 hh).2
     exact (atR_n this).1 hb.1.symm) hs
    have hL : GB + i ≠ LB := by unfold GB LB; omega
    refine ⟨_, C2.add hL (.inr (.inr ⟨hc, ?_, ?_⟩)), frm_same m.frm (fun n hh => mvO_fz.2 (dropO_fz.2 hh)) (fun n hh => mvO_no.2 (dropO_no hh)), m.top⟩
    ·exact k2.mv ⟨fun n hh => ⟨hh, rfl⟩, fun n w z k hh => ⟨hh, rfl⟩⟩ (.inr ⟨fun _ => rfl, fun _ _ _ _ hh => Bool.noConfusion hh⟩) (Nat.le_refl _)
    ·obtain ⟨n, c, rfl, _, f2, _⟩ := box_blk k1
     rcases m.core.regs _ _ hg with ⟨_, _, hh, _⟩ | ⟨_, hh⟩ | ⟨cs, e1, e2⟩
     ·cases hh
     ·cases hh
     ·unfold DR at e1
      obtain ⟨_, n1, z, k, _, e3, rfl⟩ := e1
      obtain rfl := m.core.inj _ _ _ _ _ _ _ e3 (dropO_at.1 f2).1
      exact e2
   ·exact ⟨ow, m⟩
  ·exact ⟨ow, m⟩
 ·rename_i q z k l hg
  unfold gb4
  split
  ·rename_i z' l' hn
   split
   ·rename_i hf
    unfold gb5
    split
    ·rename_i st2 hs
     have C1 := m.core.clr (val' := vl s G) (r := GB + i) (fun _ _ => rfl)
     obtain ⟨C2, hc, k1, k2⟩ := C1.move (T := (GB + i, [0])) hn (fun n p z k hh hb => by
      have := (dropO_at.1 hh).2
      exact (atR_n this).1 hb.1.symm) hs
     have hL : GB + i ≠ LB := by unfold GB LB; omega
     refine ⟨_, C2.add hL ?_, frm_same m.frm (fun n hh => mvO_fz.2 (dropO_fz.2 hh)) (fun n hh => mvO_no.2 (dropO_no hh)), m.top⟩
     rcases m.core.regs _ _ hg with ⟨_, _, hh, _⟩ | ⟨_, hh⟩ | ⟨cs, e1, e2⟩
     ·cases hh
     ·cases hh
     ·unfold DR at e1
      obtain ⟨css, rfl, e3⟩ := e1
      unfold DRs at e3
      obtain ⟨c, r, rfl, e4, e5⟩ := e3
      unfold DR at e4
      obtain ⟨_, n1, _, e6, rfl⟩ := e4
      obtain ⟨n, _, rfl, _, _, f2, _⟩ := own_blk k1
      have f2' := (dropO_at.1 f2).1
      obtain rfl := m.core.inj _ _ _ _ _ _ _ e6 f2'
      rw [f2'] at e6
      injection e6 with _ e7 e8
      subst e7; subst e8
      refine .inr (.inr ⟨_, ?_, e2⟩)
      unfold DR
      refine ⟨[.slice (some ⟨n1, 0, none⟩) l'.length (U z')] :: r, rfl, ?_⟩
      unfold DRs
      refine ⟨_, r, rfl, ?_, fvs_any (fun n hh => ⟨mvO_fz.2 (dropO_fz.2 hh), rfl⟩) hf e5⟩
      exact k2.topI rfl
    ·exact ⟨ow, m⟩
   ·exact ⟨ow, m⟩
  ·exact ⟨ow, m⟩
 ·exact ⟨ow, m⟩
def EKG (i : Nat) (Γ : TypeId → Option TI) (fz : Bool) (rs : List ResultVar) (P : DV → List DV → Prop) (outs : St → List DV) : Ex → St → Prop := fun x st => EK Γ fz rs P outs x (gbS i st)
theorem c2_ofQ {Q0 : Ex → St → Prop} {kp : Nat} {F : FuncId → Option Func} {X : Rel} {f : FuncId} {fn : Func} {c : Code} {p : PC} {fz : Bool} {ds : List DV} {P : DV → List DV → Prop} {outs : St → List DV} (hF : F f = some fn) (hb : fn.body = some c) (hp : prep c = some p) (hn : ds.length ≤ fn.ntmps) (hl : ds.length ≤ LB)
  (hw : PW Γ E MU (Call Γ E F X (Draw Γ E)) kp p (ini 0 ds) Q0) (hQ : ∀ (h0 : Hp) (ow0 : Nat → Ow) (G : Nat → Value) (x : Ex) (st : St) (s : S) (ow1 : Nat → Ow), Q0 x st → SmW h0 ow0 G st s ow1 → ∃ st' ow2, EK Γ fz fn.results.toList P outs x st' ∧ SmW h0 ow0 G st' s ow2) : ∀ (h : Hp) (ow : Nat → Ow) (vs : List Value), vs.length = ds.length → (∀ i d v, ds[i]? = some d → vs[i]? = some v → VRc h ow h.next (GB + i, []) d v) → (∀ n m p z k z' k', ow n = .of p z k → ow m = .of p z' k' → n = m) → (∀ n, h.blk n = none → ow n = .no) → (∀ n p z k, ow n = .of p z k → GB ≤ p.1) → (∀ n, h.next ≤ n → h.blk n = none) →
   ∃ d o v h' ow', P d o ∧ Call Γ E F X (Draw Γ E) f vs h v h' ∧ Frm h ow h' ow' ∧ (∀ n, h'.next ≤ n → h'.blk n = none) ∧ (∀ n m p z k z' k', ow' n = .of p z k → ow' m = .of p z' k' → n = m) ∧ (∀ n, h'.blk n = none → ow' n = .no) ∧ VR2 h' ow' h'.next (LB, []) d v ∧ ∀ i x v, o[i]? = some x → vs[i]? = some v → VRc h' ow' h'.next (GB + i, []) x v := by
 intro h ow vs hlen hrel hinj hnn hroot htop
 have m0 : SmW h ow (fun q => vs.getD (q - GB) undef) (ini 0 ds) (initS vs h) ow := by
  refine ⟨⟨?_, hinj, hnn, ?_⟩, ⟨Nat.le_refl _, fun _ _ hh => hh, fun _ _ hh => ⟨hh, rfl⟩, fun _ _ hh => ⟨hh, rfl⟩⟩, htop⟩
  ·have key : ∀ (l : List DV) (i : Nat), (∀ j d, l[j]? = some d → ds[i + j]? = some d) → i + l.length ≤ ds.length → ∀ r d, get (ini i l) r = some d → VR2 h ow h.next (r, []) d (vl (initS vs h) (fun q => vs.getD (q - GB) undef) r) := by
    intro l
    induction l with
    | nil => intro i _ _ r d hg; cases hg
    | cons a l ih =>
     intro i hi hil r d hg
     rw [List.length_cons] at hil
     have ha : ds[i]? = some a := hi 0 a rfl
     have hvl : i < vs.length := by omega
     have hv : vs[i]? = some vs[i] := List.getElem?_eq_getElem hvl
     have h1 := hrel i a _ ha hv
     have hval : vl (initS vs h) (fun q => vs.getD (q - GB) undef) i = vs[i] := by
      unfold vl; rw [if_pos (by omega)]
      show vs.getD i undef = _
      rw [List.getD_eq_getElem?_getD, hv]; rfl
     have hvalG : vl (initS vs h) (fun q => vs.getD (q - GB) undef) (GB + i) = vs[i] := by
      unfold vl; rw [if_neg (by unfold GB LB; omega)]
      simp only [Nat.add_sub_cancel_left]
      rw [List.getD_eq_getElem?_getD, hv]; rfl
     have hrec := ih (i + 1) (fun j d hd => by have := hi (j + 1) d (by simpa using hd); rw [show i + 1 + j = i + (j + 1) by omega]; exact this) (by omega)
     have hcase : ini i (a :: l) = (match a with | .fv v => (i, .fv v) :: ini (i + 1) l | d => (i, cp (GB + i, []) d) :: (GB + i, d) :: ini (i + 1) l) := by cases a <;> rfl
     rw [hcase] at hg
     have two : ∀ d0, d0 = a → get ((i, cp (GB + i, []) d0) :: (GB + i, d0) :: ini (i + 1) l) r = some d → VR2 h ow h.next (r, []) d (vl (initS vs h) (fun q => vs.getD (q - GB) undef) r) := by
      rintro d0 rfl hg
      unfold get at hg
      split at hg
      ·rename_i hr; injection hg with hg; subst hg
       rw [hr, hval]; exact .inr ((VR2.cp (.inr h1)))
      ·unfold get at hg
       split at hg
       ·rename_i hr; injection hg with hg; subst hg
        rw [hr, hvalG]; exact .inr h1
       ·exact hrec r d hg
     cases a with
     | fv v =>
      simp only at hg
      unfold get at hg
      split at hg
      ·rename_i hr; injection hg with hg; subst hg
       rw [hr, hval]
       rcases h1 with ⟨k, hk⟩ | ⟨cs, e1, e2⟩
       ·cases hk
       ·exact .inr (.inr ⟨cs, by unfold DR at *; exact e1, e2⟩)
      ·exact hrec r d hg
     | _ => exact two _ rfl hg
   exact key ds 0 (fun j d hd => by rw [Nat.zero_add]; exact hd) (by omega)
  ·have key : ∀ (l : List DV) (i : Nat), i + l.length ≤ LB → ∀ r d, get (ini i l) r = some d → r ≠ LB := by
    intro l
    induction l with
    | nil => intro i _ r d hg; cases hg
    | cons a l ih =>
     intro i hil r d hg
     rw [List.length_cons] at hil
     have hrec := ih (i + 1) (by omega)
     have hcase : ini i (a :: l) = (match a with | .fv v => (i, .fv v) :: ini (i + 1) l | d => (i, cp (GB + i, []) d) :: (GB + i, d) :: ini (i + 1) l) := by cases a <;> rfl
     rw [hcase] at hg
     have two : ∀ d0, get ((i, cp (GB + i, []) d0) :: (GB + i, d0) :: ini (i + 1) l) r = some d → r ≠ LB := by
      intro d0 hg
      unfold get at hg
      split at hg
      ·omega
      ·unfold get at hg
       split at hg
       ·rename_i hr; unfold GB at hr; unfold LB; omega
       ·exact hrec r d hg
     cases a with
     | fv v =>
      simp only at hg
      unfold get at hg
      split at hg
      ·omega
      ·exact hrec r d hg
     | _ => exact two _ hg
   exact key ds 0 (by omega)
 have hrun := PW_ok (D := Draw Γ E (Call Γ E F X (Draw Γ E)) 0) (fun _ _ _ hh => hh) hw ⟨ow, m0⟩
 let PP : Value → Hp → Prop := fun v h' => ∃ d o ow', P d o ∧ Frm h ow h' ow' ∧ (∀ n, h'.next ≤ n → h'.blk n = none) ∧ (∀ n m p z k z' k', ow' n = .of p z k → ow' m = .of p z' k' → n = m) ∧ (∀ n, h'.blk n = none → ow' n = .no) ∧ VR2 h' ow' h'.next (LB, []) d v ∧ ∀ i x v, o[i]? = some x → vs[i]? = some v → VRc h' ow' h'.next (GB + i, []) x v
 have hgo : Go Γ E (Call Γ E F X (Draw Γ E)) (Draw Γ E (Call Γ E F X (Draw Γ E)) 0) (exQ Γ fn.results.toList PP) p [] (initS vs h) := by
  refine RunP.mono (p := p) (fun x s' hx => ?_) hrun
  rw [done_nil]
  obtain ⟨stq, hq0, owq, mq⟩ := hx
  obtain ⟨st', ow1, ⟨hx1, d, st2, hf, ho, hP⟩, m1⟩ := hQ _ _ _ _ _ _ _ hq0 mq
  refine ⟨hx1, ?_⟩
  unfold fin2 at hf
  obtain ⟨st1, f1, hf1⟩ := Option.bind_eq_some_iff.1 hf
  obtain ⟨cs, f2, hf2⟩ := Option.bind_eq_some_iff.1 hf1
  obtain ⟨ow2, m2⟩ : ∃ ow2, SmW h ow (fun q => vs.getD (q - GB) undef) st1 s' ow2 := by
   cases fz with
   | true => rw [if_pos rfl] at f1; exact sm_frR m1 f1
   | false => rw [if_neg (by simp)] at f1; injection f1 with f1; subst f1; exact ⟨ow1, m1⟩
  have outsOk : ∀ (ow3 : Nat → Ow), Core (vl s' (fun q => vs.getD (q - GB) undef)) s'.h ow3 s'.h.next st2 → ∀ i x v, (outs st2)[i]? = some x → vs[i]? = some v → VRc s'.h ow3 s'.h.next (GB + i, []) x v := by
   intro ow3 C3
   have key : ∀ (l : List DV) (j : Nat), okO j l st2 → ∀ i x v, l[i]? = some x → vs[j + i]? = some v → VRc s'.h ow3 s'.h.next (GB + (j + i), []) x v := by
    intro l
    induction l with
    | nil => intro j _ i x v hx; simp at hx
    | cons a l ih =>
     intro j hj i x v hx hv
     unfold okO at hj
     cases i with
     | zero =>
      simp at hx; subst hx
      rcases hj.1 with hk | hk
      ·exact .inl hk
      ·have h1 := C3.regs _ _ hk.1
       have hval : vl s' (fun q => vs.getD (q - GB) undef) (GB + j) = v := by
        unfold vl; rw [if_neg (by unfold GB LB; omega)]
        simp only [Nat.add_sub_cancel_left]
        rw [Nat.add_zero] at hv
        rw [List.getD_eq_getElem?_getD, hv]; rfl
       rw [hval] at h1
       rcases h1 with ⟨l', vs', rfl, h2, h3⟩ | h1
       ·-- several things are never what was given
        cases hk.2
       ·rw [Nat.add_zero]; exact h1
     | succ i =>
      have := ih (j + 1) hj.2 i x v (by simpa using hx) (by rw [show j + 1 + i = j + (i + 1) by omega]; exact hv)
      rw [show j + (i + 1) = j + 1 + i by omega]; exact this
   intro i x v hx hv
   have := key (outs st2) 0 ho i x v hx (by rw [Nat.zero_add]; exact hv)
   rw [Nat.zero_add] at this; exact this
  have one : ∀ {c : DV} {a' : Pt → Bool}, cs = [c] → take2 LB st1 c = some (d, st2, a') → ∃ ws, resL Γ s' fn.results.toList = some ws ∧ PP (tupV ws) s'.h := by
   rintro c a' rfl ht
   have hok : okS (kl (atR LB) c) = true := by
    unfold take2 at ht; split at ht
    ·assumption
    ·cases ht
   obtain ⟨ws, k1, k2, k3⟩ := rs2_ok m2 f2 (by unfold kls kls okSs; simp [hok])
   unfold VRl at k2
   obtain ⟨w, r, rfl, k4, k5⟩ := k2
   unfold VRl at k5; subst k5
   unfold noOwns at k3; rw [Bool.and_eq_true] at k3
   obtain ⟨ow3, t1, t2, t3⟩ := take_ok m2 (π := []) k3.1 k4 ht
   refine ⟨[w], k1, d, outs st2, ow3, hP, frm_same m2.frm t1.fz t1.no, m2.top, t1.core.inj, t1.core.nn, .inr (.inr ⟨_, t2.mv ⟨fun n hh => ⟨hh, rfl⟩, fun n w z k hh => ⟨hh, rfl⟩⟩ (.inr ⟨fun _ => rfl, fun _ _ _ _ hh => Bool.noConfusion hh⟩) (Nat.le_refl _), ?_⟩), outsOk ow3 t1.core⟩
   have hag : isAgg d = isAgg c := by
    unfold take2 at ht; rw [if_pos hok] at ht
    rw [ab_agg ht, kl_agg]
   rw [hag]
   exact mkv_cells (okS_kl hok) k4
  split at hf2
  ·rename_i c
   obtain ⟨⟨d', st2', a'⟩, f3, f4⟩ := Option.map_eq_some_iff.1 hf2
   injection f4 with f4 f5; subst f4; subst f5
   exact one rfl f3
  ·rename_i hnot
   obtain ⟨⟨l', st2', a'⟩, f3, f4⟩ := Option.map_eq_some_iff.1 hf2
   injection f4 with f4 f5; subst f4; subst f5
   have hok : okSs (kls (atR LB) cs) = true := by
    unfold takeL at f3; split at f3
    ·assumption
    ·cases f3
   obtain ⟨ws, k1, k2, k3⟩ := rs2_ok m2 f2 hok
   obtain ⟨ow3, t1, t2, t3⟩ := takeL_ok m2 k3 k2 f3
   have hag : l'.map isAgg = cs.map isAgg := by
    unfold takeL at f3; rw [if_pos hok] at f3
    rw [abL_agg f3]
    have : ∀ l : List DV, (kls (atR LB) l).map isAgg = l.map isAgg := by
     intro l
     induction l with
     | nil => rfl
     | cons a l ih => unfold kls; rw [List.map_cons, List.map_cons, kl_agg, ih]
    exact this cs
   have hvrs : VRs s'.h ow3 s'.h.next (LB, []) 0 l' ws := by
    have key : ∀ {l' cs : List DV} {ws : List Value} {i : Nat}, DRs s'.h ow3 s'.h.next false (LB, []) i l' (ws.map fun v => v.cells.toList) → l'.map isAgg = cs.map isAgg → okSs (kls (atR LB) cs) = true → VRl s'.h ow2 s'.h.next (LB, []) cs ws → VRs s'.h ow3 s'.h.next (LB, []) i l' ws := by
     intro l'
     induction l' with
     | nil =>
      intro cs ws i e hag hok hv
      unfold DRs at e
      have : ws = [] := by simpa using e
      subst this
      unfold VRs; rfl
     | cons d l' ih =>
      intro cs ws i e hag hok hv
      cases cs with
      | nil => simp at hag
      | cons c cs =>
       unfold VRl at hv
       obtain ⟨w, r, rfl, hv1, hv2⟩ := hv
       rw [List.map_cons, List.map_cons] at hag
       injection hag with hag1 hag2
       unfold DRs at e
       obtain ⟨c', r', e1, e2, e3⟩ := e
       rw [List.map_cons] at e1
       injection e1 with e1 e4; subst e1; subst e4
       have hok' : okS (kl (atR LB) c) = true ∧ okSs (kls (atR LB) cs) = true := by
        unfold kls okSs at hok; rw [List.all_cons, Bool.and_eq_true] at hok; exact hok
       unfold VRs
       refine ⟨w, r, rfl, .inr ⟨_, e2.mv ⟨fun n hh => ⟨hh, rfl⟩, fun n w z k hh => ⟨hh, rfl⟩⟩ (.inr ⟨fun _ => rfl, fun _ _ _ _ hh => Bool.noConfusion hh⟩) (Nat.le_refl _), ?_⟩, ih e3 hag2 hok'.2 hv2⟩
       rw [hag1]; exact mkv_cells (okS_kl hok'.1) hv1
    exact key t2 hag hok k2
   refine ⟨ws, k1, .tup l', _, ow3, hP, frm_same m2.frm t1.fz t1.no, m2.top, t1.core.inj, t1.core.nn, .inl ⟨l', ws.toArray, rfl, ?_, by simpa using hvrs⟩, outsOk ow3 t1.core⟩
   have hlen2 : ws.length ≠ 1 := by
    intro hw
    have key : ∀ {cs : List DV} {ws : List Value}, VRl s'.h ow2 s'.h.next (LB, []) cs ws → ws.length = cs.length := by
     intro cs
     induction cs with
     | nil => intro ws hv; unfold VRl at hv; subst hv; rfl
     | cons c cs ih => intro ws hv; unfold VRl at hv; obtain ⟨w, r, rfl, _, hv2⟩ := hv; simp [ih hv2]
    have h1 := key k2
    rw [hw] at h1
    obtain ⟨c, hc⟩ := List.length_eq_one_iff.1 h1.symm
    exact hnot c hc
   unfold tupV
   split
   ·exact absurd rfl hlen2
   ·rfl
 obtain ⟨v, h', hcall, d, o, ow', r1, r2, r3, r4, r5, r6, r7⟩ := call_ex hF hb hp (by omega) hgo
 exact ⟨d, o, v, h', ow', r1, hcall, r2, r3, r4, r5, r6, r7⟩
theorem c2_of {kp : Nat} {F : FuncId → Option Func} {X : Rel} {f : FuncId} {fn : Func} {c : Code} {p : PC} {fz : Bool} {ds : List DV} {P : DV → List DV → Prop} {outs : St → List DV} (hF : F f = some fn) (hb : fn.body = some c) (hp : prep c = some p) (hn : ds.length ≤ fn.ntmps) (hl : ds.length ≤ LB)
  (hw : PW Γ E MU (Call Γ E F X (Draw Γ E)) kp p (ini 0 ds) (EK Γ fz fn.results.toList P outs)) : ∀ (h : Hp) (ow : Nat → Ow) (vs : List Value), vs.length = ds.length → (∀ i d v, ds[i]? = some d → vs[i]? = some v → VRc h ow h.next (GB + i, []) d v) → (∀ n m p z k z' k', ow n = .of p z k → ow m = .of p z' k' → n = m) → (∀ n, h.blk n = none → ow n = .no) → (∀ n p z k, ow n = .of p z k → GB ≤ p.1) → (∀ n, h.next ≤ n → h.blk n = none) →
   ∃ d o v h' ow', P d o ∧ Call Γ E F X (Draw Γ E) f vs h v h' ∧ Frm h ow h' ow' ∧ (∀ n, h'.next ≤ n → h'.blk n = none) ∧ (∀ n m p z k z' k', ow' n = .of p z k → ow' m = .of p z' k' → n = m) ∧ (∀ n, h'.blk n = none → ow' n = .no) ∧ VR2 h' ow' h'.next (LB, []) d v ∧ ∀ i x v, o[i]? = some x → vs[i]? = some v → VRc h' ow' h'.next (GB + i, []) x v := c2_ofQ hF hb hp hn hl hw (fun _ _ _ _ st _ ow hx m => ⟨st, ow, hx, m⟩)
theorem c2_ofG (i : Nat) {kp : Nat} {F : FuncId → Option Func} {X : Rel} {f : FuncId} {fn : Func} {c : Code} {p : PC} {fz : Bool} {ds : List DV} {P : DV → List DV → Prop} {outs : St → List DV} (hF : F f = some fn) (hb : fn.body = some c) (hp : prep c = some p) (hn : ds.length ≤ fn.ntmps) (hl : ds.length ≤ LB)
  (hw : PW Γ E MU (Call Γ E F X (Draw Γ E)) kp p (ini 0 ds) (EKG i Γ fz fn.results.toList P outs)) : ∀ (h : Hp) (ow : Nat → Ow) (vs : List Value), vs.length = ds.length → (∀ i d v, ds[i]? = some d → vs[i]? = some v → VRc h ow h.next (GB + i, []) d v) → (∀ n m p z k z' k', ow n = .of p z k → ow m = .of p z' k' → n = m) → (∀ n, h.blk n = none → ow n = .no) → (∀ n p z k, ow n = .of p z k → GB ≤ p.1) → (∀ n, h.next ≤ n → h.blk n = none) →
   ∃ d o v h' ow', P d o ∧ Call Γ E F X (Draw Γ E) f vs h v h' ∧ Frm h ow h' ow' ∧ (∀ n, h'.next ≤ n → h'.blk n = none) ∧ (∀ n m p z k z' k', ow' n = .of p z k → ow' m = .of p z' k' → n = m) ∧ (∀ n, h'.blk n = none → ow' n = .no) ∧ VR2 h' ow' h'.next (LB, []) d v ∧ ∀ i x v, o[i]? = some x → vs[i]? = some v → VRc h' ow' h'.next (GB + i, []) x v := c2_ofQ hF hb hp hn hl hw (fun _ _ _ _ st _ ow hx m => (sm_gb i m).elim fun ow' m' => ⟨gbS i st, ow', hx, m'⟩)
theorem c2_eq {kp : Nat} {F : FuncId → Option Func} {X : Rel} {f : FuncId} {fn : Func} {c : Code} {p : PC} {fz : Bool} {ds : List DV} {d : DV} {outs : List DV} (hF : F f = some fn) (hb : fn.body = some c) (hp : prep c = some p) (hn : ds.length ≤ fn.ntmps) (hl : ds.length ≤ LB)
  (hw : PW Γ E MU (Call Γ E F X (Draw Γ E)) kp p (ini 0 ds) (EK Γ fz fn.results.toList (fun d' o' => d' = d ∧ o' = outs) (fun _ => outs))) : C2 (Call Γ E F X (Draw Γ E)) f ds d outs := by
 intro h ow vs h1 h2 h3 h4 h5 h6
 obtain ⟨d', o', v, h', ow', ⟨rfl, rfl⟩, r⟩ := c2_of hF hb hp hn hl hw h ow vs h1 h2 h3 h4 h5 h6
 exact ⟨v, h', ow', r⟩
theorem c2_eqG (i : Nat) {kp : Nat} {F : FuncId → Option Func} {X : Rel} {f : FuncId} {fn : Func} {c : Code} {p : PC} {fz : Bool} {ds : List DV} {d : DV} {outs : List DV} (hF : F f = some fn) (hb : fn.body = some c) (hp : prep c = some p) (hn : ds.length ≤ fn.ntmps) (hl : ds.length ≤ LB)
  (hw : PW Γ E MU (Call Γ E F X (Draw Γ E)) kp p (ini 0 ds) (EKG i Γ fz fn.results.toList (fun d' o' => d' = d ∧ o' = outs) (fun _ => outs))) : C2 (Call Γ E F X (Draw Γ E)) f ds d outs := by
 intro h ow vs h1 h2 h3 h4 h5 h6
 obtain ⟨d', o', v, h', ow', ⟨rfl, rfl⟩, r⟩ := c2_ofG i hF hb hp hn hl hw h ow vs h1 h2 h3 h4 h5 h6
 exact ⟨v, h', ow', r⟩
end
end Go.Proofs.YtonpnjfclelpiaaGreatM
