import Derived.Test.YtonpnjfclelpiaaGreatVDMvg
namespace Go.Proofs.YtonpnjfclelpiaaGreatM
open Go
set_option linter.unusedVariables false
set_option linter.unusedSimpArgs false
def stp (Γ : TypeId → Option TI) (E : TypeId → Nat) (st : St) : Option Nat → Op → Option St
 | some r, .move x => if r < LB then mv2 st r x else none
 | some r, .assign x => if r < LB then as2 st r x else none
 | some r, .extract (.tmp t) j => if r < LB ∧ t < LB then ex2 t j r st else none
 | some r, .alloc e => if r < LB then al2 Γ st r e else none
 | some r, .box _ x => if r < LB then bxR st r x else none
 | some r, .buildSlice t len parts => if r < LB then bs2 Γ st r t len parts.toList else none
 | some r, .makeSlice t a b => if r < LB then ms2 Γ st r t (ev2 st a) (ev2 st b) else none
 | some r, .makeFunc (.func f) a b => if r < LB then mf2 st r f a.toList b.toList else none
 | some r, .slice t x lo hi none => if r < LB then sl2 Γ st r t x lo hi else none
 | none, .store t a x => so2 Γ st t (ev2 st a) (ev2 st x)
 | some r, .build t parts => if r < LB then (bd2 Γ st t parts.toList).map fun d => put r d st else none
 | some r, .convert t u x => if r < LB then (match cv2 Γ t u (ev2 st x) with
  | some d => some (put r d st)
  | none => match cb2 Γ st r t u (ev2 st x) with
   | some st' => some st'
   | none => (tx2 Γ st t u (ev2 st x)).map fun d => put r d st) else none
 | some r, op => if r < LB then (pure2 Γ E st op).map fun d => put r d st else none
 | _, _ => none
def cal (st : St) (f : Operand) : Option (FuncId × List FV) := match ev2 st f with
 | .fv (.fn g [] b) => some (g, b)
 | _ => none
def cl2 (MU : FuncId → Nat → Nat) (st : St) (dst : Option Nat) (f : Operand) (xs : List Operand) : Option (FuncId × List DV × List Pt × MV × St) := (cal st f).bind fun g =>
 (frL ((xs.zipIdx).filterMap fun p => if MU g.1 p.2 = 0 then some p.1 else none) st).bind fun st1 => (cal st1 f).bind fun g1 => if g1.1 = g.1 ∧ g1.1 ≠ PS then
  (ars (clr (dst.getD LB) st1) (MU g.1) 0 xs).bind fun a => if (ok2 a.2.2 && a.2.1.all fun q => (ix a.2.2 q.1).isNone) = true ∧ (∀ r, dst = some r → r < LB) then some (g.1, a.1 ++ g1.2.map .fv, a.2.1, a.2.2, clr (dst.getD LB) st1) else none else none
def anE (Γ : TypeId → Option TI) (o : BinOp) (t : TypeId) (a b : DV) : Bool := match o, a, b with
 | .eql, .fv (.row _ l), .fv .nil => l.isEmpty && (match Γ t with | some ⟨.slice _, _, _, _⟩ => true | _ => false)
 | _, _, _ => false
def anB (Γ : TypeId → Option TI) (st : St) : Op → Bool
 | .binOp o t x y _ => anE Γ o t (ev2 st x) (ev2 st y)
 | _ => false
section
variable (Γ : TypeId → Option TI) (E : TypeId → Nat) (MU : FuncId → Nat → Nat) (C : Rel)
def CK (g : FuncId) (ds : List DV) (L : List Pt) (K : DV → List DV → Prop) : Prop := ∃ d outs, C2 C g ds d outs ∧ (noRef d = true ∧ noRefs outs = true ∧ (L = [] ∨ (clD d = true ∧ clDs outs = true))) ∧ K d outs
def putU (d : Option Nat) (st : St) : St := match d with
 | some r => (r, .tup []) :: clr r st
 | none => st
mutual
def OW (x : Bool) : List POp → St → (St → Prop) → Prop
 | [], st, Q => Q st
 | o :: l, st, Q => match o.g with
  | none => O1 x o.d o.op l st Q
  | some (j, w) => j < LB ∧ match get st j with
   | some (.fv (.bool b)) => (b = w → O1 x o.d o.op l st Q) ∧ (b = (!w) → OW x l (putU o.d st) Q)
   | some (.tup []) => OW x l (putU o.d st) Q
   | _ => False
def O1 (x : Bool) (d : Option Nat) (op : Op) (l : List POp) (st : St) (Q : St → Prop) : Prop := match op with
 | .call { callee := .value f, args, .. } => match cl2 MU st d f args.toList with
  | some (g, ds, L, mv, st1) => (x = true → mv = []) ∧ CK C g ds L fun r outs => OW x l (aft mv d r outs st1) Q
  | none => False
 | .call { callee := .builtin .append, args, argTypes } => match args.toList, argTypes.toList, d with
  | [a, b], [t, t2], some r => match ap2 Γ st r t t2 (ev2 st a) (ev2 st b) with
   | some (st', n) => r < LB ∧ n ≤ 1073741824 ∧ OW x l st' Q
   | none => False
  | _, _, _ => False
 | op => if anB Γ st op = true then (match d with
   | some r => r < LB ∧ ∀ b : Bool, OW x l (put r (.fv (.bool b)) st) Q
   | none => False) else match stp Γ E st d op with
  | some st' => OW x l st' Q
  | none => False
end
end
section
variable {Γ : TypeId → Option TI} {E : TypeId → Nat} {MU : FuncId → Nat → Nat} {C R : Rel} {D : DrawR} {h0 : Hp} {ow0 : Nat → Ow} {G : Nat → Value} {s : S} {base i : Nat} {l : List POp} {st st' : St}
theorem stp_pure {Q : S → Prop} {r : Nat} {op : Op} (hs : ((if r < LB then (pure2 Γ E st op).map fun d => put r d st else none) : Option St) = some st') (hn : OG Γ E R h0 ow0 G base (i + 1) l st' Q) : OG Γ E R h0 ow0 G base i (⟨some r, none, op⟩ :: l) st Q := by
 split at hs
 ·rename_i hr
  obtain ⟨e, h1, rfl⟩ := Option.map_eq_some_iff.1 hs
  exact og_pure hr h1 hn
 ·cases hs
theorem og_stp {Q : S → Prop} {d : Option Nat} {op : Op} (hs : stp Γ E st d op = some st') (hn : OG Γ E R h0 ow0 G base (i + 1) l st' Q) : OG Γ E R h0 ow0 G base i (⟨d, none, op⟩ :: l) st Q := by
 unfold stp at hs
 split at hs
 ·split at hs
  ·rename_i hr; exact og_move hr hs hn
  ·cases hs
 ·split at hs
  ·rename_i hr; exact og_assign hr hs hn
  ·cases hs
 ·split at hs
  ·rename_i hr; exact og_extract hr.1 hr.2 hs hn
  ·cases hs
 ·split at hs
  ·rename_i hr; exact og_alloc hr hs hn
  ·cases hs
 ·split at hs
  ·rename_i hr; exact og_boxR hr hs hn
  ·cases hs
 ·split at hs
  ·rename_i hr; exact og_bs hr hs hn
  ·cases hs
 ·split at hs
  ·rename_i hr; exact og_ms hr hs hn
  ·cases hs
 ·split at hs
  ·rename_i hr; exact og_mf hr hs hn
  ·cases hs
 ·split at hs
  ·rename_i hr; exact og_slice hr hs hn
  ·cases hs
 ·exact og_store hs hn
 ·split at hs
  ·rename_i hr
   obtain ⟨d, h1, rfl⟩ := Option.map_eq_some_iff.1 hs
   exact og_build hr h1 hn
  ·cases hs
 ·split at hs
  ·rename_i hr
   split at hs
   ·rename_i d hd; injection hs with hs; subst hs; exact og_pure hr hd hn
   ·split at hs
    ·rename_i st2 hd; injection hs with hs; subst hs; exact og_cb hr hd hn
    ·obtain ⟨d, h1, rfl⟩ := Option.map_eq_some_iff.1 hs
     exact og_tx hr h1 hn
  ·cases hs
 ·exact stp_pure hs hn
 ·cases hs
theorem sm_clr {ow : Nat → Ow} (m : SmW h0 ow0 G st s ow) (r : Nat) : SmW h0 ow0 G (clr r st) s (dropO (atR r) ow) :=
 ⟨m.core.clr (fun _ _ => rfl), frm_drop m.frm, m.top⟩
theorem sm_putU {ow : Nat → Ow} (m : SmW h0 ow0 G st s ow) {d : Option Nat} (hd : ∀ r, d = some r → r < LB) : Sm h0 ow0 G (putU d st) (s.put d undef) := by
 cases d with
 | none => exact ⟨ow, m⟩
 | some r =>
  have hr := hd r rfl
  refine ⟨dropO (atR r) ow, ?_, ?_, ?_⟩
  ·rw [put_h]
   refine (m.core.clr (val' := vl (s.put (some r) undef) G) vl_put_ne).add (by unfold LB at *; omega) (.inl ⟨[], #[], rfl, ?_, rfl⟩)
   rw [vl_put hr]; rfl
  ·rw [put_h]; exact frm_drop m.frm
  ·rw [put_h]; exact m.top
theorem cal_ok {ow : Nat → Ow} {B : Nat} (C1 : Core (vl s G) s.h ow B st) {f : Operand} {g : FuncId} {b : List FV} (hc : cal st f = some (g, b)) : ∃ vb, s.ev f = .func (.func g) #[] vb ∧ vb.toList.length = b.length ∧ ∀ (j : Nat) (x : FV) (v : Value), b[j]? = some x → vb.toList[j]? = some v → ∃ cs, FR s.h ow B x cs ∧ v = mkv (isAggF x) cs := by
 unfold cal at hc
 split at hc
 ·rename_i g' b' hv
  injection hc with hc; injection hc with h1 h2; subst h1; subst h2
  have hx := (ev2_ok C1 f (0, [])).1
  rw [hv] at hx
  rcases hx with ⟨k, hk⟩ | ⟨cs, e1, e2⟩
  ·cases hk
  ·unfold DR FR at e1
   obtain ⟨ca, cb, rfl, h1, h2⟩ := e1
   unfold FRs at h1; subst h1
   refine ⟨_, e2, by simp [h2.count], fun j x v hj hv2 => ?_⟩
   obtain ⟨c, k1, k2⟩ := h2.get hj
   simp only [List.getElem?_zipWith, hj, k1] at hv2
   exact ⟨c, k2, by injection hv2 with hv2; exact hv2.symm⟩
 ·cases hc
theorem anB_ok {ow : Nat → Ow} (m : SmW h0 ow0 G st s ow) {op : Op} (h : anB Γ st op = true) (nm : Nat) : ∃ b, calleeV s op = none ∧ opV Γ E nm s.ev op s.h = some (.bool b, s.h) := by
 unfold anB at h
 split at h
 ·rename_i o t x y z
  unfold anE at h
  split at h
  ·rename_i z' l hx hy
   rw [Bool.and_eq_true] at h
   obtain ⟨hl, hg⟩ := h
   split at hg
   ·rename_i e a b c hgt
    have h1 := (ev2_ok m.core x (0, [])).1
    have h2 := (ev2_ok m.core y (0, [])).1
    rw [hx] at h1; rw [hy] at h2
    have e2 : s.ev y = .slice none 0 0 := by
     rcases h2 with ⟨k, hk⟩ | ⟨cs, q1, q2⟩
     ·cases hk
     ·unfold DR FR at q1; subst q1; exact q2
    have e1 : ∃ a n c, s.ev x = .slice a n c := by
     rcases h1 with ⟨k, hk⟩ | ⟨cs, q1, q2⟩
     ·cases hk
     ·unfold DR FR at q1
      rcases q1 with ⟨_, q1⟩ | ⟨n, o, c, css, q1, _⟩
      ·subst q1; exact ⟨_, _, _, q2⟩
      ·subst q1; exact ⟨_, _, _, q2⟩
    obtain ⟨a', n', c', e1⟩ := e1
    refine ⟨a'.isNone, rfl, opV_pure ?_⟩
    simp only [pureV, e1, e2, binV, hgt]
   ·cases hg
  ·cases h
 ·cases h
theorem OW_ok {x : Bool} (hR : ∀ g args h v h', g ≠ PS → C g args h v h' → Nr h h' → (x = true → Ext h h') → R g args h v h') : ∀ {l : List POp} {st : St} {i : Nat} {Q : St → Prop}, (∀ o ∈ l, ∀ r, o.d = some r → r < LB) → OW Γ E MU C x l st Q → OG Γ E R h0 ow0 G base i l st (fun s => ∃ st', Q st' ∧ Sm h0 ow0 G st' s)
 | [], st, i, Q, _, h => by
  intro s hs _
  unfold OW at h
  exact ⟨st, h, hs⟩
 | o :: l, st, i, Q, hd, h => by
  have hl : ∀ o ∈ l, ∀ r, o.d = some r → r < LB := fun o ho => hd o (List.mem_cons_of_mem _ ho)
  have hod : ∀ r, o.d = some r → r < LB := hd o (by simp)
  have one : ∀ {st : St}, O1 Γ E MU C x o.d o.op l st Q → OG Γ E R h0 ow0 G base i (⟨o.d, none, o.op⟩ :: l) st (fun s => ∃ st', Q st' ∧ Sm h0 ow0 G st' s) := by
   intro st h
   unfold O1 at h
   split at h
   ·-- a call
    rename_i f args ts hop
    split at h
    ·rename_i g ds L mv st1 hcl
     obtain ⟨hxm, dd, outs, hc2, hside, hrest⟩ := h
     unfold cl2 at hcl
     obtain ⟨⟨g0, b0⟩, c1, hcl⟩ := Option.bind_eq_some_iff.1 hcl
     obtain ⟨stf, c2, hcl⟩ := Option.bind_eq_some_iff.1 hcl
     obtain ⟨⟨g1, b1⟩, c3, hcl⟩ := Option.bind_eq_some_iff.1 hcl
     split at hcl
     ·rename_i hg
      simp only at hg
      obtain ⟨rfl, hgp⟩ := hg
      obtain ⟨⟨ds', L', mv'⟩, c4, hcl⟩ := Option.bind_eq_some_iff.1 hcl
      split at hcl
      ·rename_i hck
       injection hcl with hcl; injection hcl with e1 e2; injection e2 with e2 e3; injection e3 with e3 e4; injection e4 with e4 e5
       subst e1; subst e2; subst e3; subst e4; subst e5
       simp only [Bool.and_eq_true, List.all_eq_true, Option.isNone_iff_eq_none] at hck
       intro s ⟨ow, m⟩ hf
       obtain ⟨owf, mf⟩ := sm_frL m c2
       obtain ⟨vb, v1, v2, v3⟩ := cal_ok mf.core c3
       have m1 := sm_clr mf (o.d.getD LB)
       have hfreeC : ∀ n p z k, dropO (atR (o.d.getD LB)) owf n = .of p z k → p.1 ≠ o.d.getD LB ∧ p.1 ≠ LB := fun n p z k hh => drop_free hh
       obtain ⟨v, h', ow2, k1, k2, k3, k4, k5, k6, k7, _⟩ := call_ok (f := g1) (r0 := o.d.getD LB) (dst := o.d) (bs := b1) (vb := vb.toList) m1.core v2 (fun j b v hb hv => by
         obtain ⟨cs, q1, q2⟩ := v3 j b v hb hv
         exact ⟨cs, q1.mono (fun n hn => ⟨dropO_fz.2 hn, rfl⟩) (Nat.le_refl _), q2⟩) m1.top hfreeC (by
         cases hh : o.d with
         | none => exact .inl rfl
         | some r => exact .inr ⟨rfl, hck.2 r hh⟩) (clr_none _ _) c4 hck.1.1 hck.1.2 hside.1 hside.2.1 hside.2.2 hc2
       have hnr : Nr s.h h' := ⟨k2, k3⟩
       have hext : x = true → Ext s.h h' := fun hx => ⟨k2, k5 (hxm hx)⟩
       have hcall := hR g1 _ _ _ _ hgp k1 hnr hext
       unfold OpsP
       rw [hop]
       simp only [gdV, calleeV, v1]
       refine ⟨v, h', by simpa using hcall, ?_⟩
       refine OW_ok hR hl hrest ((s.hp h').put o.d v) ⟨ow2, ?_, ?_, ?_⟩ (hf.step (by rw [put_h]; exact k2) (fun n hne hb hor => ?_))
       ·rw [put_h]; exact k7
       ·rw [put_h]
        exact m1.frm.go k2 (fun n hlt => ⟨fun hh => by
         have := k4 n (Nat.lt_of_lt_of_le hlt m.frm.nx) (.inl hh)
         exact ⟨this.1.trans hh, this.2⟩, fun hh => by
         have := k4 n (Nat.lt_of_lt_of_le hlt m.frm.nx) (.inr hh)
         exact ⟨this.1.trans hh, this.2⟩⟩) (fun n hlt hh => k3 n (Nat.lt_of_lt_of_le hlt m.frm.nx) hh)
       ·rw [put_h]; exact k6
       ·rw [put_h]; exact k3 n hor hb
      ·cases hcl
     ·cases hcl
    ·exact h.elim
   ·-- append
    rename_i args ts hop
    split at h
    ·rename_i a b t t2 r h1 h2 h3
     split at h
     ·rename_i st' n hap
      obtain ⟨hr, hn, hrest⟩ := h
      have e1 : args = #[a, b] := by rw [← Array.toArray_toList (xs := args), h1]
      have e2 : ts = #[t, t2] := by rw [← Array.toArray_toList (xs := ts), h2]
      rw [hop, e1, e2, h3]
      exact og_append hr hap hn (OW_ok hR hl hrest)
     ·exact h.elim
    ·exact h.elim
   ·split at h
    ·rename_i hany
     split at h
     ·rename_i r hdr
      obtain ⟨hr, h⟩ := h
      intro s ⟨ow, m⟩ hf
      obtain ⟨b, hb⟩ := anB_ok (E := E) m hany (base + i)
      have hfs := hf.step (s' := s.put (some r) (.bool b)) (by rw [put_h]; exact Nat.le_refl _) (fun n _ hb _ => by rw [put_h]; exact hb)
      unfold OpsP
      simp only [hdr, gdV, hb.1, hb.2]
      exact OW_ok hR hl (h b) _ (Sm.put m hr (p := (r, [])) (by unfold noOwn; rfl) (.inr ⟨[.bool b], by unfold DR FR; rfl, rfl⟩)) hfs
     ·exact h.elim
    ·split at h
     ·rename_i st' hs
      exact og_stp hs (OW_ok hR hl h)
     ·exact h.elim
  unfold OW at h
  split at h
  ·rename_i hg
   have := one h
   obtain ⟨od, og, oo⟩ := o
   simp only at hg; subst hg
   exact this
  ·rename_i j w hg
   obtain ⟨od, og, oo⟩ := o
   simp only at hg; subst hg
   intro s ⟨ow, m⟩ hf
   obtain ⟨hlt, h⟩ := h
   split at h
   ·rename_i b hb
    ·have hj : s.t j = .bool b := by
      have h1 := m.core.regs j _ hb
      rcases h1 with ⟨l, vs, hk, _⟩ | h1
      ·cases hk
      ·have := sv_ok (x := .bool b) rfl h1
       unfold vl at this; rw [if_pos hlt] at this; exact this
     by_cases hbw : b = w
     ·have h1 := one (h.1 hbw) s ⟨ow, m⟩ hf
      unfold OpsP at h1 ⊢
      have hg2 : gdV s (some (j, w)) = some true := by simp only [gdV, hj, hbw]; cases w <;> rfl
      simp only [hg2]
      simp only [gdV] at h1
      exact h1
     ·have hbw2 : b = !w := by cases b <;> cases w <;> simp_all
      have hg2 : gdV s (some (j, w)) = some false := by simp only [gdV, hj]; rw [hbw2]; cases w <;> rfl
      unfold OpsP
      simp only [hg2]
      exact OW_ok hR hl (h.2 hbw2) _ (sm_putU m hod) (hf.step (by rw [put_h]; exact Nat.le_refl _) (fun n _ hb _ => by rw [put_h]; exact hb))
   ·rename_i hb
    have hj : s.t j = .tuple #[] := by
     have h1 := m.core.regs j _ hb
     rcases h1 with ⟨l, vs, hk, h2, h3⟩ | ⟨k, hk⟩ | ⟨cs, hk, _⟩
     ·injection hk with hk; subst hk
      unfold VRs at h3
      unfold vl at h2; rw [if_pos hlt] at h2
      rw [h2]
      congr 1
      exact Array.ext' h3
     ·cases hk
     ·unfold DR at hk; exact hk.elim
    have hg2 : gdV s (some (j, w)) = some false := by simp only [gdV, hj]
    unfold OpsP
    simp only [hg2]
    exact OW_ok hR hl h _ (sm_putU m hod) (hf.step (by rw [put_h]; exact Nat.le_refl _) (fun n _ hb _ => by rw [put_h]; exact hb))
   ·exact h.elim
end
end Go.Proofs.YtonpnjfclelpiaaGreatM
