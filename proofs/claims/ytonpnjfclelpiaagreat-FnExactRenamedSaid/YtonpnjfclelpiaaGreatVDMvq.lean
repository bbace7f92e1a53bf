import Derived.Test.YtonpnjfclelpiaaGreatVDMvh
namespace Go.Proofs.YtonpnjfclelpiaaGreatM
open Go
set_option linter.unusedVariables false
set_option linter.unusedSimpArgs false
def soP (r : Nat) (o : Option DV) (so : St) : St := match o with
 | some d => put r d so
 | none => clr r so
def soC (d : Option Nat) (so : St) : St := match d with
 | some r => clr r so
 | none => so
def knP : DV → Prop
 | .fv (.fp _) => True
 | .ptr _ _ _ => True
 | .hdr _ _ _ => True
 | .fv (.row _ l) => l ≠ []
 | .fv .nil => True
 | _ => False
def nfD : DV → Bool
 | .ptr _ _ _ => false
 | .hdr _ _ _ => false
 | _ => true
def noFr (st : St) : List Operand → Bool
 | [] => true
 | x :: xs => nfD (ev2 st x) && noFr st xs
theorem noFr_ok {st : St} : ∀ {xs : List Operand}, noFr st xs = true → frL xs st = some st
 | [], _ => by unfold frL; rfl
 | x :: xs, h => by
  unfold noFr at h
  rw [Bool.and_eq_true] at h
  unfold frL
  cases hv : ev2 st x with
  | ptr _ _ _ => rw [hv] at h; cases h.1
  | hdr _ _ _ => rw [hv] at h; cases h.1
  | _ => exact noFr_ok h.2
def mvP (st : St) : Operand → Option DV
 | .tmp t => (get st t).bind fun d => match d with
  | .tup _ => none
  | _ => some (ev2 st (.tmp t))
 | x => some (ev2 st x)
def asP (st : St) : Operand → Option DV
 | .tmp t => (get st t).bind fun d => match d with
  | .tup _ => none
  | d => if noOwn d = true then some (ev2 st (.tmp t)) else none
 | x => some (ev2 st x)
def slQ (Γ : TypeId → Option TI) (t : TypeId) (lo hi : Option DV) : DV → Option DV
 | .fv v => (slF Γ t lo hi v).map .fv
 | _ => none
def slP (Γ : TypeId → Option TI) (st : St) (t : TypeId) (x : Operand) (lo hi : Option Operand) : Option DV := slQ Γ t (lo.map (ev2 st)) (hi.map (ev2 st)) (ev2 st x)
def orD : Option DV → Option DV → Option DV
 | some d, _ => some d
 | none, e => e
def purX (Γ : TypeId → Option TI) (E : TypeId → Nat) (st : St) : Op → Option DV
 | .move x => mvP st x
 | .assign x => asP st x
 | .slice t x lo hi none => slP Γ st t x lo hi
 | .convert t u x => orD (cv2 Γ t u (ev2 st x)) (tx2 Γ st t u (ev2 st x))
 | op => pure2 Γ E st op
def asI : DV → Option DV
 | .fv (.int k n) => some (.fv (.int k n))
 | _ => none
def adr (Γ : TypeId → Option TI) (st so : St) : Op → Option DV
 | .move x => some (ev2 so x)
 | .assign x => some (ev2 so x)
 | .fieldAddr t a f => fa2 Γ t f (ev2 so a)
 | .indexAddr t a j => (asI (ev2 st j)).bind fun n => ia2 Γ t (ev2 so a) n
 | .load t a => ld2 Γ so t (ev2 so a)
 | .slice t x lo hi none => slP Γ so t x lo hi
 | _ => none
def isPS : Operand → Bool
 | .func g => g == PS
 | _ => false
section
variable (Γ : TypeId → Option TI) (E : TypeId → Nat) (MU : FuncId → Nat → Nat) (C : Rel)
def frzs (MU : FuncId → Nat → Nat) (g : FuncId) (xs : List Operand) : List Operand := (xs.zipIdx).filterMap fun p => if MU g p.2 = 0 then some p.1 else none
mutual
def OX : List POp → St → St → (St → Prop) → Prop
 | [], st, so, Q => Q st
 | o :: l, st, so, Q => match o.g with
  | none => X1 o.d o.op l st so Q
  | some (j, w) => j < LB ∧ match get st j with
   | some (.fv (.bool b)) => (b = w → X1 o.d o.op l st so Q) ∧ (b = (!w) → OX l (putU o.d st) (soC o.d so) Q)
   | some (.tup []) => OX l (putU o.d st) (soC o.d so) Q
   | _ => False
def X1 (d : Option Nat) (op : Op) (l : List POp) (st so : St) (Q : St → Prop) : Prop := match op with
 | .call { callee := .value f, args, .. } => if isPS f = true then (match args.toList, d with
   | [a, .const (.int .i64 (.ofNat t))], some r => (knP (ev2 so a) ∧ r < LB) ∧ match ld2 Γ st t (ev2 st a) with
    | some e => OX l (put r e st) (soP r (ld2 Γ so t (ev2 so a)) so) Q
    | none => False
   | [a, .const (.int .i64 (.ofNat q)), .const (.int .i64 (.ofNat t))], some r => (knP (ev2 so a) ∧ r < LB) ∧ match tx2 Γ st q t (ev2 st a) with
    | some e => OX l (put r e st) (clr r so) Q
    | none => False
   | _, _ => False) else (match cl2 MU st d f args.toList with
  | some (g, ds, L, mv, st1) => mv = [] ∧ CK C g ds L fun r outs => OX l (aft mv d r outs st1) (if noFr st (frzs MU g args.toList) = true then soC (some (d.getD LB)) so else []) Q
  | none => False)
 | op => match d with
  | some r => match purX Γ E st op with
   | some e => r < LB ∧ OX l (put r e st) (soP r (adr Γ st so op) so) Q
   | none => match stp Γ E st (some r) op with
    | some st' => OX l st' [] Q
    | none => False
  | none => match stp Γ E st none op with
   | some st' => OX l st' [] Q
   | none => False
end
end
section
variable {Γ : TypeId → Option TI} {E : TypeId → Nat} {MU : FuncId → Nat → Nat} {C R : Rel} {D : DrawR} {h0 : Hp} {ow0 : Nat → Ow} {G : Nat → Value} {s : S} {base i : Nat} {l : List POp} {st st' so : St}
theorem SmW.putO {ow : Nat → Ow} (m : SmW h0 ow0 G st s ow) {r : Nat} (hr : r < LB) {d : DV} {p : Pt} {v : Value} (hn : noOwn d = true) (hd : VRc s.h ow s.h.next p d v) : SmW h0 ow0 G (put r d st) (s.put (some r) v) (dropO (atR r) ow) := by
 refine ⟨?_, ?_, ?_⟩
 ·have := m.core.put (val' := vl (s.put (some r) v) G) (r := r) (by unfold LB at *; omega) vl_put_ne (p := p) hn (by rw [vl_put hr]; exact hd)
  exact this
 ·exact frm_drop m.frm
 ·exact m.top
theorem core_nil {val : Nat → Value} {h : Hp} {ow : Nat → Ow} {B B' : Nat} (C : Core val h ow B st) : Core val h ow B' [] := ⟨fun r d hd => (by cases hd), C.inj, C.nn, fun r d hd => (by cases hd)⟩
theorem slP_ok {h : Hp} {ow : Nat → Ow} {B nm : Nat} (C1 : Core (vl s G) h ow B st) {t : TypeId} {x : Operand} {lo hi : Option Operand} {e : DV} (hp : slP Γ st t x lo hi = some e) (p : Pt) : ∃ v, opV Γ E nm s.ev (.slice t x lo hi none) s.h = some (v, s.h) ∧ VRc h ow B p e v ∧ noOwn e = true := by
 unfold slP slQ at hp
 split at hp
 ·rename_i v hv
  obtain ⟨y, h1, rfl⟩ := Option.map_eq_some_iff.1 hp
  obtain ⟨w, hall, h3⟩ := slF_ok C1 hv h1
  refine ⟨w, opV_slice hall, ?_, by unfold noOwn; rfl⟩
  rcases h3 with ⟨k, hk⟩ | ⟨cs, e1, e2⟩
  ·cases hk
  ·exact .inr ⟨cs, by unfold DR at *; exact e1, e2⟩
 ·cases hp
theorem tx2_fv {t u : TypeId} {x e : DV} (h : tx2 Γ st t u x = some e) : ∃ w, e = .fv w := by
 unfold tx2 at h
 split at h
 ·split at h
  ·split at h
   ·injection h with h; exact ⟨_, h.symm⟩
   ·split at h
    ·obtain ⟨r, _, rfl⟩ := Option.map_eq_some_iff.1 h; exact ⟨_, rfl⟩
    ·cases h
   ·obtain ⟨nd, _, h2⟩ := Option.bind_eq_some_iff.1 h
    split at h2
    ·split at h2
     ·obtain ⟨r, _, rfl⟩ := Option.map_eq_some_iff.1 h2; exact ⟨_, rfl⟩
     ·cases h2
    ·cases h2
   ·cases h
  ·cases h
 ·cases h
theorem purX_ok {ow : Nat → Ow} (m : SmW h0 ow0 G st s ow) {op : Op} {e : DV} (hp : purX Γ E st op = some e) (nm : Nat) (p : Pt) : calleeV s op = none ∧ ∃ v, opV Γ E nm s.ev op s.h = some (v, s.h) ∧ VRc s.h ow s.h.next p e v ∧ noOwn e = true := by
 have hmv : ∀ x d, some (ev2 st x) = some d → ∃ v, opV Γ E nm s.ev (.move x) s.h = some (v, s.h) ∧ VRc s.h ow s.h.next p d v ∧ noOwn d = true := fun x d h => by
  injection h with h; subst h
  obtain ⟨h1, h2⟩ := ev2_ok m.core x p
  exact ⟨s.ev x, opV_pure rfl, h1, h2⟩
 have has : ∀ x d, some (ev2 st x) = some d → ∃ v, opV Γ E nm s.ev (.assign x) s.h = some (v, s.h) ∧ VRc s.h ow s.h.next p d v ∧ noOwn d = true := fun x d h => by
  injection h with h; subst h
  obtain ⟨h1, h2⟩ := ev2_ok m.core x p
  exact ⟨s.ev x, opV_pure rfl, h1, h2⟩
 unfold purX at hp
 split at hp
 ·rename_i x
  refine ⟨rfl, hmv x e ?_⟩
  unfold mvP at hp
  split at hp
  ·obtain ⟨d, h1, h2⟩ := Option.bind_eq_some_iff.1 hp
   split at h2
   ·cases h2
   ·exact h2
  ·exact hp
 ·rename_i x
  refine ⟨rfl, has x e ?_⟩
  unfold asP at hp
  split at hp
  ·obtain ⟨d, h1, h2⟩ := Option.bind_eq_some_iff.1 hp
   split at h2
   ·cases h2
   ·split at h2
    ·exact h2
    ·cases h2
  ·exact hp
 ·exact ⟨rfl, slP_ok m.core hp p⟩
 ·rename_i t u x
  cases hcv : cv2 Γ t u (ev2 st x) with
  | some d =>
   rw [hcv] at hp
   injection hp with hp; subst hp
   exact pure2_ok (op := .convert t u x) m hcv nm p
  | none =>
   rw [hcv] at hp
   obtain ⟨w, hw⟩ := tx2_fv hp
   obtain ⟨v, h1, h2, h3, e', a, b, c, a', b', c', hg1, hg2⟩ := tx2_ok m hp
   refine ⟨rfl, v, ?_, ?_, h3⟩
   ·unfold opV
    simp only [pureV, hg1, hg2, makeV, effV, h1]; rfl
   ·subst hw
    rcases h2 with ⟨k, hk⟩ | ⟨cs, e1, e2⟩
    ·cases hk
    ·exact .inr ⟨cs, by unfold DR at *; exact e1, e2⟩
 ·exact pure2_ok m hp nm p
theorem adr_ok {ow : Nat → Ow} {B : Nat} (m : SmW h0 ow0 G st s ow) (C1 : Core (vl s G) s.h ow B so) {op : Op} {e : DV} (hp : adr Γ st so op = some e) (nm : Nat) (p : Pt) : ∃ v, opV Γ E nm s.ev op s.h = some (v, s.h) ∧ VRc s.h ow B p e v ∧ noOwn e = true := by
 unfold adr at hp
 split at hp
 ·rename_i x
  injection hp with hp; subst hp
  obtain ⟨h1, h2⟩ := ev2_ok C1 x p
  exact ⟨s.ev x, opV_pure rfl, h1, h2⟩
 ·rename_i x
  injection hp with hp; subst hp
  obtain ⟨h1, h2⟩ := ev2_ok C1 x p
  exact ⟨s.ev x, opV_pure rfl, h1, h2⟩
 ·exact ex_opV (fa2_ok hp rfl (ev2_ok C1 _ p).1)
 ·rename_i t a j
  obtain ⟨n, h1, h2⟩ := Option.bind_eq_some_iff.1 hp
  have hj := (ev2_ok m.core j p).1
  have hj2 : VRc s.h ow B p n (s.ev j) := by
   unfold asI at h1
   split at h1
   ·rename_i k n' hv
    injection h1 with h1; subst h1
    rw [hv] at hj
    rcases hj with ⟨k, hk⟩ | ⟨cs, q1, q2⟩
    ·cases hk
    ·exact .inr ⟨cs, by unfold DR FR at *; exact q1, q2⟩
   ·cases h1
  exact ex_opV (ia2_ok h2 rfl rfl (ev2_ok C1 a p).1 hj2)
 ·rename_i t a
  obtain ⟨v, h1, h2⟩ := ld2_ok (p := p) C1 hp (ev2_ok C1 a p).1
  refine ⟨v, ?_, h2⟩
  unfold opV
  simp only [pureV, h1]; rfl
 ·exact slP_ok C1 hp p
 ·cases hp
theorem kn_ok {h : Hp} {ow : Nat → Ow} {B : Nat} {p : Pt} {d : DV} {v : Value} (hk : knP d) (e : VRc h ow B p d v) : okAt B v := by
 rcases e with ⟨k, rfl⟩ | ⟨cs, h1, h2⟩
 ·exact hk.elim
 ·subst h2
  unfold knP at hk
  split at hk
  ·unfold DR FR at h1
   obtain ⟨n, o, cs', rfl, h2, _⟩ := h1
   exact h2
  ·unfold DR at h1
   obtain ⟨_, n, z, k, h2, _, rfl⟩ := h1
   exact h2
  ·unfold DR at h1
   obtain ⟨_, n, h2, _, rfl⟩ := h1
   exact h2
  ·unfold DR FR at h1
   rcases h1 with ⟨h1, _⟩ | ⟨n, o, c, css, rfl, _, _, _, h5⟩
   ·exact absurd h1 hk
   ·exact (h5 hk).1
  ·unfold DR FR at h1
   subst h1
   exact trivial
  ·exact hk.elim
theorem so_keep {ow ow' : Nat → Ow} {h' : Hp} {val' : Nat → Value} {bound : Nat} (hc : Core (vl s G) s.h ow bound so) (hb : ∀ n, ow n ≠ .no → n < s.h.next) (hfn : ∀ n, n < s.h.next → (ow n = .fz ∨ ow n = .no) → ow' n = ow n ∧ h'.blk n = s.h.blk n) (hof : ∀ n p z k, ow n = .of p z k → ow' n = .of p z k ∧ h'.blk n = s.h.blk n) (hi : ∀ n m p z k z' k', ow' n = .of p z k → ow' m = .of p z' k' → n = m) (hnn : ∀ n, h'.blk n = none → ow' n = .no) (hv : ∀ q d, get so q = some d → val' q = vl s G q) : Core val' h' ow' bound so := by
 have hfz : FzSame s.h ow h' ow' := fun n hn => by
  have := hfn n (hb n (by rw [hn]; exact fun hh => by cases hh)) (.inl hn)
  exact ⟨this.1.trans hn, this.2⟩
 have C2 := hc.tr' (val' := val') (a := fun _ => false) (h' := h') (ow' := ow') ⟨hfz, fun n q z k _ hn => (hof n q z k hn).1⟩ (fun r d hd => ⟨hfz, fun n w z k hn => hof n _ z k hn⟩) hi hnn (Nat.le_refl _) hv
 have e : ∀ st : St, klS (fun _ => false) st = st := by
  have e1 : ∀ d : DV, kl (fun _ => false) d = d := fun d => DV.rec (motive_1 := fun d => kl (fun _ => false) d = d) (motive_2 := fun l => kls (fun _ => false) l = l) (fun _ => by unfold kl; rfl) (fun _ _ _ => by unfold kl; rfl) (fun l ih => by unfold kl; rw [ih]) (fun _ _ => by unfold kl; rfl) (fun _ _ _ => by unfold kl; simp) (fun _ _ _ => by unfold kl; simp) (fun l ih => by unfold kl; rw [ih]) (fun _ => by unfold kl; rfl) (by unfold kls; rfl) (fun a l h1 h2 => by unfold kls; rw [h1, h2]) d
  intro st
  induction st with
  | nil => rfl
  | cons a st ih => obtain ⟨k, d⟩ := a; unfold klS; rw [e1, ih]
 rw [e] at C2; exact C2
theorem OX_ok {bound : Nat} : ∀ {l : List POp} {st so : St} {i : Nat} {Q : St → Prop}, (∀ o ∈ l, ∀ r, o.d = some r → r < LB) → OX Γ E MU C l st so Q → ∀ s : S, (∃ ow, SmW h0 ow0 G st s ow ∧ Core (vl s G) s.h ow bound so) → Fresh h0 base i l.length s → OpsP Γ E (TC Γ C true bound) base i l s (fun s => ∃ st', Q st' ∧ Sm h0 ow0 G st' s)
 | [], st, so, i, Q, _, h => by
  intro s ⟨ow, m, _⟩ _
  unfold OX at h
  exact ⟨st, h, ow, m⟩
 | o :: l, st, so, i, Q, hd, h => by
  have hl : ∀ o ∈ l, ∀ r, o.d = some r → r < LB := fun o ho => hd o (List.mem_cons_of_mem _ ho)
  have hod : ∀ r, o.d = some r → r < LB := hd o (by simp)
  -- operations of all kinds, with nothing known behind them
  have gen : ∀ {st st' : St} {d : Option Nat} {op : Op}, stp Γ E st d op = some st' → OX Γ E MU C l st' [] Q → ∀ s : S, (∃ ow, SmW h0 ow0 G st s ow) → Fresh h0 base i (l.length + 1) s → OpsP Γ E (TC Γ C true bound) base i (⟨d, none, op⟩ :: l) s (fun s => ∃ st', Q st' ∧ Sm h0 ow0 G st' s) := by
   intro st st' d op hs hn s hm hf
   exact og_stp (R := TC Γ C true bound) hs (fun s ⟨ow, m⟩ hf => OX_ok hl hn s ⟨ow, m, core_nil m.core⟩ hf) s hm hf
  have one : ∀ {st so : St}, X1 Γ E MU C o.d o.op l st so Q → ∀ s : S, (∃ ow, SmW h0 ow0 G st s ow ∧ Core (vl s G) s.h ow bound so) → Fresh h0 base i (l.length + 1) s → OpsP Γ E (TC Γ C true bound) base i (⟨o.d, none, o.op⟩ :: l) s (fun s => ∃ st', Q st' ∧ Sm h0 ow0 G st' s) := by
   intro st so h s ⟨ow, m, mo⟩ hf
   unfold X1 at h
   split at h
   ·-- a call
    rename_i f args ts hop
    split at h
    ·rename_i hps
     have hfp : f = .func PS := by
      unfold isPS at hps
      split at hps
      ·rw [beq_iff_eq] at hps; rw [hps]
      ·cases hps
     subst hfp
     split at h
     ·rename_i a t r h1 h2
      obtain ⟨⟨hk, hr⟩, h⟩ := h
      have e1 : args = #[a, .const (.int .i64 (Int.ofNat t))] := by rw [← Array.toArray_toList (xs := args), h1]
      have hokat := kn_ok hk (ev2_ok mo a (r, [])).1
      split at h
      ·rename_i e hld
       obtain ⟨v, k1, k2, k3⟩ := ld2_ok (p := (r, [])) m.core hld (ev2_ok m.core a (r, [])).1
       unfold OpsP
       rw [hop, e1, h2]
       have hg : calleeV s (.call { callee := .value (.func PS), args := #[a, .const (.int .i64 (Int.ofNat t))], argTypes := ts }) = some (PS, [s.ev a, .int .i64 (t : Int)]) := rfl
       simp only [gdV, hg]
       refine ⟨v, s.h, .inl ⟨rfl, rfl, rfl, .inl ⟨_, t, rfl, hokat, k1⟩⟩, ?_⟩
       refine OX_ok hl h _ ⟨dropO (atR r) ow, m.putO hr k3 k2, ?_⟩ (hf.step (by rw [put_h]; exact Nat.le_refl _) (fun n hne hb _ => by rw [put_h]; exact hb))
       unfold soP
       split
       ·rename_i e' hld2
        obtain ⟨v', q1, q2, q3⟩ := ld2_ok (p := (r, [])) mo hld2 (ev2_ok mo a (r, [])).1
        have : v' = v := by rw [k1] at q1; injection q1 with q1; exact q1.symm
        subst this
        exact mo.put (by unfold LB at *; omega) vl_put_ne (p := (r, [])) q3 (by rw [vl_put hr]; exact q2)
       ·exact mo.clr vl_put_ne
      ·exact h.elim
     ·rename_i a q t r h1 h2
      obtain ⟨⟨hk, hr⟩, h⟩ := h
      have e1 : args = #[a, .const (.int .i64 (Int.ofNat q)), .const (.int .i64 (Int.ofNat t))] := by rw [← Array.toArray_toList (xs := args), h1]
      have hokat := kn_ok hk (ev2_ok mo a (r, [])).1
      split at h
      ·rename_i e hld
       obtain ⟨v, k1, k2, k3, _⟩ := tx2_ok m hld
       unfold OpsP
       rw [hop, e1, h2]
       have hg : calleeV s (.call { callee := .value (.func PS), args := #[a, .const (.int .i64 (Int.ofNat q)), .const (.int .i64 (Int.ofNat t))], argTypes := ts }) = some (PS, [s.ev a, .int .i64 (q : Int), .int .i64 (t : Int)]) := rfl
       simp only [gdV, hg]
       refine ⟨v, s.h, .inl ⟨rfl, rfl, rfl, .inr ⟨_, q, t, rfl, hokat, k1⟩⟩, ?_⟩
       exact OX_ok hl h _ ⟨dropO (atR r) ow, m.putO hr k3 k2, mo.clr vl_put_ne⟩ (hf.step (by rw [put_h]; exact Nat.le_refl _) (fun n hne hb _ => by rw [put_h]; exact hb))
      ·exact h.elim
     ·exact h.elim
    ·split at h
     ·rename_i g ds L mv st1 hcl
      obtain ⟨hmv, dd, outs, hc2, hside, hrest⟩ := h
      subst hmv
      unfold cl2 at hcl
      obtain ⟨⟨g0, b0⟩, c1, hcl⟩ := Option.bind_eq_some_iff.1 hcl
      obtain ⟨stf, c2, hcl⟩ := Option.bind_eq_some_iff.1 hcl
      obtain ⟨⟨g1, b1⟩, c3, hcl⟩ := Option.bind_eq_some_iff.1 hcl
      split at hcl
      ·rename_i hg
       simp only at hg
       obtain ⟨rfl, hgp⟩ := hg
       obtain ⟨⟨ds', L', mv'⟩, c4, hcl⟩ := Option.bind_eq_some_iff.1 hcl
       split at hcl
       ·rename_i hck
        injection hcl with hcl; injection hcl with e1 e2; injection e2 with e2 e3; injection e3 with e3 e4; injection e4 with e4 e5
        simp only at e1 e2 e3 e4 e5
        subst e1; subst e2; subst e3; subst e5
        simp only [Bool.and_eq_true, List.all_eq_true, Option.isNone_iff_eq_none] at hck
        -- what is frozen for it
        have hfr : ∃ owf, SmW h0 ow0 G stf s owf ∧ (noFr st (frzs MU g1 args.toList) = true → owf = ow) := by
         cases hnf : noFr st (frzs MU g1 args.toList) with
         | true =>
          have := noFr_ok hnf
          unfold frzs at this
          rw [this] at c2; injection c2 with c2; subst c2
          exact ⟨ow, m, fun _ => rfl⟩
         | false =>
          obtain ⟨owf, mf⟩ := sm_frL m c2
          exact ⟨owf, mf, fun hh => by cases hh⟩
        obtain ⟨owf, mf, hof⟩ := hfr
        obtain ⟨vb, v1, v2, v3⟩ := cal_ok mf.core c3
        have m1 := sm_clr mf (o.d.getD LB)
        have hfreeC : ∀ n p z k, dropO (atR (o.d.getD LB)) owf n = .of p z k → p.1 ≠ o.d.getD LB ∧ p.1 ≠ LB := fun n p z k hh => drop_free hh
        obtain ⟨v, h', ow2, k1, k2, k3, k4, k5, k6, k7, k8⟩ := call_ok (f := g1) (r0 := o.d.getD LB) (dst := o.d) (bs := b1) (vb := vb.toList) m1.core v2 (fun j b v hb hv => by
          obtain ⟨cs, q1, q2⟩ := v3 j b v hb hv
          exact ⟨cs, q1.mono (fun n hn => ⟨dropO_fz.2 hn, rfl⟩) (Nat.le_refl _), q2⟩) m1.top hfreeC (by
          cases hh : o.d with
          | none => exact .inl rfl
          | some r => exact .inr ⟨rfl, hck.2 r hh⟩) (clr_none _ _) c4 hck.1.1 hck.1.2 hside.1 hside.2.1 hside.2.2 hc2
        have hnr : Nr s.h h' := ⟨k2, k3⟩
        have hsame := k5 e4
        have hext : Ext s.h h' := ⟨k2, hsame⟩
        have hcall : TC Γ C true bound g1 (args.toList.map s.ev ++ vb.toList) s.h v h' := .inr ⟨.inr hgp, k1, hnr, fun _ => hext⟩
        unfold OpsP
        rw [hop]
        simp only [gdV, calleeV, v1]
        refine ⟨v, h', by simpa using hcall, ?_⟩
        rw [e4] at k7
        refine OX_ok hl hrest ((s.hp h').put o.d v) ⟨ow2, ⟨?_, ?_, ?_⟩, ?_⟩ (hf.step (by rw [put_h]; exact k2) (fun n hne hb hor => ?_))
        ·rw [put_h]; exact k7
        ·rw [put_h]
         exact m1.frm.go k2 (fun n hlt => ⟨fun hh => by
          have := k4 n (Nat.lt_of_lt_of_le hlt m.frm.nx) (.inl hh)
          exact ⟨this.1.trans hh, this.2⟩, fun hh => by
          have := k4 n (Nat.lt_of_lt_of_le hlt m.frm.nx) (.inr hh)
          exact ⟨this.1.trans hh, this.2⟩⟩) (fun n hlt hh => k3 n (Nat.lt_of_lt_of_le hlt m.frm.nx) hh)
        ·rw [put_h]; exact k6
        ·split
         ·rename_i hnf
          have hofe := hof hnf
          subst hofe
          have hlt : ∀ n, dropO (atR (o.d.getD LB)) owf n ≠ .no → n < s.h.next := fun n hn => Nat.lt_of_not_le fun hle => hn (m1.core.nn n (m1.top n hle))
          have hco := mo.clr (r := o.d.getD LB) (val' := vl s G) (fun _ _ => rfl)
          rw [put_h]
          refine so_keep hco hlt (fun n hn hh => k4 n hn hh) (fun n p z k hn => ⟨k8 e4 n p z k hn, hsame n (hlt n (by rw [hn]; exact fun hh => by cases hh))⟩) k7.inj k7.nn (fun q d hq => ?_)
          cases hdo : o.d with
          | none => rfl
          | some r =>
           rw [hdo] at hq
           have : q ≠ r := fun hh => by
            subst hh
            have h0 : get (clr q so) q = some d := hq
            rw [clr_none] at h0; cases h0
           rw [vl_put_ne q this]; rfl
         ·rw [put_h]; exact core_nil k7
        ·rw [put_h]; exact k3 n hor hb
       ·cases hcl
      ·cases hcl
     ·exact h.elim
   ·-- other operations
    rename_i hn1
    split at h
    ·rename_i r hdr
     have hr := hod r hdr
     split at h
     ·rename_i e hp
      obtain ⟨_, h⟩ := h
      obtain ⟨p1, v, p2, p3, p4⟩ := purX_ok m hp (base + i) (r, [])
      unfold OpsP
      rw [hdr]
      simp only [gdV, p1, p2]
      refine OX_ok hl h _ ⟨dropO (atR r) ow, ?_, ?_⟩ (hf.step (by rw [put_h]; exact Nat.le_refl _) (fun n hne hb _ => by rw [put_h]; exact hb))
      ·exact m.putO hr p4 p3
      ·unfold soP
       split
       ·rename_i e' ha
        obtain ⟨v', q1, q2, q3⟩ := adr_ok m mo ha (base + i) (r, [])
        have : v' = v := by rw [p2] at q1; injection q1 with q1; injection q1 with q1; exact q1.symm
        subst this
        exact mo.put (by unfold LB at *; omega) vl_put_ne (p := (r, [])) q3 (by rw [vl_put hr]; exact q2)
       ·exact mo.clr vl_put_ne
     ·split at h
      ·rename_i st' hs
       rw [hdr]
       exact gen hs h s ⟨ow, m⟩ hf
      ·exact h.elim
    ·rename_i hdr
     split at h
     ·rename_i st' hs
      rw [hdr]
      exact gen hs h s ⟨ow, m⟩ hf
     ·exact h.elim
  unfold OX at h
  split at h
  ·rename_i hg
   have := one h
   obtain ⟨od, og, oo⟩ := o
   simp only at hg; subst hg
   exact this
  ·rename_i j w hg
   obtain ⟨od, og, oo⟩ := o
   simp only at hg; subst hg
   intro s ⟨ow, m, mo⟩ hf
   obtain ⟨hlt, h⟩ := h
   have skip : ∀ {st1 : St}, st1 = putU od st → OX Γ E MU C l st1 (soC od so) Q → OpsP Γ E (TC Γ C true bound) base (i + 1) l (s.put od undef) (fun s => ∃ st', Q st' ∧ Sm h0 ow0 G st' s) := by
    intro st1 hst h
    subst hst
    have hfs := hf.step (s' := s.put od undef) (by rw [put_h]; exact Nat.le_refl _) (fun n _ hb _ => by rw [put_h]; exact hb)
    cases hodd : od with
    | none =>
     rw [hodd] at h hfs
     exact OX_ok hl h _ ⟨ow, m, mo⟩ hfs
    | some r =>
     rw [hodd] at h hfs
     have hr := hod r hodd
     refine OX_ok hl h _ ⟨dropO (atR r) ow, ⟨?_, ?_, ?_⟩, mo.clr vl_put_ne⟩ hfs
     ·rw [put_h]
      refine (m.core.clr (val' := vl (s.put (some r) undef) G) vl_put_ne).add (by unfold LB at *; omega) (.inl ⟨[], #[], rfl, ?_, rfl⟩)
      rw [vl_put hr]; rfl
     ·rw [put_h]; exact frm_drop m.frm
     ·rw [put_h]; exact m.top
   split at h
   ·rename_i b hb
    ·have hj : s.t j = .bool b := by
      have h1 := m.core.regs j _ hb
      rcases h1 with ⟨l, vs, hk, _⟩ | h1
      ·cases hk
      ·have := sv_ok (x := .bool b) rfl h1
       unfold vl at this; rw [if_pos hlt] at this; exact this
     by_cases hbw : b = w
     ·have h1 := one (h.1 hbw) s ⟨ow, m, mo⟩ hf
      unfold OpsP at h1 ⊢
      have hg2 : gdV s (some (j, w)) = some true := by simp only [gdV, hj, hbw]; cases w <;> rfl
      simp only [hg2]
      simp only [gdV] at h1
      exact h1
     ·have hbw2 : b = !w := by cases b <;> cases w <;> simp_all
      have hg2 : gdV s (some (j, w)) = some false := by simp only [gdV, hj]; rw [hbw2]; cases w <;> rfl
      unfold OpsP
      simp only [hg2]
      exact skip rfl (h.2 hbw2)
   ·rename_i hb
    have hj : s.t j = .tuple #[] := by
     have h1 := m.core.regs j _ hb
     rcases h1 with ⟨l, vs, hk, h2, h3⟩ | ⟨k, hk⟩ | ⟨cs, hk, _⟩
     ·injection hk with hk; subst hk
      unfold VRs at h3
      unfold vl at h2; rw [if_pos hlt] at h2
      rw [h2]
      congr 1
      exact Array.ext' h3
     ·cases hk
     ·unfold DR at hk; exact hk.elim
    have hg2 : gdV s (some (j, w)) = some false := by simp only [gdV, hj]
    unfold OpsP
    simp only [hg2]
    exact skip rfl h
   ·exact h.elim
theorem OX_mono : ∀ {l : List POp} {st so : St} {Q Q' : St → Prop}, (∀ st, Q st → Q' st) → OX Γ E MU C l st so Q → OX Γ E MU C l st so Q'
 | [], st, so, Q, Q', hq, h => by rw [OX] at h ⊢; exact hq _ h
 | o :: l, st, so, Q, Q', hq, h => by
  have one : ∀ {st so : St}, X1 Γ E MU C o.d o.op l st so Q → X1 Γ E MU C o.d o.op l st so Q' := by
   intro st so h
   unfold X1 at h ⊢
   split at h
   ·rename_i f args ts hop
    split at h
    ·rename_i hps
     rw [if_pos hps]
     split at h
     ·refine ⟨h.1, ?_⟩
      have h2 := h.2
      split at h2
      ·exact OX_mono hq h2
      ·exact h2.elim
     ·refine ⟨h.1, ?_⟩
      have h2 := h.2
      split at h2
      ·exact OX_mono hq h2
      ·exact h2.elim
     ·exact h.elim
    ·rename_i hps
     rw [if_neg hps]
     split at h
     ·obtain ⟨h1, dd, outs, h2, h3, h4⟩ := h
      exact ⟨h1, dd, outs, h2, h3, OX_mono hq h4⟩
     ·exact h.elim
   ·split at h
    ·split at h
     ·exact ⟨h.1, OX_mono hq h.2⟩
     ·split at h
      ·exact OX_mono hq h
      ·exact h.elim
    ·split at h
     ·exact OX_mono hq h
     ·exact h.elim
  rw [OX] at h ⊢
  split at h
  ·exact one h
  ·rename_i j w hg
   refine ⟨h.1, ?_⟩
   have h2 := h.2
   split at h2
   ·rename_i b hb
    exact ⟨fun hh => one (h2.1 hh), fun hh => OX_mono hq (h2.2 hh)⟩
   ·exact OX_mono hq h2
   ·exact h2.elim
end
end Go.Proofs.YtonpnjfclelpiaaGreatM
