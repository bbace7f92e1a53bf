import Derived.Test.YtonpnjfclelpiaaGreatVDMv9
namespace Go.Proofs.YtonpnjfclelpiaaGreatM
open Go
set_option linter.unusedVariables false
set_option linter.unusedSimpArgs false
structure Frm (h0 : Hp) (ow0 : Nat → Ow) (h : Hp) (ow : Nat → Ow) : Prop where
 nx : h0.next ≤ h.next
 nr : ∀ n, n < h0.next → h0.blk n = none → h.blk n = none
 fz : ∀ n, n < h0.next → ow0 n = .fz → ow n = .fz ∧ h.blk n = h0.blk n
 no : ∀ n, n < h0.next → ow0 n = .no → ow n = .no ∧ h.blk n = h0.blk n
structure SmW (h0 : Hp) (ow0 : Nat → Ow) (G : Nat → Value) (st : St) (s : S) (ow : Nat → Ow) : Prop where
 core : Core (vl s G) s.h ow s.h.next st
 frm : Frm h0 ow0 s.h ow
 top : ∀ n, s.h.next ≤ n → s.h.blk n = none
def Sm (h0 : Hp) (ow0 : Nat → Ow) (G : Nat → Value) (st : St) (s : S) : Prop := ∃ ow, SmW h0 ow0 G st s ow
structure Fresh (h0 : Hp) (base i k : Nat) (s : S) : Prop where
 lo : h0.next ≤ base
 hi : base + i + k ≤ s.h.next
 bl : ∀ j, i ≤ j → j < i + k → s.h.blk (base + j) = none
theorem Fresh.step {h0 : Hp} {base i k : Nat} {s s' : S} (f : Fresh h0 base i (k + 1) s) (hn : s.h.next ≤ s'.h.next) (hb : ∀ n, n ≠ base + i → s.h.blk n = none → n < s.h.next → s'.h.blk n = none) : Fresh h0 base (i + 1) k s' :=
 ⟨f.lo, by have := f.hi; omega, fun j hj hk => hb _ (by omega) (f.bl j (by omega) (by omega)) (by have := f.hi; omega)⟩
section
variable {Γ : TypeId → Option TI} {E : TypeId → Nat} {C : Rel} {D : DrawR} {h0 : Hp} {ow0 : Nat → Ow} {G : Nat → Value} {Q : Ex → S → Prop} {k : List Fr} {s : S} {base i : Nat} {l : List POp} {d : Option Nat} {st st' : St}
def OG (Γ : TypeId → Option TI) (E : TypeId → Nat) (C : Rel) (h0 : Hp) (ow0 : Nat → Ow) (G : Nat → Value) (base i : Nat) (l : List POp) (st : St) (Q : S → Prop) : Prop := ∀ s, Sm h0 ow0 G st s → Fresh h0 base i l.length s → OpsP Γ E C base i l s Q
theorem vl_put {s : S} {G : Nat → Value} {r : Nat} {v : Value} (hr : r < LB) : vl (s.put (some r) v) G r = v := by
 unfold vl; rw [if_pos hr]; unfold S.put upd; simp
theorem vl_put_ne {s : S} {G : Nat → Value} {r : Nat} {v : Value} : ∀ q, q ≠ r → vl (s.put (some r) v) G q = vl s G q := by
 intro q hq
 unfold vl S.put upd
 simp [hq]
theorem vl_hp {s : S} {G : Nat → Value} {h : Hp} : vl (s.hp h) G = vl s G := rfl
theorem frm_drop {h : Hp} {ow : Nat → Ow} {a : Pt → Bool} (f : Frm h0 ow0 h ow) : Frm h0 ow0 h (dropO a ow) := ⟨f.nx, f.nr, fun n h1 h2 => ⟨dropO_fz.2 (f.fz n h1 h2).1, (f.fz n h1 h2).2⟩, fun n h1 h2 => ⟨by unfold dropO; rw [(f.no n h1 h2).1], (f.no n h1 h2).2⟩⟩
theorem Sm.put {ow : Nat → Ow} (m : SmW h0 ow0 G st s ow) {r : Nat} (hr : r < LB) {d : DV} {p : Pt} {v : Value} (hn : noOwn d = true) (hd : VRc s.h ow s.h.next p d v) : Sm h0 ow0 G (put r d st) (s.put (some r) v) := by
 refine ⟨dropO (atR r) ow, ?_, ?_, ?_⟩
 ·have := m.core.put (val' := vl (s.put (some r) v) G) (r := r) (by unfold LB at *; omega) vl_put_ne (p := p) hn (by rw [vl_put hr]; exact hd)
  rw [put_h]; exact this
 ·rw [put_h]; exact frm_drop m.frm
 ·rw [put_h]; exact m.top
def pure2 (Γ : TypeId → Option TI) (E : TypeId → Nat) (st : St) : Op → Option DV
 | .pick c a b => pk (ev2 st c) (ev2 st a) (ev2 st b)
 | .nilCheck x => nil2 (ev2 st x)
 | .binOp op t x y _ => bin2 Γ E op t (ev2 st x) (ev2 st y)
 | .unOp op _ x => (sv (ev2 st x)).bind fun x => (unV op x).map ofV
 | .convert s d x => cv2 Γ s d (ev2 st x)
 | .fieldAddr s x f => fa2 Γ s f (ev2 st x)
 | .field s x f => fd2 Γ s f (ev2 st x)
 | .indexAddr t x j => ia2 Γ t (ev2 st x) (ev2 st j)
 | .index t x j => ix2 Γ t (ev2 st x) (ev2 st j)
 | .load t a => ld2 Γ st t (ev2 st a)
 | .call { callee := .builtin .len, args, argTypes } => match args.toList, argTypes.toList with
  | [x], [t] => len2 Γ t (ev2 st x)
  | _, _ => none
 | .call { callee := .builtin .min, args, .. } => match args.toList with
  | [x, y] => mm2 true (ev2 st x) (ev2 st y)
  | _ => none
 | .call { callee := .builtin .max, args, .. } => match args.toList with
  | [x, y] => mm2 false (ev2 st x) (ev2 st y)
  | _ => none
 | _ => none
theorem opV_pure {ρ : Operand → Value} {nm : Nat} {o : Op} {h : Hp} {v : Value} (hp : pureV Γ E ρ o = some v) : opV Γ E nm ρ o h = some (v, h) := by
 unfold opV; rw [hp]
theorem ex_opV {ρ : Operand → Value} {nm : Nat} {o : Op} {h : Hp} {P : Value → Prop} (hp : ∃ v, pureV Γ E ρ o = some v ∧ P v) : ∃ v, opV Γ E nm ρ o h = some (v, h) ∧ P v := by
 obtain ⟨v, h1, h2⟩ := hp
 exact ⟨v, opV_pure h1, h2⟩
theorem pure2_ok {ow : Nat → Ow} (m : SmW h0 ow0 G st s ow) {op : Op} {e : DV} (hp : pure2 Γ E st op = some e) (nm : Nat) (p : Pt) : calleeV s op = none ∧ ∃ v, opV Γ E nm s.ev op s.h = some (v, s.h) ∧ VRc s.h ow s.h.next p e v ∧ noOwn e = true := by
 have hev := fun x => (ev2_ok m.core x p)
 unfold pure2 at hp
 split at hp
 ·rename_i c a b
  refine ⟨rfl, ex_opV ?_⟩
  unfold pk at hp
  split at hp
  ·rename_i t hc
   injection hp with hp; subst hp
   have h1 := sv_ok (x := .bool t) (by rw [hc]; rfl) (hev c).1
   refine ⟨if t = true then s.ev a else s.ev b, by simp only [pureV, h1], ?_⟩
   cases t <;> simp only [Bool.false_eq_true, if_true, if_false]
   ·exact hev b
   ·exact hev a
  ·cases hp
 ·exact ⟨rfl, ex_opV (nil2_ok hp rfl (hev _).1)⟩
 ·rename_i op t x y _
  refine ⟨rfl, ex_opV ?_⟩
  obtain ⟨v, h1, h2⟩ := bin2_ok hp (hev x).1 (hev y).1
  exact ⟨v, by simp only [pureV]; exact h1, h2⟩
 ·rename_i op t x
  refine ⟨rfl, ex_opV ?_⟩
  obtain ⟨u, h1, h2⟩ := Option.bind_eq_some_iff.1 hp
  obtain ⟨v, h3, rfl⟩ := Option.map_eq_some_iff.1 h2
  have h4 := sv_ok h1 (hev x).1
  exact ⟨v, by simp only [pureV, h4]; exact h3, ofV_ok p v, ofV_noOwn v⟩
 ·exact ⟨rfl, ex_opV (cv2_ok hp rfl (hev _).1)⟩
 ·exact ⟨rfl, ex_opV (fa2_ok hp rfl (hev _).1)⟩
 ·exact ⟨rfl, ex_opV (fd2_ok (hev _).2 hp rfl (hev _).1)⟩
 ·exact ⟨rfl, ex_opV (ia2_ok hp rfl rfl (hev _).1 (hev _).1)⟩
 ·exact ⟨rfl, ex_opV (ix2_ok hp rfl rfl (hev _).1 (hev _).1)⟩
 ·rename_i t a
  refine ⟨rfl, ?_⟩
  obtain ⟨v, h1, h2⟩ := ld2_ok (p := p) m.core hp (hev a).1
  refine ⟨v, ?_, h2⟩
  unfold opV
  simp only [pureV, h1]; rfl
 ·rename_i args argTypes
  split at hp
  ·rename_i x t h1 h2
   obtain ⟨rfl⟩ : args = #[x] := by rw [← Array.toArray_toList (xs := args), h1]
   obtain ⟨rfl⟩ : argTypes = #[t] := by rw [← Array.toArray_toList (xs := argTypes), h2]
   refine ⟨rfl, ex_opV ?_⟩
   obtain ⟨v, h3, h4⟩ := len2_ok hp (hev x).1
   refine ⟨v, ?_, h4⟩
   rw [← h3]
   simp only [pureV, isStr]
   simp only [List.getElem?_toArray, List.getElem?_cons_zero]
   cases hg : Γ t with
   | none => simp only [lenO]
   | some ti =>
    obtain ⟨sh, a, b, c⟩ := ti
    cases sh <;> cases s.ev x <;> rfl
  ·cases hp
 ·rename_i args ts
  split at hp
  ·rename_i x y h1
   obtain ⟨rfl⟩ : args = #[x, y] := by rw [← Array.toArray_toList (xs := args), h1]
   refine ⟨rfl, ex_opV ?_⟩
   obtain ⟨v, h3, h4⟩ := mm2_ok hp (hev x).1 (hev y).1
   refine ⟨v, ?_, h4⟩
   rw [← h3]
   show (match s.ev x, s.ev y with
    | .int kk a, .int _ b => some (Value.int kk (if b < a then b else a))
    | _, _ => none) = _
   cases s.ev x <;> cases s.ev y <;> rfl
  ·cases hp
 ·rename_i args ts
  split at hp
  ·rename_i x y h1
   obtain ⟨rfl⟩ : args = #[x, y] := by rw [← Array.toArray_toList (xs := args), h1]
   refine ⟨rfl, ex_opV ?_⟩
   obtain ⟨v, h3, h4⟩ := mm2_ok hp (hev x).1 (hev y).1
   refine ⟨v, ?_, h4⟩
   rw [← h3]
   show (match s.ev x, s.ev y with
    | .int kk a, .int _ b => some (Value.int kk (if b > a then b else a))
    | _, _ => none) = _
   cases s.ev x <;> cases s.ev y <;> rfl
  ·cases hp
 ·cases hp
theorem og_of {Q : S → Prop} {r : Nat} {op : Op} (hs : ∀ s ow, SmW h0 ow0 G st s ow → Fresh h0 base i (l.length + 1) s → calleeV s op = none ∧ ∃ v h', opV Γ E (base + i) s.ev op s.h = some (v, h') ∧ h'.next = s.h.next ∧ (∀ n, n ≠ base + i → s.h.blk n = none → h'.blk n = none) ∧ Sm h0 ow0 G st' ((s.hp h').put (some r) v))
  (hn : OG Γ E C h0 ow0 G base (i + 1) l st' Q) : OG Γ E C h0 ow0 G base i (⟨some r, none, op⟩ :: l) st Q := by
 intro s ⟨ow, m⟩ hf
 obtain ⟨h1, v, h', h2, h3, h4, h5⟩ := hs s ow m hf
 unfold OpsP
 simp only [gdV, h1, h2]
 exact hn _ h5 (hf.step (by rw [put_h]; exact Nat.le_of_eq h3.symm) (fun n hne hb _ => by rw [put_h]; exact h4 n hne hb))
theorem og_pure {Q : S → Prop} {r : Nat} {op : Op} {e : DV} (hr : r < LB) (hp : pure2 Γ E st op = some e) (hn : OG Γ E C h0 ow0 G base (i + 1) l (put r e st) Q) : OG Γ E C h0 ow0 G base i (⟨some r, none, op⟩ :: l) st Q := by
 refine og_of (fun s ow m hf => ?_) hn
 obtain ⟨h1, v, h2, h3, h4⟩ := pure2_ok m hp (base + i) (r, [])
 exact ⟨h1, v, s.h, h2, rfl, fun n _ hb => hb, Sm.put m hr h4 h3⟩
end
end Go.Proofs.YtonpnjfclelpiaaGreatM
