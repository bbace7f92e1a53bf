import Derived.Test.YtonpnjfclelpiaaGreatVDMva
namespace Go.Proofs.YtonpnjfclelpiaaGreatM
open Go
set_option linter.unusedVariables false
set_option linter.unusedSimpArgs false
def okS : DV → Bool
 | .fv (.fn _ _ _) => false
 | .fv _ => true
 | .hdr _ _ _ => true
 | .ptr _ _ _ => true
 | .agg _ => true
 | _ => false
section
variable {h h' : Hp} {ow ow' : Nat → Ow} {B B' : Nat} {st st' : St} {p : Pt}
theorem var_ok {d : DV} {v : Value} (ho : okS d = true) (e : VRc h ow B p d v) : ∃ cs, DR h ow B true p d cs ∧ isVar v = true ∧ v.cells.toList = cs := by
 rcases e with ⟨k, rfl⟩ | ⟨cs, h1, rfl⟩
 ·cases ho
 ·refine ⟨cs, h1, ?_⟩
  cases d with
  | fv u =>
   unfold DR at h1
   cases u with
   | agg l => exact ⟨rfl, by simp [isAgg, isAggF, mkv, Value.cells]⟩
   | fn _ _ _ => cases ho
   | int _ _ => unfold FR at h1; subst h1; exact ⟨rfl, rfl⟩
   | bool _ => unfold FR at h1; subst h1; exact ⟨rfl, rfl⟩
   | str _ => unfold FR at h1; subst h1; exact ⟨rfl, rfl⟩
   | nil => unfold FR at h1; subst h1; exact ⟨rfl, rfl⟩
   | nilp => unfold FR at h1; subst h1; exact ⟨rfl, rfl⟩
   | row _ _ => unfold FR at h1; rcases h1 with ⟨_, rfl⟩ | ⟨n, o, c, css, rfl, _⟩ <;> exact ⟨rfl, rfl⟩
   | fp _ => unfold FR at h1; obtain ⟨n, o, c, rfl, _⟩ := h1; exact ⟨rfl, rfl⟩
  | hdr _ _ _ => unfold DR at h1; obtain ⟨_, n, _, _, rfl⟩ := h1; exact ⟨rfl, rfl⟩
  | ptr _ _ _ => unfold DR at h1; obtain ⟨_, n, _, _, _, _, rfl⟩ := h1; exact ⟨rfl, rfl⟩
  | agg l => exact ⟨rfl, by simp [isAgg, mkv, Value.cells]⟩
  | _ => cases ho
theorem okS_kl {a : Pt → Bool} {d : DV} (ho : okS (kl a d) = true) : okS d = true := by
 cases d with
 | hdr _ _ _ => rfl
 | ptr _ _ _ => rfl
 | _ => unfold kl at ho; exact ho
mutual
def flatF : FV → Option (List Value)
 | .int k n => some [.int k n]
 | .bool b => some [.bool b]
 | .str s => some [.string s]
 | .nil => some [.slice none 0 0]
 | .nilp => some [.pointer none]
 | .agg l => flatFs l
 | _ => none
def flatFs : List FV → Option (List Value)
 | [] => some []
 | d :: l => (flatF d).bind fun c => (flatFs l).map fun r => c ++ r
end
mutual
theorem flat_ok : ∀ {v : FV} {cs : List Value}, flatF v = some cs → FR h ow B v cs
 | .int k n, cs, e => by unfold flatF at e; injection e with e; subst e; unfold FR; rfl
 | .bool b, cs, e => by unfold flatF at e; injection e with e; subst e; unfold FR; rfl
 | .str s, cs, e => by unfold flatF at e; injection e with e; subst e; unfold FR; rfl
 | .nil, cs, e => by unfold flatF at e; injection e with e; subst e; unfold FR; rfl
 | .nilp, cs, e => by unfold flatF at e; injection e with e; subst e; unfold FR; rfl
 | .agg l, cs, e => by
  unfold flatF at e
  obtain ⟨css, h1, h2⟩ := flats_ok e
  unfold FR; exact ⟨css, h1, h2⟩
 | .row _ _, cs, e => by unfold flatF at e; cases e
 | .fp _, cs, e => by unfold flatF at e; cases e
 | .fn _ _ _, cs, e => by unfold flatF at e; cases e
theorem flats_ok : ∀ {l : List FV} {cs : List Value}, flatFs l = some cs → ∃ css, cs = css.flatten ∧ FRs h ow B l css
 | [], cs, e => by unfold flatFs at e; injection e with e; subst e; exact ⟨[], rfl, by unfold FRs; rfl⟩
 | d :: l, cs, e => by
  unfold flatFs at e
  obtain ⟨c, h1, h2⟩ := Option.bind_eq_some_iff.1 e
  obtain ⟨r, h3, rfl⟩ := Option.map_eq_some_iff.1 h2
  obtain ⟨css, rfl, h4⟩ := flats_ok h3
  exact ⟨c :: css, rfl, by unfold FRs; exact ⟨c, css, rfl, flat_ok h1, h4⟩⟩
end
def optL {α : Type} : List (Option α) → Option (List α)
 | [] => some []
 | a :: l => a.bind fun x => (optL l).map fun r => x :: r
def zF (Γ : TypeId → Option TI) : Nat → TypeId → Option FV
 | 0, _ => none
 | g + 1, t => match Γ t with
  | some ⟨.int k, _, _, _⟩ => some (.int k 0)
  | some ⟨.bool, _, _, _⟩ => some (.bool false)
  | some ⟨.str, _, _, _⟩ => some (.str .empty)
  | some ⟨.slice _, _, _, _⟩ => some .nil
  | some ⟨.ptr, _, _, _⟩ => some .nilp
  | some ⟨.struct fs, _, _, _⟩ => (optL (fs.map fun p => zF Γ g p.2)).map .agg
  | _ => none
def eqZ1 : Value → Value → Bool
 | .int k n, .int k' m => decide (k = k') && decide (n = m)
 | .bool a, .bool b => a == b
 | .string a, .string b => a.size == 0 && b.size == 0
 | .slice none 0 0, .slice none 0 0 => true
 | .pointer none, .pointer none => true
 | _, _ => false
def eqZ : List Value → List Value → Bool
 | [], [] => true
 | a :: l, b :: m => eqZ1 a b && eqZ l m
 | _, _ => false
theorem eqZ1_ok {a b : Value} (h : eqZ1 a b = true) : a = b := by
 unfold eqZ1 at h
 split at h
 ·rw [Bool.and_eq_true, decide_eq_true_eq, decide_eq_true_eq] at h; rw [h.1, h.2]
 ·rw [beq_iff_eq] at h; rw [h]
 ·rw [Bool.and_eq_true, beq_iff_eq, beq_iff_eq] at h
  rename_i a b
  have e : ∀ x : ByteArray, x.size = 0 → x = ByteArray.empty := fun x hx => by
   obtain ⟨⟨l⟩⟩ := x
   have : l.length = 0 := hx
   have := List.eq_nil_of_length_eq_zero this
   subst this; rfl
  rw [e a h.1, e b h.2]
 ·rfl
 ·rfl
 ·cases h
theorem eqZ_ok : ∀ {l m : List Value}, eqZ l m = true → l = m
 | [], [], _ => rfl
 | a :: l, b :: m, h => by
  unfold eqZ at h; rw [Bool.and_eq_true] at h
  rw [eqZ1_ok h.1, eqZ_ok h.2]
 | [], _ :: _, h => by cases h
 | _ :: _, [], h => by cases h
def zero2 (Γ : TypeId → Option TI) (t : TypeId) : Option FV := (Γ t).bind fun i => (zF Γ 6 t).bind fun z => (flatF z).bind fun cs => if cs.length = i.size ∧ i.size ≠ 0 ∧ eqZ i.zero cs = true then some z else none
theorem zero2_ok {Γ : TypeId → Option TI} {t : TypeId} {z : FV} (hz : zero2 Γ t = some z) : ∃ i, Γ t = some i ∧ i.zero.length = i.size ∧ i.size ≠ 0 ∧ ∀ (h : Hp) (ow : Nat → Ow) (B : Nat), FR h ow B z i.zero := by
 unfold zero2 at hz
 obtain ⟨i, h1, h2⟩ := Option.bind_eq_some_iff.1 hz
 obtain ⟨z', h3, h4⟩ := Option.bind_eq_some_iff.1 h2
 obtain ⟨cs, h5, h6⟩ := Option.bind_eq_some_iff.1 h4
 split at h6
 ·rename_i hc
  injection h6 with h6; subst h6
  have he := eqZ_ok hc.2.2
  exact ⟨i, h1, by rw [he]; exact hc.1, hc.2.1, fun h ow B => by rw [he]; exact flat_ok h5⟩
 ·cases h6
theorem drop_free {r n : Nat} {q : Pt} {z k : Nat} (hn : dropO (atR r) ow n = .of q z k) : q.1 ≠ r ∧ q.1 ≠ LB := atR_n (dropO_at.1 hn).2
theorem Frm.go {h0 : Hp} {ow0 : Nat → Ow} (f : Frm h0 ow0 h ow) (hn : h.next ≤ h'.next) (hk : ∀ n, n < h0.next → ((ow n = .fz → ow' n = .fz ∧ h'.blk n = h.blk n) ∧ (ow n = .no → ow' n = .no ∧ h'.blk n = h.blk n))) (hr : ∀ n, n < h0.next → h.blk n = none → h'.blk n = none) : Frm h0 ow0 h' ow' :=
 ⟨Nat.le_trans f.nx hn, fun n h1 h2 => hr n h1 (f.nr n h1 h2), fun n h1 h2 => by
  obtain ⟨q1, q2⟩ := f.fz n h1 h2
  obtain ⟨k1, k2⟩ := (hk n h1).1 q1
  exact ⟨k1, by rw [k2, q2]⟩, fun n h1 h2 => by
  obtain ⟨q1, q2⟩ := f.no n h1 h2
  obtain ⟨k1, k2⟩ := (hk n h1).2 q1
  exact ⟨k1, by rw [k2, q2]⟩⟩
theorem newO_fz {nm r z k n : Nat} (hn : n ≠ nm) (h : ow n = .fz) : newO nm r z k ow n = .fz := by unfold newO; rw [if_neg hn]; exact mvO_fz.2 h
theorem newO_no {nm r z k n : Nat} (hn : n ≠ nm) (h : ow n = .no) : newO nm r z k ow n = .no := by unfold newO; rw [if_neg hn]; exact mvO_no.2 h
theorem dropO_no {a : Pt → Bool} {n : Nat} (h : ow n = .no) : dropO a ow n = .no := by unfold dropO; rw [h]
end
section
variable {Γ : TypeId → Option TI} {E : TypeId → Nat} {C : Rel} {D : DrawR} {h0 : Hp} {ow0 : Nat → Ow} {G : Nat → Value} {s : S} {base i : Nat} {l : List POp} {st st' : St}
theorem vl_get {s : S} {h : Hp} {r : Nat} {v : Value} {st : St} (hg : get st r = none) : ∀ q d, get st q = some d → vl ((s.hp h).put (some r) v) G q = vl s G q := by
 intro q d hd
 have : q ≠ r := fun hh => by subst hh; rw [hg] at hd; cases hd
 rw [vl_put_ne q this, vl_hp]
theorem clr_none (r : Nat) (st : St) : get (clr r st) r = none := by
 unfold clr; rw [get_klS, get_rm, if_pos rfl]; rfl
theorem og_make {Q : S → Prop} {r : Nat} {op : Op} (hm : isM op = true) (hs : ∀ s ow, SmW h0 ow0 G st s ow → s.h.blk (base + i) = none → base + i < s.h.next → h0.next ≤ base → ∃ v b, makeV Γ (base + i) s.ev op = some (v, b) ∧ Sm h0 ow0 G st' ((s.hp (s.h.put (base + i) (some b))).put (some r) v))
  (hn : OG Γ E C h0 ow0 G base (i + 1) l st' Q) : OG Γ E C h0 ow0 G base i (⟨some r, none, op⟩ :: l) st Q := by
 refine og_of (fun s ow m hf => ?_) hn
 obtain ⟨v, b, h1, h2⟩ := hs s ow m (hf.bl i (Nat.le_refl _) (by omega)) (by have := hf.hi; omega) hf.lo
 have hp : pureV Γ E s.ev op = none := by unfold isM at hm; split at hm <;> first | rfl | cases hm
 refine ⟨(by unfold isM at hm; split at hm <;> first | rfl | cases hm), v, s.h.put (base + i) (some b), ?_, rfl, fun n hne hb => by rw [hput_blk_ne hne]; exact hb, h2⟩
 unfold opV
 rw [hp]
 unfold isM at hm
 split at hm <;> first | (simp only [h1]; done) | cases hm
def al2 (Γ : TypeId → Option TI) (st : St) (r : Nat) (e : TypeId) : Option St := (zero2 Γ e).map fun z => (r, .box (.fv z)) :: klS atL (clr r st)
theorem og_alloc {Q : S → Prop} {r : Nat} {e : TypeId} (hr : r < LB) (ha : al2 Γ st r e = some st') (hn : OG Γ E C h0 ow0 G base (i + 1) l st' Q) : OG Γ E C h0 ow0 G base i (⟨some r, none, .alloc e⟩ :: l) st Q := by
 refine og_make rfl (fun s ow m hb hlt hlo => ?_) hn
 obtain ⟨z, h1, rfl⟩ := Option.map_eq_some_iff.1 ha
 obtain ⟨ti, h2, h3, h4, h5⟩ := zero2_ok h1
 refine ⟨.pointer (some ⟨base + i, 0, none⟩), { cells := ti.zero, rw := true }, by simp only [makeV, h2]; rfl, ?_⟩
 have hL : r ≠ LB := by unfold LB at *; omega
 have C1 := m.core.clr (val' := vl s G) (r := r) (fun _ _ => rfl)
 refine ⟨newO (base + i) r 0 0 (dropO (atR r) ow), ?_, ?_, ?_⟩
 ·rw [put_h]
  exact C1.settleB (d := .fv z) (by unfold DR; exact h5 _ _ _) hb hlt hL (fun n p z k hh => (drop_free hh).1) (fun n z k hh => (drop_free hh).2 rfl) (vl_get (clr_none _ _)) (by rw [vl_put hr])
 ·rw [put_h]
  refine m.frm.go (Nat.le_refl _) (fun n hlt' => ?_) (fun n hlt' hh => ?_)
  ·have : n ≠ base + i := by omega
   exact ⟨fun hh => ⟨newO_fz this (dropO_fz.2 hh), hput_blk_ne this⟩, fun hh => ⟨newO_no this (dropO_no hh), hput_blk_ne this⟩⟩
  ·exact (hput_blk_ne (by omega)).trans hh
 ·rw [put_h]
  intro n hle
  refine (hput_blk_ne ?_).trans (m.top n hle)
  have : s.h.next ≤ n := hle
  omega
def take2 (r : Nat) (st : St) (d : DV) : Option (DV × St × (Pt → Bool)) := if okS (kl (atR r) d) = true then ab (fun _ => false) (clr r st) (kl (atR r) d) else none
def okSs (l : List DV) : Bool := l.all okS
def takeL (r : Nat) (st : St) (l : List DV) : Option (List DV × St × (Pt → Bool)) := if okSs (kls (atR r) l) = true then abL (fun _ => false) (clr r st) (kls (atR r) l) else none
structure Tk (val : Nat → Value) (h : Hp) (B : Nat) (ow ow' : Nat → Ow) (r : Nat) (T : List Nat → Prop) (st st' : St) (a' : Pt → Bool) : Prop where
 core : Core val h ow' B st'
 fz : ∀ n, ow n = .fz → ow' n = .fz
 no : ∀ n, ow n = .no → ow' n = .no
 pl : ∀ n p z k, ow' n = .of p z k → (p.1 = LB ∧ T p.2) ∨ (p.1 ≠ LB ∧ p.1 ≠ r)
 gone : get st' r = none
 kept : ∀ n q z k, a' q = false → q.1 ≠ r → q.1 ≠ LB → ow n = .of q z k → ow' n = .of q z k
 keys : ∀ q d, get st' q = some d → ∃ d0, get st q = some d0
theorem tk_of {ow ow' : Nat → Ow} {r : Nat} {T : List Nat → Prop} {a' : Pt → Bool} {val : Nat → Value} {h : Hp} {B : Nat} (k1 : AbOut val h (dropO (atR r) ow) (dropO (atR r) ow) ow' B T (clr r st) st' a') : Tk val h B ow ow' r T st st' a' where
 core := k1.core
 fz := fun n hh => (k1.ab.fz n).1 (dropO_fz.2 hh)
 no := fun n hh => (k1.ab.no n).1 (dropO_no hh)
 pl := fun n p z k hh => by
  rcases k1.new n p z k hh with ⟨x1, x2⟩ | x1
  ·exact .inl ⟨x1, x2⟩
  ·exact .inr ⟨(drop_free x1).2, (drop_free x1).1⟩
 gone := by
  cases hg : get st' r with
  | none => rfl
  | some d0 =>
   obtain ⟨d1, hd1⟩ := k1.keys r d0 hg
   rw [clr_none] at hd1; cases hd1
 kept := fun n q z k h1 h2 h3 h4 => k1.ab.kept n q z k h1 (dropO_at.2 ⟨h4, atR_f h2 h3⟩)
 keys := fun q d hd => by
  obtain ⟨d0, h1⟩ := k1.keys q d hd
  obtain ⟨_, d1, h2, _⟩ := clr_get h1
  exact ⟨d1, h2⟩
theorem DR.clr {h : Hp} {ow : Nat → Ow} {B r : Nat} {p : Pt} {x : DV} {cs : List Value} (hn : noOwn x = true) (e : DR h ow B true p x cs) : DR h (dropO (atR r) ow) B true p (Go.Proofs.YtonpnjfclelpiaaGreatM.kl (atR r) x) cs :=
 DR.free ⟨fun n hn => ⟨dropO_fz.2 hn, rfl⟩, fun n p z k ha hn => dropO_at.2 ⟨hn, ha⟩⟩ (Nat.le_refl _) hn e
theorem take_ok {ow : Nat → Ow} (m : SmW h0 ow0 G st s ow) {r : Nat} {x d : DV} {v : Value} {p : Pt} {π : List Nat} {a' : Pt → Bool} (hn : noOwn x = true) (hx : VRc s.h ow s.h.next p x v) (ht : take2 r st x = some (d, st', a')) :
  ∃ ow', Tk (vl s G) s.h s.h.next ow ow' r (fun w => ∃ v, w = π ++ v) st st' a' ∧ DR s.h ow' s.h.next false (LB, π) d v.cells.toList ∧ isVar v = true := by
 unfold take2 at ht
 split at ht
 ·rename_i hok
  obtain ⟨cs, g1, g2, g3⟩ := var_ok (okS_kl hok) hx
  have C1 := m.core.clr (val' := vl s G) (r := r) (fun _ _ => rfl)
  obtain ⟨ow', k1, k2⟩ := ab_ok C1 Ab.refl (π := π) (fun n p z k hh hb => (drop_free hh).2 hb.1.symm) (g1.clr (r := r) hn) ht
  exact ⟨ow', tk_of k1, by rw [g3]; exact k2, g2⟩
 ·cases ht
def VRl (h : Hp) (ow : Nat → Ow) (B : Nat) (p : Pt) : List DV → List Value → Prop
 | [], vs => vs = []
 | d :: l, vs => ∃ v r, vs = v :: r ∧ VRc h ow B p d v ∧ VRl h ow B p l r
theorem vars_ok {h : Hp} {ow : Nat → Ow} {B r : Nat} {p : Pt} : ∀ {l : List DV} {vs : List Value} {i : Nat}, okSs (kls (atR r) l) = true → noOwns l = true → VRl h ow B p l vs → DRs h (dropO (atR r) ow) B true p i (kls (atR r) l) (vs.map fun v => v.cells.toList) ∧ ∀ v ∈ vs, isVar v = true
 | [], vs, i, h1, h2, h3 => by
  unfold VRl at h3; subst h3
  exact ⟨by unfold kls DRs; rfl, fun v hv => by simp at hv⟩
 | d :: l, vs, i, h1, h2, h3 => by
  unfold VRl at h3
  obtain ⟨v, rr, rfl, g1, g2⟩ := h3
  unfold noOwns at h2; rw [Bool.and_eq_true] at h2
  have h1' : okS (kl (atR r) d) = true ∧ okSs (kls (atR r) l) = true := by
   unfold kls okSs at h1; rw [List.all_cons, Bool.and_eq_true] at h1; exact h1
  obtain ⟨cs, k1, k2, k3⟩ := var_ok (okS_kl h1'.1) g1
  obtain ⟨q1, q2⟩ := vars_ok (i := i + 1) h1'.2 h2.2 g2
  refine ⟨?_, fun x hx => ?_⟩
  ·rw [List.map_cons]; unfold kls DRs
   refine ⟨_, _, rfl, ?_, q1⟩
   rw [k3]
   exact DR.free ⟨fun n hn => ⟨dropO_fz.2 hn, rfl⟩, fun n p z k ha hn => dropO_at.2 ⟨hn, ha⟩⟩ (Nat.le_refl _) h2.1 k1
  ·rcases List.mem_cons.1 hx with rfl | hx
   ·exact k2
   ·exact q2 x hx
theorem takeL_ok {ow : Nat → Ow} (m : SmW h0 ow0 G st s ow) {r : Nat} {x d : List DV} {vs : List Value} {p : Pt} {a' : Pt → Bool} (hn : noOwns x = true) (hx : VRl s.h ow s.h.next p x vs) (ht : takeL r st x = some (d, st', a')) :
  ∃ ow', Tk (vl s G) s.h s.h.next ow ow' r (fun w => ∃ j v, w = j :: v) st st' a' ∧ DRs s.h ow' s.h.next false (LB, []) 0 d (vs.map fun v => v.cells.toList) ∧ ∀ v ∈ vs, isVar v = true := by
 unfold takeL at ht
 split at ht
 ·rename_i hok
  obtain ⟨g1, g2⟩ := vars_ok (i := 0) hok hn hx
  have C1 := m.core.clr (val' := vl s G) (r := r) (fun _ _ => rfl)
  obtain ⟨ow', k1, k2⟩ := abL_ok C1 Ab.refl (i := 0) (π := []) (fun n p z k hh j _ hb => (drop_free hh).2 hb.1.symm) g1 ht
  refine ⟨ow', ?_, k2, g2⟩
  have k3 := tk_of k1
  exact ⟨k3.core, k3.fz, k3.no, fun n p z k hh => (k3.pl n p z k hh).imp (fun ⟨x1, j, v, _, x3⟩ => ⟨x1, j, v, by rw [x3]; simp⟩) id, k3.gone, k3.kept, k3.keys⟩
 ·cases ht
theorem sm_new {ow ow' : Nat → Ow} (m : SmW h0 ow0 G st s ow) (hnx : h0.next ≤ base) (hlt : base + i < s.h.next) {b : Blk} {r z k : Nat} {v : Value} (hf : ∀ n, ow n = .fz → ow' n = .fz) (hno : ∀ n, ow n = .no → ow' n = .no) (hc : Core (vl ((s.hp (s.h.put (base + i) (some b))).put (some r) v) G) (s.h.put (base + i) (some b)) (newO (base + i) r z k ow') s.h.next st') :
  Sm h0 ow0 G st' ((s.hp (s.h.put (base + i) (some b))).put (some r) v) := by
 refine ⟨newO (base + i) r z k ow', ?_, ?_, ?_⟩
 ·rw [put_h]; exact hc
 ·rw [put_h]
  refine m.frm.go (Nat.le_refl _) (fun n hlt' => ?_) (fun n hlt' hh => ?_)
  ·have : n ≠ base + i := by omega
   exact ⟨fun hh => ⟨newO_fz this (hf n hh), hput_blk_ne this⟩, fun hh => ⟨newO_no this (hno n hh), hput_blk_ne this⟩⟩
  ·exact (hput_blk_ne (by omega)).trans hh
 ·rw [put_h]
  intro n hle
  refine (hput_blk_ne ?_).trans (m.top n hle)
  have : s.h.next ≤ n := hle
  omega
def bx2 (st : St) (r : Nat) (x : Operand) : Option St := (take2 r st (ev2 st x)).map fun q => (r, .box q.1) :: klS atL q.2.1
def rfh (r : Nat) (q : Pt) (z k : Nat) (st : St) : Option DV → St
 | some (.agg (.junk 1 :: l)) => setR q.1 (.agg (.hdr (r, [0, 0]) z k :: l)) st
 | _ => st
def rfd (r : Nat) (v : DV) (st : St) : St := match v with
 | .agg (.ptr q [0] 0 :: _) => if q.2 = [] ∧ GB ≤ q.1 then setR q.1 (.ptr (r, [0, 0]) [0] 0) st else st
 | .agg (.hdr q z k :: _) => if q.2 = [0] ∧ GB ≤ q.1 then rfh r q z k st (get st q.1) else st
 | _ => st
def bxR (st : St) (r : Nat) (x : Operand) : Option St := (bx2 st r x).map (rfd r (ev2 st x))
theorem core_set {val : Nat → Value} {h : Hp} {ow : Nat → Ow} {B : Nat} {st : St} {q : Nat} {d : DV} (C : Core val h ow B st) (hd : VR2 h ow B (q, []) d (val q)) : Core val h ow B (setR q d st) := by
 cases hq : get st q with
 | none =>
  have : ∀ st : St, get st q = none → setR q d st = st := by
   intro st
   induction st with
   | nil => intro _; rfl
   | cons a l ih =>
    obtain ⟨k, x⟩ := a
    intro hg
    unfold get at hg
    split at hg
    ·cases hg
    ·rename_i hk
     unfold setR; rw [if_neg (fun e => hk e.symm), ih hg]
  rw [this st hq]; exact C
 | some d0 =>
  refine ⟨fun r x hx => ?_, C.inj, C.nn, fun r x hx => ?_⟩
  ·rw [get_setR hq] at hx
   split at hx
   ·rename_i hr; injection hx with hx; subst hx; subst hr; exact hd
   ·exact C.regs r x hx
  ·rw [get_setR hq] at hx
   split at hx
   ·rename_i hr; subst hr; exact C.lim _ d0 hq
   ·exact C.lim r x hx
theorem og_boxR {Q : S → Prop} {r : Nat} {t : TypeId} {x : Operand} (hr : r < LB) (ha : bxR st r x = some st') (hn : OG Γ E C h0 ow0 G base (i + 1) l st' Q) : OG Γ E C h0 ow0 G base i (⟨some r, none, .box t x⟩ :: l) st Q := by
 refine og_make rfl (fun s ow m hb hlt hlo => ?_) hn
 obtain ⟨stb, ha2, rfl⟩ := Option.map_eq_some_iff.1 ha
 obtain ⟨⟨d, st1, a'⟩, h1, rfl⟩ := Option.map_eq_some_iff.1 ha2
 obtain ⟨g1, g2⟩ := ev2_ok m.core x (r, [])
 obtain ⟨ow', k1, k2, k3⟩ := take_ok m (π := [0]) g2 g1 h1
 refine ⟨.pointer (some ⟨base + i, 0, none⟩), { cells := (s.ev x).cells.toList, rw := true }, by simp only [makeV]; rw [if_pos k3], ?_⟩
 have hL : r ≠ LB := by unfold LB at *; omega
 have core := k1.core.settleB k2 hb hlt hL (fun n p z k hh => by
  rcases k1.pl n p z k hh with x | x
  ·intro hh; exact hL (hh.symm.trans x.1)
  ·exact x.2) (fun n z k hh => by
  rcases k1.pl n _ z k hh with ⟨_, v, hv⟩ | x
  ·simp at hv
  ·exact x.1 rfl) (vl_get (h := s.h.put (base + i) (some { cells := (s.ev x).cells.toList, rw := true })) (v := .pointer (some ⟨base + i, 0, none⟩)) k1.gone) (by rw [vl_put hr])
 refine sm_new (z := 0) (k := 0) m hlo hlt k1.fz k1.no ?_
 unfold rfd
 split
 ·rename_i q l hv
  split
  ·rename_i hq
   obtain ⟨hq2, hqG⟩ := hq
   have hqr : q.1 ≠ r := by unfold GB at hqG; unfold LB at hr; omega
   have hqL : q.1 ≠ LB := by unfold GB at hqG; unfold LB; omega
   obtain ⟨q1, q2⟩ := q
   simp only at hq2 hqG hqr hqL; subst hq2
   refine core_set core ?_
   -- what was taken
   rw [hv] at h1 g1
   unfold take2 at h1
   split at h1
   ·have hkq : Go.Proofs.YtonpnjfclelpiaaGreatM.kl (atR r) (.agg (.ptr (q1, []) [0] 0 :: l)) = .agg (.ptr (q1, []) [0] 0 :: kls (atR r) l) := by
     simp only [Go.Proofs.YtonpnjfclelpiaaGreatM.kl, kls]
     rw [if_neg (by rw [atR_f hqr hqL]; simp)]
    rw [hkq] at h1
    unfold ab at h1
    obtain ⟨⟨l', st2, a2⟩, h2, h3⟩ := Option.map_eq_some_iff.1 h1
    injection h3 with h3 _; subst h3
    unfold abL at h2
    obtain ⟨⟨d1, st3, a3⟩, h4, h5⟩ := Option.bind_eq_some_iff.1 h2
    obtain ⟨⟨l2, s2⟩, _, h6⟩ := Option.map_eq_some_iff.1 h5
    injection h6 with h6 _; subst h6
    unfold ab at h4
    split at h4
    ·cases h4
    ·obtain ⟨nd, hnd, h7⟩ := Option.bind_eq_some_iff.1 h4
     split at h7
     ·rename_i hbx
      obtain ⟨st4, _, h8⟩ := Option.map_eq_some_iff.1 h7
      injection h8 with h8 _; subst h8
      obtain ⟨dq, n1, _, n3, n4⟩ := node_at hnd
      simp only [atD, Option.some.injEq] at n3; subst n3
      simp only [Bool.and_eq_true] at hbx
      cases dq with
      | box dd =>
       obtain ⟨_, d0, e1, e2⟩ := clr_get n1
       have hd0 : d0 = .box dd := by
        cases d0 <;> (unfold Go.Proofs.YtonpnjfclelpiaaGreatM.kl at e2; first | exact e2.symm | (split at e2 <;> cases e2) | cases e2)
       subst hd0
       rcases m.core.regs q1 _ e1 with ⟨_, _, hh, _⟩ | ⟨_, hh⟩ | ⟨cs2, f1, f2⟩
       ·cases hh
       ·cases hh
       ·obtain ⟨n2, c2, rfl, f4, f5, _⟩ := box_blk f1
        rcases g1 with ⟨_, hh⟩ | ⟨cs1, p1, p2⟩
        ·cases hh
        ·unfold DR at p1 k2
         obtain ⟨css1, rfl, p3⟩ := p1
         obtain ⟨css, hcs, p4⟩ := k2
         unfold DRs at p3 p4
         obtain ⟨c1, r1, rfl, p5, _⟩ := p3
         obtain ⟨c0, r0, rfl, p6, _⟩ := p4
         unfold DR at p5
         obtain ⟨_, m1, z1, k1', _, o1, rfl⟩ := p5
         obtain ⟨m0, cc, rfl, o2, o3, o4, _⟩ := box_blk p6
         have hm : m1 = n2 := m.core.inj _ _ _ _ _ _ _ o1 f5
         subst hm
         have hcell : (s.ev x).cells.toList = ([Value.pointer (some ⟨m1, 0, none⟩)] :: r1).flatten := by rw [p2]; simp [mkv, isAgg, Value.cells]
         rw [hcs] at hcell
         simp only [List.flatten_cons, List.singleton_append, List.cons.injEq] at hcell
         have hm0 : m0 = m1 := by
          have := hcell.1
          injection this with this; injection this with this; injection this
         subst hm0
         refine .inr (.inr ⟨[.pointer (some ⟨m0, 0, none⟩)], ?_, ?_⟩)
         ·unfold DR
          refine ⟨rfl, m0, 0, 0, o2, ?_, rfl⟩
          have hne : m0 ≠ base + i := fun e => by
           subst e
           have := hb
           rw [o4] at this; cases this
          unfold newO; rw [if_neg hne]
          have := mvO_in (T := (r, [])) (q := (LB, [])) (w := [0, 0]) (ow := ow') (n := m0) (z := 0) (k := 0) (by simpa using o3)
          simpa using this
         ·rw [vl_put_ne q1 hqr]; exact f2
      | _ => cases n4 <;> cases hbx.1
     ·cases h7
   ·cases h1
  ·exact core
 ·rename_i q z k l hv
  split
  ·rename_i hq
   obtain ⟨hq2, hqG⟩ := hq
   have hqr : q.1 ≠ r := by unfold GB at hqG; unfold LB at hr; omega
   have hqL : q.1 ≠ LB := by unfold GB at hqG; unfold LB; omega
   obtain ⟨q1, q2⟩ := q
   simp only at hq2 hqG hqr hqL; subst hq2
   unfold rfh
   split
   ·rename_i l3 hget
    refine core_set core ?_
    have hnow := core.regs q1 _ hget
    rw [vl_put_ne q1 hqr] at hnow ⊢
    rw [hv] at h1 g1
    unfold take2 at h1
    split at h1
    ·have hkq : Go.Proofs.YtonpnjfclelpiaaGreatM.kl (atR r) (.agg (.hdr (q1, [0]) z k :: l)) = .agg (.hdr (q1, [0]) z k :: kls (atR r) l) := by
      simp only [Go.Proofs.YtonpnjfclelpiaaGreatM.kl, kls]
      rw [if_neg (by rw [atR_f hqr hqL]; simp)]
     rw [hkq] at h1
     unfold ab at h1
     obtain ⟨⟨l', st2, a2⟩, h2, h3⟩ := Option.map_eq_some_iff.1 h1
     injection h3 with h3 _; subst h3
     unfold abL at h2
     obtain ⟨⟨d1, st3, a3⟩, h4, h5⟩ := Option.bind_eq_some_iff.1 h2
     obtain ⟨⟨l2, s2⟩, _, h6⟩ := Option.map_eq_some_iff.1 h5
     injection h6 with h6 _; subst h6
     unfold ab at h4
     split at h4
     ·cases h4
     ·obtain ⟨nd, hnd, h7⟩ := Option.bind_eq_some_iff.1 h4
      split at h7
      ·cases h7
      ·rename_i hbx
       obtain ⟨st4, _, h8⟩ := Option.map_eq_some_iff.1 h7
       injection h8 with h8 _; subst h8
       have C1 := m.core.clr (val' := vl s G) (r := r) (fun _ _ => rfl)
       obtain ⟨dq, n1, _, n3, n4⟩ := node_at hnd
       cases nd with
       | own z0 l0 =>
        rcases hnow with ⟨_, _, hh, _⟩ | ⟨_, hh⟩ | ⟨csn, w1, w2⟩
        ·cases hh
        ·cases hh
        ·rcases C1.regs q1 _ n1 with ⟨_, _, rfl, _⟩ | ⟨_, rfl⟩ | ⟨cs2, f1, f2⟩
         ·simp [atD] at n3
         ·simp [atD] at n3
         ·have hag : isAgg dq = true := by
           cases hh : isAgg dq with
           | true => rfl
           | false =>
            exfalso
            have hv2 : mkv true csn = mkv false cs2 := by rw [hh] at f2; rw [← f2]; exact w2.symm
            cases dq with
            | own z9 l9 => obtain ⟨_, _, rfl, _⟩ := own_blk f1; cases hv2
            | box d9 => obtain ⟨_, _, rfl, _⟩ := box_blk f1; cases hv2
            | agg _ => cases hh
            | fv u => cases u <;> first | (simp [atD] at n3; done) | cases hh
            | _ => simp [atD] at n3
          cases dq with
          | agg ld =>
           rw [hag] at f2
           have hcs2 : csn = cs2 := by
            have : Value.agg csn.toArray = Value.agg cs2.toArray := by rw [← show vl s G q1 = Value.agg cs2.toArray from f2]; exact w2.symm
            injection this with this
            have := congrArg Array.toList this
            simpa using this
           subst hcs2
           cases ld with
           | nil => simp [atD] at n3
           | cons x0 ld =>
            have hx0 : x0 = .own z0 l0 := by simpa [atD] using n3
            subst hx0
            unfold DR at f1 w1
            obtain ⟨cssa, hca, fa⟩ := f1
            obtain ⟨cssb, hcb, fb⟩ := w1
            unfold DRs at fa fb
            obtain ⟨ca, ra, rfl, pa, _⟩ := fa
            obtain ⟨cb, rb, rfl, pb, pbr⟩ := fb
            obtain ⟨na, _, rfl, _, _, oa, _⟩ := own_blk pa
            have oa' := (dropO_at.1 oa).1
            unfold DR at pb
            have hcb1 : cb = [.slice (some ⟨na, 0, none⟩) l0.length (U z0)] := by
             rw [hca] at hcb
             simp only [List.flatten_cons, List.singleton_append] at hcb
             cases cb with
             | nil => simp at pb
             | cons y cb =>
              cases cb with
              | nil => simp only [List.singleton_append, List.cons.injEq] at hcb; rw [← hcb.1]
              | cons _ _ => simp at pb
            rcases g1 with ⟨_, hh⟩ | ⟨cs1, p1, p2⟩
            ·cases hh
            ·unfold DR at p1 k2
             obtain ⟨css1, rfl, p3⟩ := p1
             obtain ⟨css, hcs, p4⟩ := k2
             unfold DRs at p3 p4
             obtain ⟨c1, r1, rfl, p5, _⟩ := p3
             obtain ⟨c0, r0, rfl, p6, _⟩ := p4
             unfold DR at p5
             obtain ⟨_, m1, _, o1, rfl⟩ := p5
             obtain ⟨m0, _, rfl, _, o2, o3, o4, _⟩ := own_blk p6
             have hm : m1 = na := m.core.inj _ _ _ _ _ _ _ o1 (by simpa using oa')
             subst hm
             have hzz : z = z0 ∧ k = l0.length := by
              have e9 := o1.symm.trans (by simpa using oa')
              injection e9 with _ e9 e8
              exact ⟨e9, e8⟩
             obtain ⟨rfl, rfl⟩ := hzz
             have hcell : (s.ev x).cells.toList = ([Value.slice (some ⟨m1, 0, none⟩) l0.length (U z)] :: r1).flatten := by rw [p2]; simp [mkv, isAgg, Value.cells]
             rw [hcs] at hcell
             simp only [List.flatten_cons, List.singleton_append, List.cons.injEq] at hcell
             have hm0 : m0 = m1 := by
              have := hcell.1
              injection this with this; injection this with this; injection this
             subst hm0
             refine .inr (.inr ⟨csn, ?_, w2⟩)
             unfold DR
             refine ⟨cb :: rb, hcb, ?_⟩
             unfold DRs
             refine ⟨cb, rb, rfl, ?_, pbr⟩
             rw [hcb1]
             unfold DR
             refine ⟨rfl, m0, o2, ?_, rfl⟩
             have hne : m0 ≠ base + i := fun e => by
              subst e
              have := hb
              rw [o4] at this; cases this
             unfold newO; rw [if_neg hne]
             have := mvO_in (T := (r, [])) (q := (LB, [])) (w := [0, 0]) (ow := ow') (n := m0) (z := z) (k := l0.length) (by simpa using o3)
             simpa using this
          | fv u =>
           exfalso
           cases u with
           | agg lf =>
            simp only [atD] at n3
            obtain ⟨_, _, n5⟩ := Option.bind_eq_some_iff.1 n3
            injection n5 with n5; cases n5
           | _ => cases hag
          | _ => cases hag
       | box _ => exact absurd rfl hbx
       | _ => cases n4
    ·cases h1
   ·exact core
  ·exact core
 ·exact core
def es1 (Γ : TypeId → Option TI) (t : TypeId) : Option Nat := match Γ t with
 | some ⟨.slice e, _, _, _⟩ => (Γ e).bind fun i => if i.zero.length = i.size ∧ i.size ≠ 0 ∧ i.bytes ≤ 65536 ∧ i.bytes ≠ 0 then some i.size else none
 | _ => none
theorem es1_ok {t : TypeId} {z : Nat} (h : es1 Γ t = some z) : ∃ e a b c ie, Γ t = some ⟨.slice e, a, b, c⟩ ∧ Γ e = some ie ∧ ie.size = z ∧ ie.zero.length = ie.size ∧ ie.size ≠ 0 ∧ ie.bytes ≤ 65536 ∧ ie.bytes ≠ 0 := by
 unfold es1 at h
 split at h
 ·rename_i e _ _ _ hg
  obtain ⟨ie, h1, h2⟩ := Option.bind_eq_some_iff.1 h
  split at h2
  ·rename_i hc
   injection h2 with h2
   exact ⟨e, _, _, _, ie, hg, h1, h2, hc⟩
  ·cases h2
 ·cases h
theorem fill_all {z : Nat} {zero : List Value} (hz : zero.length = z) : ∀ (vs : List Value) (k : Nat) (pre : List Value), pre.length = k * z → (∀ v ∈ vs, isVar v = true ∧ v.cells.toList.length = z) →
  fillL (fun j => some (j * z, z)) (pre ++ repZ zero vs.length) ((List.range' k vs.length).zip vs) = some (pre ++ (vs.map fun v => v.cells.toList).flatten)
 | [], k, pre, _, _ => by simp [fillL, repZ]
 | v :: vs, k, pre, hp, hv => by
  obtain ⟨h1, h2⟩ := hv v (by simp)
  have hsz : v.cells.size = z := by rw [← Array.length_toList]; exact h2
  have hlen : (pre ++ repZ zero (v :: vs).length).length = pre.length + (z + (repZ zero vs.length).length) := by
   simp [repZ, hz]
  rw [List.length_cons, List.range'_succ, List.zip_cons_cons]
  unfold fillL
  simp only
  rw [if_pos ⟨h1, hsz, by rw [List.length_cons] at hlen; rw [hlen, hsz, hp]; omega⟩]
  have e : splice (pre ++ repZ zero (vs.length + 1)) (k * z) v.cells.toList = (pre ++ v.cells.toList) ++ repZ zero vs.length := by
   unfold splice
   rw [← hp, List.take_left, h2, ← List.drop_drop, List.drop_left]
   simp only [repZ]
   rw [← hz, List.drop_left]
  rw [e, fill_all hz vs (k + 1) (pre ++ v.cells.toList) (by rw [List.length_append, hp, h2, Nat.add_mul, Nat.one_mul]) (fun x hx => hv x (by simp [hx]))]
  simp
theorem evs_ok {ow : Nat → Ow} (m : SmW h0 ow0 G st s ow) (p : Pt) : ∀ xs : List Operand, VRl s.h ow s.h.next p (xs.map (ev2 st)) (xs.map s.ev) ∧ noOwns (xs.map (ev2 st)) = true
 | [] => ⟨by unfold VRl; rfl, by unfold noOwns; rfl⟩
 | x :: xs => by
  obtain ⟨h1, h2⟩ := ev2_ok m.core x p
  obtain ⟨h3, h4⟩ := evs_ok m p xs
  rw [List.map_cons, List.map_cons]
  exact ⟨by unfold VRl; exact ⟨_, _, rfl, h1, h3⟩, by unfold noOwns; rw [h2, h4]; rfl⟩
def bs2 (Γ : TypeId → Option TI) (st : St) (r : Nat) (t : TypeId) (len : Nat) (parts : List (Nat × Operand)) : Option St := (es1 Γ t).bind fun z => if parts.map (·.1) = List.range' 0 len ∧ len * z ≤ 16777216 then (takeL r st ((parts.map (·.2)).map (ev2 st))).bind fun q => if q.1.all (fun d => szD d == z) = true then some ((r, .own z q.1) :: klS atL q.2.1) else none else none
theorem drs_szs {h : Hp} {ow : Nat → Ow} {B z : Nat} {top : Bool} {p : Pt} : ∀ {l : List DV} {i : Nat} {css : List (List Value)}, DRs h ow B top p i l css → l.all (fun d => szD d == z) = true → ∀ c ∈ css, c.length = z
 | [], i, css, e, _ => by unfold DRs at e; subst e; simp
 | d :: l, i, css, e, ha => by
  unfold DRs at e; obtain ⟨c, r, rfl, h1, h2⟩ := e
  rw [List.all_cons, Bool.and_eq_true, beq_iff_eq] at ha
  intro x hx
  rcases List.mem_cons.1 hx with rfl | hx
  ·rw [h1.len, ha.1]
  ·exact drs_szs h2 ha.2 x hx
theorem og_bs {Q : S → Prop} {r : Nat} {t : TypeId} {len : Nat} {parts : Array (Nat × Operand)} (hr : r < LB) (ha : bs2 Γ st r t len parts.toList = some st') (hn : OG Γ E C h0 ow0 G base (i + 1) l st' Q) : OG Γ E C h0 ow0 G base i (⟨some r, none, .buildSlice t len parts⟩ :: l) st Q := by
 refine og_make rfl (fun s ow m hb hlt hlo => ?_) hn
 unfold bs2 at ha
 obtain ⟨z, h1, ha1⟩ := Option.bind_eq_some_iff.1 ha
 split at ha1
 ·rename_i hc
  obtain ⟨⟨d, st1, a'⟩, h2, ha2⟩ := Option.bind_eq_some_iff.1 ha1
  split at ha2
  ·rename_i hall
   injection ha2 with ha2; subst ha2
   obtain ⟨e, b1, b2, b3, ie, t1, t2, t3, t4, t5, t6, t7⟩ := es1_ok h1
   obtain ⟨g1, g2⟩ := evs_ok m (r, []) (parts.toList.map (·.2))
   obtain ⟨ow', k1, k2, k3⟩ := takeL_ok m g2 g1 h2
   have hlen : parts.toList.length = len := by have := congrArg List.length hc.1; simpa using this
   have hdl : d.length = len := by rw [← k2.count]; simp [← hlen]
   have hszs := drs_szs k2 hall
   have hL : r ≠ LB := by unfold LB at *; omega
   refine ⟨.slice (some ⟨base + i, 0, none⟩) len (U z), { cells := (((parts.toList.map (·.2)).map s.ev).map fun v => v.cells.toList).flatten, rw := true }, ?_, ?_⟩
   ·simp only [makeV, t1, t2]
    rw [if_neg (by rw [t3]; omega)]
    have e2 : parts.toList.map (fun p => (p.1, s.ev p.2)) = (List.range' 0 len).zip ((parts.toList.map (·.2)).map s.ev) := by
     rw [← hc.1]
     generalize parts.toList = l
     induction l with
     | nil => rfl
     | cons a l ih => simp [ih]
    rw [e2]
    have hl2 : ((parts.toList.map (·.2)).map s.ev).length = len := by simpa using hlen
    have := fill_all (z := ie.size) (zero := ie.zero) t4 ((parts.toList.map (·.2)).map s.ev) 0 [] (by simp) (fun v hv => ⟨k3 v hv, by rw [t3]; exact hszs _ (List.mem_map.2 ⟨v, hv, rfl⟩)⟩)
    rw [hl2] at this
    simp only [List.nil_append] at this
    rw [this, t3]; rfl
   ·refine sm_new m hlo hlt k1.fz k1.no (k1.core.settle k2 hszs (by omega) hb hlt hL (fun n p z k hh => ?_) (fun n z k hh => ?_) (vl_get k1.gone) (by rw [vl_put hr, hdl]))
    ·rcases k1.pl n p z k hh with x | x
     ·intro hh; exact hL (hh.symm.trans x.1)
     ·exact x.2
    ·rcases k1.pl n _ z k hh with ⟨_, j, v, hv⟩ | x
     ·simp at hv
     ·exact x.1 rfl
  ·cases ha2
 ·cases ha1
def msA (st : St) (r z : Nat) (zv : Option FV) : DV → DV → Option St
 | .fv (.int _ n), .fv (.int _ m) => if n = m ∧ 0 ≤ n ∧ n < 4294967296 then zv.map fun v => (r, .own z (List.replicate n.toNat (.fv v))) :: klS atL (clr r st) else none
 | _, _ => none
def ms2 (Γ : TypeId → Option TI) (st : St) (r : Nat) (t : TypeId) (a b : DV) : Option St := (es1 Γ t).bind fun z => match Γ t with
 | some ⟨.slice e, _, _, _⟩ => msA st r z (zero2 Γ e) a b
 | _ => none
theorem og_ms {Q : S → Prop} {r : Nat} {t : TypeId} {x y : Operand} (hr : r < LB) (ha : ms2 Γ st r t (ev2 st x) (ev2 st y) = some st') (hn : OG Γ E C h0 ow0 G base (i + 1) l st' Q) : OG Γ E C h0 ow0 G base i (⟨some r, none, .makeSlice t x y⟩ :: l) st Q := by
 refine og_make rfl (fun s ow m hb hlt hlo => ?_) hn
 unfold ms2 at ha
 obtain ⟨z, h1, ha1⟩ := Option.bind_eq_some_iff.1 ha
 split at ha1
 ·rename_i e b1 b2 b3 hg
  unfold msA at ha1
  split at ha1
  ·rename_i k1 n k2 m' hx hy
   split at ha1
   ·rename_i hc
    obtain ⟨v, h2, rfl⟩ := Option.map_eq_some_iff.1 ha1
    obtain ⟨e', c1, c2, c3, ie, t1, t2, t3, t4, t5, t6, t7⟩ := es1_ok h1
    rw [hg] at t1; injection t1 with t1; injection t1 with t1 _ _ _; injection t1 with t1; subst t1
    obtain ⟨ti, z1, z2, z3, z4⟩ := zero2_ok h2
    rw [t2] at z1; injection z1 with z1; subst z1
    have hL : r ≠ LB := by unfold LB at *; omega
    have hev1 := sv_ok (x := .int k1 n) (by rw [hx]; rfl) (ev2_ok m.core x (r, [])).1
    have hev2 := sv_ok (x := .int k2 m') (by rw [hy]; rfl) (ev2_ok m.core y (r, [])).1
    have C1 := m.core.clr (val' := vl s G) (r := r) (fun _ _ => rfl)
    have hrep : ∀ (k i : Nat), DRs s.h (dropO (atR r) ow) s.h.next false (LB, []) i (List.replicate k (.fv v)) (List.replicate k ie.zero) := by
     intro k
     induction k with
     | zero => intro i; unfold DRs; rfl
     | succ k ih => intro i; rw [List.replicate_succ, List.replicate_succ]; unfold DRs; exact ⟨_, _, rfl, by unfold DR; exact z4 _ _ _, ih (i + 1)⟩
    have hflat : ∀ k : Nat, (List.replicate k ie.zero).flatten = repZ ie.zero k := by
     intro k
     induction k with
     | zero => rfl
     | succ k ih => rw [List.replicate_succ, List.flatten_cons, ih]; rfl
    refine ⟨.slice (some ⟨base + i, 0, none⟩) n.toNat (U z), { cells := (List.replicate n.toNat ie.zero).flatten, rw := true }, ?_, ?_⟩
    ·simp only [makeV, hg, hev1, hev2, t2]
     have q1 : ie.bytes * n.toNat ≤ 65536 * n.toNat := Nat.mul_le_mul_right _ t6
     have q2 : (ie.bytes : Int) * n ≤ 281474976710656 := by
      have : (n.toNat : Int) = n := by omega
      rw [← this, show (ie.bytes : Int) * ((n.toNat : Nat) : Int) = ((ie.bytes * n.toNat : Nat) : Int) from (Int.natCast_mul _ _).symm]
      omega
     rw [if_pos ⟨hc.1, hc.2.1, hc.2.2, q2, t5, t4⟩, t3, hflat]
    ·refine sm_new m hlo hlt (fun n hh => dropO_fz.2 hh) (fun n hh => dropO_no hh) (C1.settle (hrep _ 0) (fun c hc => ?_) (by omega) hb hlt hL (fun n p z k hh => (drop_free hh).1) (fun n z k hh => (drop_free hh).2 rfl) (vl_get (clr_none _ _)) (by rw [vl_put hr]; simp))
     rw [(List.mem_replicate.1 hc).2, t4, t3]
   ·cases ha1
  ·cases ha1
 ·cases ha1
end
end Go.Proofs.YtonpnjfclelpiaaGreatM
