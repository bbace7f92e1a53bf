import Derived.Test.YtonpnjfclelpiaaGreatVDMvq
namespace Go.Proofs.YtonpnjfclelpiaaGreatM
open Go
set_option linter.unusedVariables false
set_option linter.unusedSimpArgs false
def Sub (a b : St) : Prop := ∀ r d, get a r = some d → get b r = some d
structure Txt where
 am : List Nat
 kd : List Nat
 x : Bool
 l : List POp
def okTxt (Γ : TypeId → Option TI) (ops : Array Oper) (t : Txt) : Prop := ∃ l0, prepO ops ops.toList = some l0 ∧ prepT t.kd l0 = t.l ∧ ancOk ops t.am = true ∧ hazOk ops t.am = true ∧ txtOk Γ ops t.am t.kd t.x = true ∧ t.l.length ≤ ops.size
def dOk (l : List POp) : Bool := l.all fun o => match o.d with | some r => decide (r < LB) | none => true
section
def keepB (kp r : Nat) : Bool := decide (GB ≤ r) || decide ((kp >>> r) % 2 = 1)
def keepS (kp : Nat) : St → St
 | [] => []
 | (r, d) :: st => if keepB kp r = true then (r, d) :: keepS kp st else keepS kp st
theorem sub_keep {kp : Nat} : ∀ {st : St}, Sub (keepS kp st) st
 | [], r, d, h => by cases h
 | (q, e) :: st, r, d, h => by
  have key : keepB kp r = true ∧ get ((q, e) :: st) r = some d := by
   unfold keepS at h
   have hk : ∀ {st : St} {r : Nat} {d : DV}, get (keepS kp st) r = some d → keepB kp r = true := by
    intro st
    induction st with
    | nil => intro r d h; cases h
    | cons a st ih =>
     obtain ⟨q, e⟩ := a
     intro r d h
     unfold keepS at h
     split at h
     ·rename_i hq
      unfold get at h
      split at h
      ·rename_i hqr; rw [← hqr] at hq; exact hq
      ·exact ih h
     ·exact ih h
   split at h
   ·rename_i hq
    unfold get at h
    unfold get
    split at h
    ·rename_i hqr; rw [if_pos hqr]; rw [← hqr] at hq; exact ⟨hq, h⟩
    ·rename_i hqr; rw [if_neg hqr]; exact ⟨hk h, sub_keep r d h⟩
   ·rename_i hq
    have h1 := hk h
    unfold get
    rw [if_neg (fun hh => by rw [← hh] at hq; exact hq h1)]
    exact ⟨h1, sub_keep r d h⟩
  exact key.2
variable (Γ : TypeId → Option TI) (E : TypeId → Nat) (MU : FuncId → Nat → Nat) (C : Rel) (kp : Nat)
def PW : PC → St → (Ex → St → Prop) → Prop
 | .skip, st, Q => Q .norm st
 | .ops n l, st, Q => (l.length ≤ n ∧ dOk l = true) ∧ OW Γ E MU C false l st (fun st' => Q .norm (keepS kp st'))
 | .draw ops, st, Q => ∃ t, (okTxt Γ ops t ∧ dOk t.l = true) ∧ (OW Γ E MU C t.x t.l st (fun st' => Q .norm (keepS kp st')) ∨ (t.x = true ∧ ∃ st1, (st1 = st ∨ ∃ q v, frz st q = some (v, st1)) ∧ OX Γ E MU C t.l st1 st1 (fun st' => Q .norm (keepS kp st'))))
 | .seq a b, st, Q => PW a st fun x st' => match x with
  | .norm => PW b st' Q
  | x => Q x st'
 | .cond c a b, st, Q => match ev2 st c with
  | .fv (.bool t) => (t = true → PW a st Q) ∧ (t = false → PW b st Q)
  | _ => False
 | .block id b, st, Q => PW b st fun x st' => match x with
  | .exit i => if i = id then Q .norm st' else Q (.exit i) st'
  | x => Q x st'
 | .loop b, st, Q => ∀ X : St → Prop, (∀ st0 st, Sub st0 st → PW b st0 (fun x st' => match x with
  | .norm => X st'
  | x => Q x st') → X st) → X st
 | .exit id, st, Q => Q (.exit id) st
 | .ret, st, Q => Q .ret st
end
section
variable {Γ : TypeId → Option TI} {E : TypeId → Nat} {MU : FuncId → Nat → Nat} {C : Rel} {h0 : Hp} {ow0 : Nat → Ow} {G : Nat → Value} {s : S} {st st' : St} {kp : Nat}
theorem dOk_d {l : List POp} (h : dOk l = true) : ∀ o ∈ l, ∀ r, o.d = some r → r < LB := by
 intro o ho r hr
 unfold dOk at h
 rw [List.all_eq_true] at h
 have := h o ho
 rw [hr] at this
 simpa using this
theorem sm_sub (hs : Sub st' st) (m : Sm h0 ow0 G st s) : Sm h0 ow0 G st' s := by
 obtain ⟨ow, m⟩ := m
 exact ⟨ow, m.core.sub hs, m.frm, m.top⟩
theorem sm_next {N : Nat} {h' : Hp} (m : Sm h0 ow0 G st s) (hn : s.h.next ≤ h'.next) (hb : ∀ n, h'.blk n = s.h.blk n) : Sm h0 ow0 G st (s.hp h') := by
 obtain ⟨ow, m⟩ := m
 have C1 := m.core.mono (B' := h'.next) hn
 have C2 := C1.tr' (val' := vl (s.hp h') G) (a := fun _ => false) (h' := h') (ow' := ow) ⟨fun n hh => ⟨hh, hb n⟩, fun _ _ _ _ _ hh => hh⟩ (fun r d hd => ⟨fun n hh => ⟨hh, hb n⟩, fun n w z k hh => ⟨hh, hb n⟩⟩) C1.inj (fun n hh => C1.nn n (by rw [← hb n]; exact hh)) (Nat.le_refl _) (fun _ _ _ => rfl)
 refine ⟨ow, ?_, m.frm.go hn (fun n _ => ⟨fun hh => ⟨hh, hb n⟩, fun hh => ⟨hh, hb n⟩⟩) (fun n _ hh => (hb n).trans hh), fun n hh => by rw [show (s.hp h').h.blk n = h'.blk n from rfl, hb n]; exact m.top n (Nat.le_trans hn hh)⟩
 have e : ∀ st : St, klS (fun _ => false) st = st := by
  have e1 : ∀ d : DV, kl (fun _ => false) d = d := fun d => DV.rec (motive_1 := fun d => kl (fun _ => false) d = d) (motive_2 := fun l => kls (fun _ => false) l = l) (fun _ => by unfold kl; rfl) (fun _ _ _ => by unfold kl; rfl) (fun l ih => by unfold kl; rw [ih]) (fun _ _ => by unfold kl; rfl) (fun _ _ _ => by unfold kl; simp) (fun _ _ _ => by unfold kl; simp) (fun l ih => by unfold kl; rw [ih]) (fun _ => by unfold kl; rfl) (by unfold kls; rfl) (fun a l h1 h2 => by unfold kls; rw [h1, h2]) d
  intro st
  induction st with
  | nil => rfl
  | cons a st ih => obtain ⟨k, d⟩ := a; unfold klS; rw [e1, ih]
 rw [e] at C2; exact C2
theorem OW_mono {x : Bool} : ∀ {l : List POp} {st : St} {Q Q' : St → Prop}, (∀ st, Q st → Q' st) → OW Γ E MU C x l st Q → OW Γ E MU C x l st Q'
 | [], st, Q, Q', hq, h => by rw [OW] at h ⊢; exact hq _ h
 | o :: l, st, Q, Q', hq, h => by
  have one : ∀ {st : St}, O1 Γ E MU C x o.d o.op l st Q → O1 Γ E MU C x o.d o.op l st Q' := by
   intro st h
   unfold O1 at h ⊢
   split at h
   ·rename_i f args ts hop
    split at h
    ·rename_i g ds L mv st1 hcl
     obtain ⟨h1, dd, outs, h2, h3, h4⟩ := h
     exact ⟨h1, dd, outs, h2, h3, OW_mono hq h4⟩
    ·exact h.elim
   ·rename_i args ts hop
    split at h
    ·rename_i a b t t2 r h1 h2 h3
     split at h
     ·rename_i st' n hap
      exact ⟨h.1, h.2.1, OW_mono hq h.2.2⟩
     ·exact h.elim
    ·exact h.elim
   ·rename_i hn1 hn2
    split at h
    ·rename_i hany
     rw [if_pos hany]
     split at h
     ·exact ⟨h.1, fun b => OW_mono hq (h.2 b)⟩
     ·exact h.elim
    ·rename_i hany
     rw [if_neg hany]
     split at h
     ·rename_i st' hs
      exact OW_mono hq h
     ·exact h.elim
  rw [OW] at h ⊢
  split at h
  ·rename_i hg
   exact one h
  ·rename_i j w hg
   refine ⟨h.1, ?_⟩
   have h2 := h.2
   split at h2
   ·rename_i b hb
    exact ⟨fun hh => one (h2.1 hh), fun hh => OW_mono hq (h2.2 hh)⟩
   ·exact OW_mono hq h2
   ·exact h2.elim
theorem PW_mono : ∀ {p : PC} {st : St} {Q Q' : Ex → St → Prop}, (∀ x st, Q x st → Q' x st) → PW Γ E MU C kp p st Q → PW Γ E MU C kp p st Q'
 | .skip, st, Q, Q', hq, h => hq _ _ h
 | .ops n l, st, Q, Q', hq, h => ⟨h.1, OW_mono (fun st => hq .norm _) h.2⟩
 | .draw ops, st, Q, Q', hq, h => by
  obtain ⟨t, h1, h2⟩ := h
  exact ⟨t, h1, h2.imp (OW_mono fun st => hq .norm _) (fun x => ⟨x.1, x.2.imp fun _ y => ⟨y.1, OX_mono (fun st => hq .norm _) y.2⟩⟩)⟩
 | .seq a b, st, Q, Q', hq, h => by
  unfold PW at h ⊢
  refine PW_mono (p := a) (fun x st hx => ?_) h
  cases x with
  | norm => exact PW_mono (p := b) hq hx
  | exit i => exact hq _ _ hx
  | ret => exact hq _ _ hx
 | .cond c a b, st, Q, Q', hq, h => by
  unfold PW at h ⊢
  split at h
  ·rename_i t ht
   exact ⟨fun hh => PW_mono (p := a) hq (h.1 hh), fun hh => PW_mono (p := b) hq (h.2 hh)⟩
  ·exact h.elim
 | .block id b, st, Q, Q', hq, h => by
  unfold PW at h ⊢
  refine PW_mono (p := b) (fun x st hx => ?_) h
  cases x with
  | norm => exact hq _ _ hx
  | exit i =>
   simp only at hx ⊢
   split
   ·rename_i hi; rw [if_pos hi] at hx; exact hq _ _ hx
   ·rename_i hi; rw [if_neg hi] at hx; exact hq _ _ hx
  | ret => exact hq _ _ hx
 | .loop b, st, Q, Q', hq, h => by
  unfold PW at h ⊢
  intro X hX
  refine h X (fun st0 st hs hb => hX st0 st hs (PW_mono (p := b) (fun x st hx => ?_) hb))
  cases x with
  | norm => exact hx
  | exit i => exact hq _ _ hx
  | ret => exact hq _ _ hx
 | .exit id, st, Q, Q', hq, h => hq _ _ h
 | .ret, st, Q, Q', hq, h => hq _ _ h
theorem PW_ok {D : DrawR} (hD : ∀ ops s s', Draw Γ E C 0 ops s s' → D ops s s') : ∀ {p : PC} {st : St} {Q : Ex → St → Prop} {s : S}, PW Γ E MU C kp p st Q → Sm h0 ow0 G st s → RunP Γ E C D p s (fun x s' => ∃ st', Q x st' ∧ Sm h0 ow0 G st' s')
 | .skip, st, Q, s, h, m => ⟨st, h, m⟩
 | .ops n l, st, Q, s, h, m => by
  unfold PW at h
  obtain ⟨⟨h1, h2⟩, h3⟩ := h
  refine RunP.mono (p := .ops n l) (Q := fun x s' => ∃ st', Q x (keepS kp st') ∧ Sm h0 ow0 G st' s') (fun x s' hx => by obtain ⟨st', a, b⟩ := hx; exact ⟨_, a, sm_sub sub_keep b⟩) ?_
  have hO := OW_ok (Γ := Γ) (E := E) (MU := MU) (C := C) (R := C) (h0 := h0) (ow0 := ow0) (G := G) (base := s.h.next) (x := false) (fun _ _ _ _ _ _ hc _ _ => hc) (i := 0) (dOk_d h2) h3
  obtain ⟨ow, m1⟩ := m
  exact hO _ (sm_next (N := 0) ⟨ow, m1⟩ (show s.h.next ≤ s.h.next + n by omega) (fun _ => rfl)) ⟨m1.frm.nx, by show s.h.next + 0 + l.length ≤ s.h.next + n; omega, fun j _ _ => m1.top _ (Nat.le_add_right _ _)⟩
 | .draw ops, st, Q, s, h, m => by
  unfold PW at h
  obtain ⟨t, ⟨⟨l0, g1, g2, g3, g4, g5, g6⟩, g7⟩, h3⟩ := h
  obtain ⟨ow, m1⟩ := m
  have hcl : ∀ n, (s.h.cl ops.size).blk n = s.h.blk n := fun n => by
   show (if n < s.h.next then s.h.blk n else none) = _
   split
   ·rfl
   ·rename_i hn; exact (m1.top n (Nat.le_of_not_lt hn)).symm
  have hm := sm_next (N := 0) ⟨ow, m1⟩ (h' := s.h.cl ops.size) (show s.h.next ≤ s.h.next + ops.size by omega) hcl
  have hfr : Fresh h0 s.h.next 0 t.l.length (s.hp (s.h.cl ops.size)) := ⟨m1.frm.nx, by show s.h.next + 0 + t.l.length ≤ s.h.next + ops.size; omega, fun j _ _ => by rw [show (s.hp (s.h.cl ops.size)).h.blk _ = (s.h.cl ops.size).blk _ from rfl, hcl]; exact m1.top _ (Nat.le_add_right _ _)⟩
  have this : OpsP Γ E (TC Γ C t.x (s.h.next + ops.size)) s.h.next 0 t.l (s.hp (s.h.cl ops.size)) (fun s' => ∃ st', Q .norm (keepS kp st') ∧ Sm h0 ow0 G st' s') := by
   rcases h3 with h3 | ⟨hx, h3⟩
   ·exact OW_ok (Γ := Γ) (E := E) (MU := MU) (C := C) (R := TC Γ C t.x (s.h.next + ops.size)) (h0 := h0) (ow0 := ow0) (G := G) (base := s.h.next) (x := t.x) (fun g args h v h' hg hc hn he => .inr ⟨.inr hg, hc, hn, he⟩) (i := 0) (dOk_d g7) h3 _ hm hfr
   ·obtain ⟨st1, hz, h3⟩ := h3
    have hm : Sm h0 ow0 G st1 (s.hp (s.h.cl ops.size)) := by
     rcases hz with rfl | ⟨q, v, hz⟩
     ·exact hm
     ·obtain ⟨ow1, m2⟩ := hm; exact ⟨_, sm_frz m2 hz⟩
    rw [hx]
    obtain ⟨ow1, m2⟩ := hm
    exact OX_ok (Γ := Γ) (E := E) (MU := MU) (C := C) (h0 := h0) (ow0 := ow0) (G := G) (base := s.h.next) (bound := s.h.next + ops.size) (i := 0) (dOk_d g7) h3 _ ⟨ow1, m2, m2.core⟩ hfr
  obtain ⟨s', k1, k2⟩ := text_draw (n := 0) g1 g3 g4 g5 (Q := fun s' => ∃ st', Q .norm (keepS kp st') ∧ Sm h0 ow0 G st' s') (by rw [g2]; exact this)
  obtain ⟨st', k3, k4⟩ := k2
  exact ⟨s', hD _ _ _ k1, _, k3, sm_sub sub_keep k4⟩
 | .seq a b, st, Q, s, h, m => by
  unfold PW at h
  unfold RunP
  refine RunP.mono (p := a) (fun x s' hx => ?_) (PW_ok hD h m)
  obtain ⟨st', h1, h2⟩ := hx
  cases x with
  | norm => exact PW_ok hD h1 h2
  | exit i => exact ⟨st', h1, h2⟩
  | ret => exact ⟨st', h1, h2⟩
 | .cond c a b, st, Q, s, h, m => by
  unfold PW at h
  obtain ⟨ow, m1⟩ := m
  split at h
  ·rename_i t ht
   have hc : s.ev c = .bool t := sv_ok (by rw [ht]; rfl) (ev2_ok m1.core c (0, [])).1
   unfold RunP
   rw [hc]
   cases t with
   | true => exact PW_ok hD (h.1 rfl) ⟨ow, m1⟩
   | false => exact PW_ok hD (h.2 rfl) ⟨ow, m1⟩
  ·exact h.elim
 | .block id b, st, Q, s, h, m => by
  unfold PW at h
  unfold RunP
  refine RunP.mono (p := b) (fun x s' hx => ?_) (PW_ok hD h m)
  obtain ⟨st', h1, h2⟩ := hx
  cases x with
  | norm => exact ⟨st', h1, h2⟩
  | exit i =>
   simp only at h1 ⊢
   split
   ·rename_i hi; rw [if_pos hi] at h1; exact ⟨st', h1, h2⟩
   ·rename_i hi; rw [if_neg hi] at h1; exact ⟨st', h1, h2⟩
  | ret => exact ⟨st', h1, h2⟩
 | .loop b, st, Q, s, h, m => by
  unfold PW at h
  refine h (fun st => ∀ s, Sm h0 ow0 G st s → RunP Γ E C D (.loop b) s (fun x s' => ∃ st', Q x st' ∧ Sm h0 ow0 G st' s')) (fun st0 st hs hb s m => ?_) s m
  refine RunP.again (RunP.mono (p := b) (fun x s' hx => ?_) (PW_ok hD hb (sm_sub hs m)))
  obtain ⟨st', h1, h2⟩ := hx
  cases x with
  | norm => exact h1 s' h2
  | exit i => exact ⟨st', h1, h2⟩
  | ret => exact ⟨st', h1, h2⟩
 | .exit id, st, Q, s, h, m => ⟨st, h, m⟩
 | .ret, st, Q, s, h, m => ⟨st, h, m⟩
end
end Go.Proofs.YtonpnjfclelpiaaGreatM
