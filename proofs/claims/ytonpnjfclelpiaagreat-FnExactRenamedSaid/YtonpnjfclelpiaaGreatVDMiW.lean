import Derived.Test.YtonpnjfclelpiaaGreatVDMiA
namespace Go.Proofs.YtonpnjfclelpiaaGreatM
open Go
set_option linter.unusedVariables false
set_option linter.unusedSimpArgs false
inductive Ex where
 | norm
 | exit (id : Nat)
 | ret
 deriving DecidableEq
structure S where
 t : Nat → Value
 h : Hp
def S.ev (s : S) : Operand → Value
 | .tmp i => s.t i
 | .const v => v
 | .func f => .func (.func f) #[] #[]
 | .global _ => undef
def upd (t : Nat → Value) (d : Nat) (v : Value) : Nat → Value := fun i => if i = d then v else t i
def S.put (s : S) (d : Option Tmp) (v : Value) : S :=
 match d with
 | some d => { s with t := upd s.t d v }
 | none => s
def S.hp (s : S) (h : Hp) : S := { s with h := h }
def wantB (ops : Array Oper) (s : S) (o : Oper) : Option Bool :=
 match o.guard with
 | none => some true
 | some (j, want) => match (ops[j]?).bind (·.dst) with
  | some d => match s.t d with
   | .bool b => some (b == want)
   | .tuple ⟨[]⟩ => some false
   | _ => none
  | none => none
def calleeV (s : S) : Op → Option (FuncId × List Value)
 | .call { callee := .value f, args, .. } => match s.ev f with
  | .func (.func g) first captured => some (g, first.toList ++ (args.toList.map s.ev) ++ captured.toList)
  | _ => none
 | _ => none
abbrev Rel := FuncId → List Value → Hp → Value → Hp → Prop
section
variable (Γ : TypeId → Option TI) (E : TypeId → Nat) (C : Rel)
def OpsW (ops : Array Oper) (base : Nat) : List Nat → S → (S → Prop) → Prop
 | [], s, Q => Q s
 | i :: r, s, Q => match ops[i]? with
  | none => False
  | some o => match wantB ops s o with
   | none => False
   | some false => OpsW ops base r (s.put o.dst undef) Q
   | some true => match calleeV s o.op with
    | some (g, args) => ∃ v h', C g args s.h v h' ∧ OpsW ops base r ((s.hp h').put o.dst v) Q
    | none => match opV Γ E (base + i) s.ev o.op s.h with
     | some (v, h') => OpsW ops base r ((s.hp h').put o.dst v) Q
     | none => False
def LoopR (R : S → Ex → S → Prop) : Nat → S → Ex → S → Prop
 | 0, _, _, _ => False
 | n + 1, s, x, s' => (R s x s' ∧ x ≠ .norm) ∨ ∃ s1, R s .norm s1 ∧ LoopR R n s1 x s'
abbrev DrawR := Array Oper → S → S → Prop
def RunW (D : DrawR) : Code → S → (Ex → S → Prop) → Prop
 | .skip, s, Q => Q .norm s
 | .region _ ops false, s, Q => OpsW Γ E C ops s.h.next (List.range ops.size) (s.hp (s.h.to (s.h.next + ops.size))) (fun s' => Q .norm s')
 | .region _ ops true, s, Q => ∃ s', D ops s s' ∧ Q .norm s'
 | .seq a b, s, Q => RunW D a s fun x s' => match x with
  | .norm => RunW D b s' Q
  | x => Q x s'
 | .cond c a b, s, Q => match s.ev c with
  | .bool true => RunW D a s Q
  | .bool false => RunW D b s Q
  | _ => False
 | .block id b, s, Q => RunW D b s fun x s' => match x with
  | .exit i => if i = id then Q .norm s' else Q (.exit i) s'
  | x => Q x s'
 | .loop b, s, Q => ∃ n x s', LoopR (fun s x s' => RunW D b s fun y t => y = x ∧ t = s') n s x s' ∧ Q x s'
 | .exit id, s, Q => Q (.exit id) s
 | .ret, s, Q => Q .ret s
 | _, _, _ => False
end
theorem OpsW.mono {Γ : TypeId → Option TI} {E : TypeId → Nat} {C C' : Rel} (hC : ∀ f a h v h', C f a h v h' → C' f a h v h') {ops : Array Oper} {base : Nat} : ∀ {l : List Nat} {s : S} {Q Q' : S → Prop},
  (∀ s, Q s → Q' s) → OpsW Γ E C ops base l s Q → OpsW Γ E C' ops base l s Q'
 | [], s, Q, Q', hq, h => hq s h
 | i :: r, s, Q, Q', hq, h => by
  unfold OpsW at h ⊢
  cases ho : ops[i]? with
  | none => rw [ho] at h; exact h.elim
  | some o =>
   rw [ho] at h
   simp only at h ⊢
   cases hw : wantB ops s o with
   | none => rw [hw] at h; exact h.elim
   | some bb =>
    rw [hw] at h
    cases bb with
    | false => exact OpsW.mono hC hq h
    | true =>
     simp only at h ⊢
     cases hc : calleeV s o.op with
     | some ga =>
      obtain ⟨g, args⟩ := ga
      rw [hc] at h
      obtain ⟨v, h', h1, h2⟩ := h
      exact ⟨v, h', hC _ _ _ _ _ h1, OpsW.mono hC hq h2⟩
     | none =>
      rw [hc] at h
      simp only at h ⊢
      cases hv : opV Γ E (base + i) s.ev o.op s.h with
      | none => rw [hv] at h; exact h.elim
      | some vh =>
       obtain ⟨v, h'⟩ := vh
       rw [hv] at h
       exact OpsW.mono hC hq h
theorem LoopR.mono {R R' : S → Ex → S → Prop} (hR : ∀ s x s', R s x s' → R' s x s') : ∀ {n : Nat} {s : S} {x : Ex} {s' : S}, LoopR R n s x s' → LoopR R' n s x s'
 | n + 1, s, x, s', h => by
  rcases h with ⟨h1, h2⟩ | ⟨s1, h1, h2⟩
  ·exact .inl ⟨hR _ _ _ h1, h2⟩
  ·exact .inr ⟨s1, hR _ _ _ h1, LoopR.mono hR h2⟩
theorem RunW.mono {Γ : TypeId → Option TI} {E : TypeId → Nat} {C C' : Rel} {D D' : DrawR} (hC : ∀ f a h v h', C f a h v h' → C' f a h v h') (hD : ∀ o s s', D o s s' → D' o s s') : ∀ {c : Code} {s : S} {Q Q' : Ex → S → Prop},
  (∀ x s, Q x s → Q' x s) → RunW Γ E C D c s Q → RunW Γ E C' D' c s Q' := by
 intro c
 induction c with
 | skip => intro s Q Q' hq h; exact hq _ _ h
 | region id ops draw =>
  intro s Q Q' hq h
  cases draw with
  | false => exact OpsW.mono hC (fun s => hq _ s) h
  | true => obtain ⟨s', h1, h2⟩ := h; exact ⟨s', hD _ _ _ h1, hq _ _ h2⟩
 | seq a b iha ihb =>
  intro s Q Q' hq h
  refine iha (fun x s' hx => ?_) h
  cases x with
  | norm => exact ihb hq hx
  | exit i => exact hq _ _ hx
  | ret => exact hq _ _ hx
 | cond c a b iha ihb =>
  intro s Q Q' hq h
  unfold RunW at h ⊢
  cases hc : s.ev c with
  | bool bb =>
   rw [hc] at h
   cases bb with
   | true => exact iha hq h
   | false => exact ihb hq h
  | _ => rw [hc] at h; exact h.elim
 | block id b ihb =>
  intro s Q Q' hq h
  refine ihb (fun x s' hx => ?_) h
  cases x with
  | norm => exact hq _ _ hx
  | exit i =>
   simp only at hx ⊢
   split
   ·rename_i hi; rw [if_pos hi] at hx; exact hq _ _ hx
   ·rename_i hi; rw [if_neg hi] at hx; exact hq _ _ hx
  | ret => exact hq _ _ hx
 | loop b ihb =>
  intro s Q Q' hq h
  obtain ⟨n, x, s', h1, h2⟩ := h
  exact ⟨n, x, s', LoopR.mono (fun s x s' hh => ihb (fun y t hy => hy) hh) h1, hq _ _ h2⟩
 | exit id => intro s Q Q' hq h; exact hq _ _ h
 | ret => intro s Q Q' hq h; exact hq _ _ h
 | _ => intro s Q Q' hq h; exact h.elim
theorem OpsW.out {Γ : TypeId → Option TI} {E : TypeId → Nat} {C : Rel} {ops : Array Oper} {base : Nat} : ∀ {l : List Nat} {s : S} {Q : S → Prop}, OpsW Γ E C ops base l s Q → ∃ s', OpsW Γ E C ops base l s (fun t => t = s') ∧ Q s'
 | [], s, Q, h => ⟨s, rfl, h⟩
 | i :: r, s, Q, h => by
  unfold OpsW at h
  split at h
  ·exact h.elim
  ·rename_i o ho
   split at h
   ·exact h.elim
   ·rename_i hw; obtain ⟨s', h1, h2⟩ := OpsW.out h; exact ⟨s', by unfold OpsW; simp only [ho, hw]; exact h1, h2⟩
   ·rename_i hw
    split at h
    ·rename_i g args hc
     obtain ⟨v, h', h1, h2⟩ := h
     obtain ⟨s', h3, h4⟩ := OpsW.out h2
     exact ⟨s', by unfold OpsW; simp only [ho, hw, hc]; exact ⟨v, h', h1, h3⟩, h4⟩
    ·rename_i hc
     split at h
     ·rename_i v h' hv
      obtain ⟨s', h3, h4⟩ := OpsW.out h
      exact ⟨s', by unfold OpsW; simp only [ho, hw, hc, hv]; exact h3, h4⟩
     ·exact h.elim
theorem RunW.out {Γ : TypeId → Option TI} {E : TypeId → Nat} {C : Rel} {D : DrawR} : ∀ {c : Code} {s : S} {Q : Ex → S → Prop}, RunW Γ E C D c s Q → ∃ x s', RunW Γ E C D c s (fun y t => y = x ∧ t = s') ∧ Q x s' := by
 intro c
 induction c with
 | skip => intro s Q h; exact ⟨_, _, ⟨rfl, rfl⟩, h⟩
 | region id ops draw =>
  intro s Q h
  cases draw with
  | false =>
   obtain ⟨s', h1, h2⟩ := OpsW.out (show OpsW _ _ _ _ _ _ _ _ from h)
   exact ⟨.norm, s', OpsW.mono (fun _ _ _ _ _ hh => hh) (fun t ht => ⟨rfl, ht⟩) h1, h2⟩
  | true => obtain ⟨s', h1, h2⟩ := h; exact ⟨.norm, s', ⟨s', h1, rfl, rfl⟩, h2⟩
 | seq a b iha ihb =>
  intro s Q h
  obtain ⟨x, s1, h1, h2⟩ := iha (show RunW _ _ _ _ a s _ from h)
  cases x with
  | norm =>
   obtain ⟨y, s2, h3, h4⟩ := ihb h2
   exact ⟨y, s2, show RunW _ _ _ _ a s _ from RunW.mono (fun _ _ _ _ _ hh => hh) (fun _ _ _ hh => hh) (fun y t ht => by obtain ⟨rfl, rfl⟩ := ht; exact h3) h1, h4⟩
  | exit i => exact ⟨.exit i, s1, show RunW _ _ _ _ a s _ from RunW.mono (fun _ _ _ _ _ hh => hh) (fun _ _ _ hh => hh) (fun y t ht => by obtain ⟨rfl, rfl⟩ := ht; exact ⟨rfl, rfl⟩) h1, h2⟩
  | ret => exact ⟨.ret, s1, show RunW _ _ _ _ a s _ from RunW.mono (fun _ _ _ _ _ hh => hh) (fun _ _ _ hh => hh) (fun y t ht => by obtain ⟨rfl, rfl⟩ := ht; exact ⟨rfl, rfl⟩) h1, h2⟩
 | cond c a b iha ihb =>
  intro s Q h
  unfold RunW at h
  split at h
  ·rename_i hc; obtain ⟨x, s', h1, h2⟩ := iha h; exact ⟨x, s', by unfold RunW; simp only [hc]; exact h1, h2⟩
  ·rename_i hc; obtain ⟨x, s', h1, h2⟩ := ihb h; exact ⟨x, s', by unfold RunW; simp only [hc]; exact h1, h2⟩
  ·exact h.elim
 | block id b ihb =>
  intro s Q h
  obtain ⟨x, s1, h1, h2⟩ := ihb (show RunW _ _ _ _ b s _ from h)
  cases x with
  | norm => exact ⟨.norm, s1, show RunW _ _ _ _ b s _ from RunW.mono (fun _ _ _ _ _ hh => hh) (fun _ _ _ hh => hh) (fun y t ht => by obtain ⟨rfl, rfl⟩ := ht; exact ⟨rfl, rfl⟩) h1, h2⟩
  | exit i =>
   simp only at h2
   split at h2
   ·rename_i hi
    exact ⟨.norm, s1, show RunW _ _ _ _ b s _ from RunW.mono (fun _ _ _ _ _ hh => hh) (fun _ _ _ hh => hh) (fun y t ht => by obtain ⟨rfl, rfl⟩ := ht; simp [hi]) h1, h2⟩
   ·rename_i hi
    exact ⟨.exit i, s1, show RunW _ _ _ _ b s _ from RunW.mono (fun _ _ _ _ _ hh => hh) (fun _ _ _ hh => hh) (fun y t ht => by obtain ⟨rfl, rfl⟩ := ht; simp [hi]) h1, h2⟩
  | ret => exact ⟨.ret, s1, show RunW _ _ _ _ b s _ from RunW.mono (fun _ _ _ _ _ hh => hh) (fun _ _ _ hh => hh) (fun y t ht => by obtain ⟨rfl, rfl⟩ := ht; exact ⟨rfl, rfl⟩) h1, h2⟩
 | loop b ihb => intro s Q h; obtain ⟨n, x, s', h1, h2⟩ := h; exact ⟨x, s', ⟨n, x, s', h1, rfl, rfl⟩, h2⟩
 | exit id => intro s Q h; exact ⟨_, _, ⟨rfl, rfl⟩, h⟩
 | ret => intro s Q h; exact ⟨_, _, ⟨rfl, rfl⟩, h⟩
 | _ => intro s Q h; exact h.elim
theorem RunW.again {Γ : TypeId → Option TI} {E : TypeId → Nat} {C : Rel} {D : DrawR} {b : Code} {s : S} {Q : Ex → S → Prop}
  (h : RunW Γ E C D b s fun x s' => match x with | .norm => RunW Γ E C D (.loop b) s' Q | x => Q x s') : RunW Γ E C D (.loop b) s Q := by
 obtain ⟨x, s1, h1, h2⟩ := RunW.out h
 cases x with
 | norm =>
  obtain ⟨n, y, s', h3, h4⟩ := h2
  exact ⟨n + 1, y, s', .inr ⟨s1, h1, h3⟩, h4⟩
 | exit i => exact ⟨1, _, s1, .inl ⟨h1, by simp⟩, h2⟩
 | ret => exact ⟨1, _, s1, .inl ⟨h1, by simp⟩, h2⟩
end Go.Proofs.YtonpnjfclelpiaaGreatM
