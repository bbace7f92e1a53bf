import Derived.Test.YtonpnjfclelpiaaGreatVDMiG
namespace Go.Proofs.YtonpnjfclelpiaaGreatM
open Go
set_option linter.unusedVariables false
set_option linter.unusedSimpArgs false
structure POp where
 d : Option Nat
 g : Option (Nat × Bool)
 op : Op
inductive PC where
 | skip
 | ops (n : Nat) (l : List POp)
 | draw (ops : Array Oper)
 | seq (a b : PC)
 | cond (c : Operand) (a b : PC)
 | block (id : Nat) (b : PC)
 | loop (b : PC)
 | exit (id : Nat)
 | ret
def gdOf (ops : Array Oper) (o : Oper) : Option (Option (Nat × Bool)) :=
 match o.guard with
 | none => some none
 | some (j, want) => match (ops[j]?).bind (·.dst) with
  | some d => some (some (d, want))
  | none => none
def prepO (ops : Array Oper) : List Oper → Option (List POp)
 | [] => some []
 | o :: r => match gdOf ops o, prepO ops r with
  | some g, some l => some (⟨o.dst, g, o.op⟩ :: l)
  | _, _ => none
def prep : Code → Option PC
 | .skip => some .skip
 | .region _ ops false => (prepO ops ops.toList).map fun l => .ops ops.size l
 | .region _ ops true => some (.draw ops)
 | .seq a b => match prep a, prep b with
  | some a, some b => some (.seq a b)
  | _, _ => none
 | .cond c a b => match prep a, prep b with
  | some a, some b => some (.cond c a b)
  | _, _ => none
 | .block id b => (prep b).map fun b => .block id b
 | .loop b => (prep b).map fun b => .loop b
 | .exit id => some (.exit id)
 | .ret => some .ret
 | _ => none
section
variable (Γ : TypeId → Option TI) (E : TypeId → Nat) (C : Rel) (D : DrawR)
def gdV (s : S) : Option (Nat × Bool) → Option Bool
 | none => some true
 | some (j, want) => match s.t j with
  | .bool b => some (b == want)
  | .tuple ⟨[]⟩ => some false
  | _ => none
def OpsP (base : Nat) : Nat → List POp → S → (S → Prop) → Prop
 | _, [], s, Q => Q s
 | i, o :: r, s, Q => match gdV s o.g with
  | none => False
  | some false => OpsP base (i + 1) r (s.put o.d undef) Q
  | some true => match calleeV s o.op with
   | some (g, args) => ∃ v h', C g args s.h v h' ∧ OpsP base (i + 1) r ((s.hp h').put o.d v) Q
   | none => match opV Γ E (base + i) s.ev o.op s.h with
    | some (v, h') => OpsP base (i + 1) r ((s.hp h').put o.d v) Q
    | none => False
def RunP : PC → S → (Ex → S → Prop) → Prop
 | .skip, s, Q => Q .norm s
 | .ops n l, s, Q => OpsP Γ E C s.h.next 0 l (s.hp (s.h.to (s.h.next + n))) (fun s' => Q .norm s')
 | .draw ops, s, Q => ∃ s', D ops s s' ∧ Q .norm s'
 | .seq a b, s, Q => RunP a s fun x s' => match x with
  | .norm => RunP b s' Q
  | x => Q x s'
 | .cond c a b, s, Q => match s.ev c with
  | .bool true => RunP a s Q
  | .bool false => RunP b s Q
  | _ => False
 | .block id b, s, Q => RunP b s fun x s' => match x with
  | .exit i => if i = id then Q .norm s' else Q (.exit i) s'
  | x => Q x s'
 | .loop b, s, Q => ∃ n x s', LoopR (fun s x s' => RunP b s fun y t => y = x ∧ t = s') n s x s' ∧ Q x s'
 | .exit id, s, Q => Q (.exit id) s
 | .ret, s, Q => Q .ret s
end
section
variable {Γ : TypeId → Option TI} {E : TypeId → Nat} {C : Rel} {D : DrawR}
theorem wantB_eq {ops : Array Oper} {o : Oper} {g : Option (Nat × Bool)} (h : gdOf ops o = some g) (s : S) : wantB ops s o = gdV s g := by
 unfold gdOf at h
 unfold wantB
 split at h
 ·rename_i hg; injection h with h; subst h; simp [hg, gdV]
 ·rename_i j want hg
  simp only [hg]
  split at h
  ·rename_i d hd
   injection h with h; subst h
   simp only [hd, gdV]
   cases s.t d with
   | tuple vs => obtain ⟨l⟩ := vs; cases l <;> rfl
   | _ => rfl
  ·cases h
theorem ops_prep {ops : Array Oper} {base : Nat} : ∀ (l : List Oper) (i : Nat) (r : List POp), (∀ j, l[j]? = ops[i + j]?) → prepO ops l = some r → ∀ (s : S) (Q : S → Prop), OpsP Γ E C base i r s Q →
  OpsW Γ E C ops base (List.range' i l.length) s Q
 | [], i, r, hl, hp, s, Q, h => by
  simp [prepO] at hp; subst hp
  exact h
 | o :: l, i, r, hl, hp, s, Q, h => by
  unfold prepO at hp
  split at hp
  ·rename_i g rl hg hrl
   injection hp with hp; subst hp
   have ho : ops[i]? = some o := by have := hl 0; simpa using this.symm
   have hl' : ∀ j, l[j]? = ops[i + 1 + j]? := fun j => by have := hl (j + 1); simpa [Nat.add_assoc, Nat.add_comm 1 j] using this
   rw [List.length_cons, List.range'_succ]
   unfold OpsP at h
   unfold OpsW
   simp only [ho, wantB_eq hg]
   simp only at h
   split at h
   ·exact h.elim
   ·rename_i hw; simp only [hw]; exact ops_prep l (i + 1) rl hl' hrl _ _ h
   ·rename_i hw
    simp only [hw]
    split at h
    ·rename_i g args hc
     obtain ⟨v, h', h1, h2⟩ := h
     simp only [hc]
     exact ⟨v, h', h1, ops_prep l (i + 1) rl hl' hrl _ _ h2⟩
    ·rename_i hc
     simp only [hc]
     split at h
     ·rename_i v h' hv
      simp only [hv]
      exact ops_prep l (i + 1) rl hl' hrl _ _ h
     ·exact h.elim
  ·cases hp
theorem run_prep : ∀ (c : Code) (p : PC) (s : S) (Q : Ex → S → Prop), prep c = some p → RunP Γ E C D p s Q → RunW Γ E C D c s Q := by
 intro c
 induction c with
 | skip => intro p s Q hp h; simp [prep] at hp; subst hp; exact h
 | region id ops draw =>
  intro p s Q hp h
  cases draw with
  | false =>
   simp only [prep] at hp
   obtain ⟨l, h1, rfl⟩ := Option.map_eq_some_iff.1 hp
   have := ops_prep (base := s.h.next) ops.toList 0 l (fun j => by simp) h1 _ _ h
   unfold RunW
   rw [List.range_eq_range']
   simpa using this
  | true => simp only [prep] at hp; injection hp with hp; subst hp; exact h
 | seq a b iha ihb =>
  intro p s Q hp h
  simp only [prep] at hp
  split at hp
  ·rename_i pa pb h1 h2
   injection hp with hp; subst hp
   unfold RunP at h
   unfold RunW
   refine RunW.mono (fun _ _ _ _ _ hh => hh) (fun _ _ _ hh => hh) ?_ (iha pa s _ h1 h)
   intro x s' hx
   cases x with
   | norm => exact ihb pb s' Q h2 hx
   | exit i => exact hx
   | ret => exact hx
  ·cases hp
 | cond c a b iha ihb =>
  intro p s Q hp h
  simp only [prep] at hp
  split at hp
  ·rename_i pa pb h1 h2
   injection hp with hp; subst hp
   unfold RunP at h
   unfold RunW
   split at h
   ·rename_i hc; simp only [hc]; exact iha pa s Q h1 h
   ·rename_i hc; simp only [hc]; exact ihb pb s Q h2 h
   ·exact h.elim
  ·cases hp
 | block id b ihb =>
  intro p s Q hp h
  simp only [prep] at hp
  obtain ⟨pb, h1, rfl⟩ := Option.map_eq_some_iff.1 hp
  unfold RunP at h
  unfold RunW
  exact ihb pb s _ h1 h
 | loop b ihb =>
  intro p s Q hp h
  simp only [prep] at hp
  obtain ⟨pb, h1, rfl⟩ := Option.map_eq_some_iff.1 hp
  obtain ⟨n, x, s', h2, h3⟩ := h
  exact ⟨n, x, s', LoopR.mono (fun s x s' hh => ihb pb s _ h1 hh) h2, h3⟩
 | exit id => intro p s Q hp h; simp only [prep] at hp; injection hp with hp; subst hp; exact h
 | ret => intro p s Q hp h; simp only [prep] at hp; injection hp with hp; subst hp; exact h
 | _ => intro p s Q hp h; cases hp
theorem RunP.mono {p : PC} {s : S} : ∀ {Q Q' : Ex → S → Prop}, (∀ x s, Q x s → Q' x s) → RunP Γ E C D p s Q → RunP Γ E C D p s Q' := by
 have ops : ∀ {base : Nat} (l : List POp) (i : Nat) (s : S) (Q Q' : S → Prop), (∀ s, Q s → Q' s) → OpsP Γ E C base i l s Q → OpsP Γ E C base i l s Q' := by
  intro base l
  induction l with
  | nil => intro i s Q Q' hq h; exact hq _ h
  | cons o l ih =>
   intro i s Q Q' hq h
   unfold OpsP at h ⊢
   split at h
   ·exact h.elim
   ·rename_i hw; (try simp only [hw]); exact ih _ _ _ _ hq h
   ·rename_i hw
    (try simp only [hw])
    split at h
    ·rename_i hc; obtain ⟨v, h', h1, h2⟩ := h; (try simp only [hc]); exact ⟨v, h', h1, ih _ _ _ _ hq h2⟩
    ·rename_i hc
     (try simp only [hc])
     split at h
     ·rename_i hv; (try simp only [hv]); exact ih _ _ _ _ hq h
     ·exact h.elim
 induction p generalizing s with
 | skip => intro Q Q' hq h; exact hq _ _ h
 | ops n l => intro Q Q' hq h; exact ops _ _ _ _ _ (fun s => hq _ s) h
 | draw o => intro Q Q' hq h; obtain ⟨s', h1, h2⟩ := h; exact ⟨s', h1, hq _ _ h2⟩
 | seq a b iha ihb =>
  intro Q Q' hq h
  refine iha (fun x s' hx => ?_) h
  cases x with
  | norm => exact ihb hq hx
  | exit i => exact hq _ _ hx
  | ret => exact hq _ _ hx
 | cond c a b iha ihb =>
  intro Q Q' hq h
  unfold RunP at h ⊢
  split at h
  ·rename_i hc; (try simp only [hc]); exact iha hq h
  ·rename_i hc; (try simp only [hc]); exact ihb hq h
  ·exact h.elim
 | block id b ihb =>
  intro Q Q' hq h
  refine ihb (fun x s' hx => ?_) h
  cases x with
  | norm => exact hq _ _ hx
  | exit i =>
   simp only at hx ⊢
   split
   ·rename_i hi; rw [if_pos hi] at hx; exact hq _ _ hx
   ·rename_i hi; rw [if_neg hi] at hx; exact hq _ _ hx
  | ret => exact hq _ _ hx
 | loop b ihb => intro Q Q' hq h; obtain ⟨n, x, s', h1, h2⟩ := h; exact ⟨n, x, s', h1, hq _ _ h2⟩
 | exit id => intro Q Q' hq h; exact hq _ _ h
 | ret => intro Q Q' hq h; exact hq _ _ h
theorem RunP.out {p : PC} {s : S} {Q : Ex → S → Prop} (h : RunP Γ E C D p s Q) : ∃ x s', RunP Γ E C D p s (fun y t => y = x ∧ t = s') ∧ Q x s' := by
 have ops : ∀ {base : Nat} (l : List POp) (i : Nat) (s : S) (Q : S → Prop), OpsP Γ E C base i l s Q → ∃ s', OpsP Γ E C base i l s (fun t => t = s') ∧ Q s' := by
  intro base l
  induction l with
  | nil => intro i s Q h; exact ⟨s, rfl, h⟩
  | cons o l ih =>
   intro i s Q h
   unfold OpsP at h
   split at h
   ·exact h.elim
   ·rename_i hw; obtain ⟨s', h1, h2⟩ := ih _ _ _ h; exact ⟨s', by unfold OpsP; simp only [hw]; exact h1, h2⟩
   ·rename_i hw
    split at h
    ·rename_i hc
     obtain ⟨v, h', h1, h2⟩ := h
     obtain ⟨s', h3, h4⟩ := ih _ _ _ h2
     exact ⟨s', by unfold OpsP; simp only [hw, hc]; exact ⟨v, h', h1, h3⟩, h4⟩
    ·rename_i hc
     split at h
     ·rename_i hv
      obtain ⟨s', h3, h4⟩ := ih _ _ _ h
      exact ⟨s', by unfold OpsP; simp only [hw, hc, hv]; exact h3, h4⟩
     ·exact h.elim
 induction p generalizing s Q with
 | skip => exact ⟨_, _, ⟨rfl, rfl⟩, h⟩
 | ops n l =>
  obtain ⟨s', h1, h2⟩ := ops _ _ _ _ h
  exact ⟨.norm, s', RunP.mono (p := .ops n l) (fun x t ht => ht) (show RunP Γ E C D (.ops n l) s _ from by
   unfold RunP
   have : (fun t => t = s') = (fun t => Ex.norm = Ex.norm ∧ t = s') := by funext t; simp
   rw [this] at h1
   exact h1), h2⟩
 | draw o => obtain ⟨s', h1, h2⟩ := h; exact ⟨.norm, s', ⟨s', h1, rfl, rfl⟩, h2⟩
 | seq a b iha ihb =>
  obtain ⟨x, s1, h1, h2⟩ := iha h
  cases x with
  | norm =>
   obtain ⟨y, s2, h3, h4⟩ := ihb h2
   exact ⟨y, s2, RunP.mono (p := a) (fun y t ht => by obtain ⟨rfl, rfl⟩ := ht; exact h3) h1, h4⟩
  | exit i => exact ⟨.exit i, s1, RunP.mono (p := a) (fun y t ht => by obtain ⟨rfl, rfl⟩ := ht; exact ⟨rfl, rfl⟩) h1, h2⟩
  | ret => exact ⟨.ret, s1, RunP.mono (p := a) (fun y t ht => by obtain ⟨rfl, rfl⟩ := ht; exact ⟨rfl, rfl⟩) h1, h2⟩
 | cond c a b iha ihb =>
  unfold RunP at h
  split at h
  ·rename_i hc; obtain ⟨x, s', h1, h2⟩ := iha h; exact ⟨x, s', by unfold RunP; simp only [hc]; exact h1, h2⟩
  ·rename_i hc; obtain ⟨x, s', h1, h2⟩ := ihb h; exact ⟨x, s', by unfold RunP; simp only [hc]; exact h1, h2⟩
  ·exact h.elim
 | block id b ihb =>
  obtain ⟨x, s1, h1, h2⟩ := ihb h
  cases x with
  | norm => exact ⟨.norm, s1, RunP.mono (p := b) (fun y t ht => by obtain ⟨rfl, rfl⟩ := ht; exact ⟨rfl, rfl⟩) h1, h2⟩
  | exit i =>
   simp only at h2
   split at h2
   ·rename_i hi
    exact ⟨.norm, s1, RunP.mono (p := b) (fun y t ht => by obtain ⟨rfl, rfl⟩ := ht; simp [hi]) h1, h2⟩
   ·rename_i hi
    exact ⟨.exit i, s1, RunP.mono (p := b) (fun y t ht => by obtain ⟨rfl, rfl⟩ := ht; simp [hi]) h1, h2⟩
  | ret => exact ⟨.ret, s1, RunP.mono (p := b) (fun y t ht => by obtain ⟨rfl, rfl⟩ := ht; exact ⟨rfl, rfl⟩) h1, h2⟩
 | loop b ihb => obtain ⟨n, x, s', h1, h2⟩ := h; exact ⟨x, s', ⟨n, x, s', h1, rfl, rfl⟩, h2⟩
 | exit id => exact ⟨_, _, ⟨rfl, rfl⟩, h⟩
 | ret => exact ⟨_, _, ⟨rfl, rfl⟩, h⟩
theorem RunP.again {b : PC} {s : S} {Q : Ex → S → Prop} (h : RunP Γ E C D b s fun x s' => match x with | .norm => RunP Γ E C D (.loop b) s' Q | x => Q x s') : RunP Γ E C D (.loop b) s Q := by
 obtain ⟨x, s1, h1, h2⟩ := RunP.out h
 cases x with
 | norm =>
  obtain ⟨n, y, s', h3, h4⟩ := h2
  exact ⟨n + 1, y, s', .inr ⟨s1, h1, h3⟩, h4⟩
 | exit i => exact ⟨1, _, s1, .inl ⟨h1, by simp⟩, h2⟩
 | ret => exact ⟨1, _, s1, .inl ⟨h1, by simp⟩, h2⟩
end
inductive Fr where
 | then_ (c : PC)
 | blk (id : Nat)
 | round (R : S → Prop)
section
variable (Γ : TypeId → Option TI) (E : TypeId → Nat) (C : Rel) (D : DrawR)
def Done (Q : Ex → S → Prop) : List Fr → Ex → S → Prop
 | [], x, s => Q x s
 | .then_ c :: k, .norm, s => RunP Γ E C D c s (Done Q k)
 | .then_ _ :: k, x, s => Done Q k x s
 | .blk id :: k, .exit i, s => if i = id then Done Q k .norm s else Done Q k (.exit i) s
 | .blk _ :: k, x, s => Done Q k x s
 | .round R :: _, .norm, s => R s
 | .round _ :: k, x, s => Done Q k x s
def Go (Q : Ex → S → Prop) (c : PC) (k : List Fr) (s : S) : Prop := RunP Γ E C D c s (Done Γ E C D Q k)
def OpG (Q : Ex → S → Prop) (base i : Nat) (l : List POp) (k : List Fr) (s : S) : Prop := OpsP Γ E C base i l s (fun s' => Done Γ E C D Q k .norm s')
def OpN (Q : Ex → S → Prop) (base i : Nat) (l : List POp) (k : List Fr) (s : S) (d : Option Nat) : Option (Value × Hp) → Prop
 | some (v, h') => OpG Γ E C D Q base i l k ((s.hp h').put d v)
 | none => False
end
section
variable {Γ : TypeId → Option TI} {E : TypeId → Nat} {C : Rel} {D : DrawR} {Q : Ex → S → Prop} {k : List Fr} {s : S}
theorem done_nil {x : Ex} : Done Γ E C D Q [] x s = Q x s := by cases x <;> rfl
variable {base i : Nat} {l : List POp} {d : Option Nat}
theorem op_cons {op : Op} (h : calleeV s op = none) : OpG Γ E C D Q base i (⟨d, none, op⟩ :: l) k s = OpN Γ E C D Q base (i + 1) l k s d (opV Γ E (base + i) s.ev op s.h) := by
 unfold OpG
 rw [OpsP]
 simp only [gdV, h]
 cases opV Γ E (base + i) s.ev op s.h <;> rfl
end
end Go.Proofs.YtonpnjfclelpiaaGreatM
