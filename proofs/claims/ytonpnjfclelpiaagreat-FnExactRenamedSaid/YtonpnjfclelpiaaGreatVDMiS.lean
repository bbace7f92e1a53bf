import Derived.Test.YtonpnjfclelpiaaGreatVDMiW
namespace Go.Proofs.YtonpnjfclelpiaaGreatM
open Go
set_option linter.unusedVariables false
set_option linter.unusedSimpArgs false
def okOp (n : Nat) : Operand → Bool
 | .tmp t => decide (t < n)
 | .const v => plainV v
 | .func _ => true
 | .global _ => false
def operOk (n : Nat) (o : Oper) : Bool := o.op.operands.all (okOp n) && (match o.dst with | some d => decide (d < n) | none => true)
def codeOk (n : Nat) : Code → Bool
 | .region _ ops _ => ops.all (operOk n)
 | .seq a b => codeOk n a && codeOk n b
 | .cond c a b => okOp n c && codeOk n a && codeOk n b
 | .block _ b => codeOk n b
 | .loop b => codeOk n b
 | _ => true
def SR (n : Nat) (π : Nat → Option Pl) (s : S) (a : Act) : Prop := a.defers = [] ∧ a.tmps.size = n ∧ ∀ i, i < n → VR π (s.t i) (a.tmps.getD i undef)
section
variable {P : Program} {Γ : TypeId → Option TI} {E : TypeId → Nat} {G : Nat} {I : World → Prop} {π π' : Nat → Option Pl} {n : Nat} {s : S} {a : Act} {w : World}
theorem SR.mono (r : SR n π s a) (h : Le π π') : SR n π' s a := ⟨r.1, r.2.1, fun i hi => (r.2.2 i hi).mono h⟩
theorem SR.ev (r : SR n π s a) {x : Operand} (h : okOp n x = true) : VR π (s.ev x) (a.eval x) := by
 cases x with
 | tmp t => exact r.2.2 t (by simpa [okOp] using h)
 | const v => exact (plainV_self h).a.f.v
 | func f => exact show VRf π (.func (.func f) #[] #[]) _ from ⟨#[], #[], rfl, trivial, trivial⟩
 | global g => cases h
theorem SR.put (r : SR n π s a) {d : Option Tmp} {v v' : Value} (hv : VR π v v') (hd : (match d with | some d => decide (d < n) | none => true) = true) : SR n π (s.put d v) (a.put d v') := by
 cases d with
 | none => exact r
 | some d =>
  have hd' : d < n := by simpa using hd
  refine ⟨r.1, by simp [Act.put, r.2.1], fun i hi => ?_⟩
  simp only [S.put, upd, Act.put]
  by_cases h : i = d
  ·subst h
   rw [if_pos rfl]
   have : i < a.tmps.size := by rw [r.2.1]; exact hd'
   simp [Array.getD, this]; exact hv
  ·rw [if_neg h]
   have := r.2.2 i hi
   simpa [Array.getElem?_setIfInBounds, Ne.symm h] using this
theorem SR.hp (r : SR n π s a) (h : Hp) : SR n π (s.hp h) a := r
def Sim (P : Program) (G : Nat) (I : World → Prop) : Rel := fun f args h v h' =>
 (∃ fn, P.funcs[f]? = some fn ∧ (fn.name == "runtime.NumGoroutine") = false ∧ fn.body.isNone = false) ∧
 ∀ π w (args' : Array Value), Rep G I π h w → All2 (VR π) args args'.toList →
  Calls P f args' w fun e w' => ∃ v' π', e = .returned v' ∧ VR π' v v' ∧ Step G I (fun _ => False) π h w π' h' w'
theorem want_ok (r : SR n π s a) {ops : Array Oper} {o : Oper} {b : Bool} (h : wantB ops s o = some b) (hops : ∀ o ∈ ops, operOk n o = true) : Region.wanted o (yielded ops a.tmps) = b := by
 unfold wantB at h
 unfold Region.wanted
 split at h
 ·rename_i hg; injection h with h; subst h; simp [hg]
 ·rename_i j want hg
  simp only [hg]
  split at h
  ·rename_i d hd
   split at h
   ·rename_i b0 hb
    injection h with h; subst h
    have hdn : d < n := by
     cases hj : ops[j]? with
     | none => rw [hj] at hd; cases hd
     | some oj =>
      rw [hj] at hd
      have h1 := hops oj (Array.mem_of_getElem? hj)
      unfold operOk at h1
      simp only [Option.bind_some] at hd
      rw [hd] at h1
      simp at h1
      exact h1.2
    have h2 := r.2.2 d hdn
    rw [hb] at h2
    have h3 : a.tmps.getD d undef = .bool b0 := h2
    have hlt : d < a.tmps.size := by rw [r.2.1]; exact hdn
    have h4 : a.tmps[d]? = some (.bool b0) := by
     rw [Array.getElem?_eq_getElem hlt]
     simp [Array.getD, hlt] at h3
     rw [h3]
    unfold yielded
    rw [hd]
    simp [h4]
   ·rename_i hb
    injection h with h; subst h
    have hdn : d < n := by
     cases hj : ops[j]? with
     | none => rw [hj] at hd; cases hd
     | some oj =>
      rw [hj] at hd
      have h1 := hops oj (Array.mem_of_getElem? hj)
      unfold operOk at h1
      simp only [Option.bind_some] at hd
      rw [hd] at h1
      simp at h1
      exact h1.2
    have h2 := r.2.2 d hdn
    rw [hb] at h2
    obtain ⟨vs, h3, _⟩ := h2
    have hlt : d < a.tmps.size := by rw [r.2.1]; exact hdn
    have h4 : a.tmps[d]? = some (.tuple vs) := by
     rw [Array.getElem?_eq_getElem hlt]
     simp [Array.getD, hlt] at h3
     rw [h3]
    unfold yielded
    rw [hd]
    simp [h4]
   ·cases h
  ·cases h
theorem callee_ok {o : Oper} {g : FuncId} {args : List Value} (h : calleeV s o.op = some (g, args)) (hρ : ∀ x ∈ o.op.operands, VR π (s.ev x) (a.eval x))
  (hg : ∃ fn, P.funcs[g]? = some fn ∧ (fn.name == "runtime.NumGoroutine") = false ∧ fn.body.isNone = false) :
  ∃ args' : Array Value, All2 (VR π) args args'.toList ∧ ∀ w, (execOp a.eval o).run P w = .ok (.enter g args') w := by
 obtain ⟨fn, h1, h2, h3⟩ := hg
 unfold calleeV at h
 split at h
 ·rename_i f as ts heq
  rw [heq] at hρ
  split at h
  ·rename_i g0 first captured hf
   injection h with h; injection h with e1 e2; subst e1; subst e2
   have hvf := hρ f (by simp [Op.operands, Call.operands])
   rw [hf] at hvf
   obtain ⟨a', b', hf', k1, k2⟩ : VRf π (.func (.func g0) first captured) (a.eval f) := hvf
   have k3 : All2 (VR π) (as.toList.map s.ev) (as.map a.eval).toList := by
    rw [Array.toList_map]
    apply All2.of (by simp)
    intro i x y hx hy
    rw [List.getElem?_map] at hx hy
    cases hl : as.toList[i]? with
    | none => rw [hl] at hx; cases hx
    | some z =>
     rw [hl] at hx hy
     injection hx with hx; injection hy with hy
     subst hx; subst hy
     have hm : z ∈ as.toList := List.mem_of_getElem? hl
     exact hρ z (by simp [Op.operands, Call.operands]; exact .inr (by simpa using hm))
   refine ⟨a' ++ as.map a.eval ++ b', ?_, fun w => ?_⟩
   ·simp only [Array.toList_append]
    exact ((k1.mono fun _ _ h => h.f.v).append k3).append (k2.mono fun _ _ h => h.f.v)
   ·simp only [execOp, heq, resolve, hf', Deferred.ofValue, Sem.run_bind, Sem.run_pure, Result.andThen_ok, invoke, callFunc, run_program, h1, h2, h3, Bool.false_eq_true, if_false, Array.append_assoc]
  ·cases h
 ·cases h
def Post (n : Nat) (G : Nat) (I : World → Prop) (N : Nat → Prop) (π : Nat → Option Pl) (h : Hp) (w : World) (Q : S → Prop) : Exit → Act → World → Prop := fun e a' w' =>
 e = .normal ∧ ∃ s' π', Q s' ∧ SR n π' s' a' ∧ Step G I N π h w π' s'.h w'
theorem ops_sound (hI : Low G I) (K : Know P Γ E) {ops : Array Oper} {base : Nat} (hops : ∀ o ∈ ops, operOk n o = true) {Q : S → Prop} {π0 : Nat → Option Pl} {h0 : Hp} {w0 : World} (hb : h0.next = base) :
  ∀ (l : List Nat) (s : S) (a : Act) (w : World) (π : Nat → Option Pl),
  OpsW Γ E (Sim P G I) ops base l s Q → SR n π s a → Step G I (fun k => base ≤ k) π0 h0 w0 π s.h w → (∀ i ∈ l, π (base + i) = none) → l.Nodup → (∀ i ∈ l, base + i < s.h.next) →
  wpOps P ops (Post n G I (fun k => base ≤ k) π0 h0 w0 Q) l a w
 | [], s, a, w, π, h, hs, hr, _, _, _ => ⟨rfl, s, π, h, hs, hr⟩
 | i :: l, s, a, w, π, h, hs, hr0, hf, hnd, hlt => by
  have hr := hr0.rep
  unfold OpsW at h
  unfold wpOps
  cases ho : ops[i]? with
  | none => rw [ho] at h; exact h.elim
  | some o =>
   rw [ho] at h
   simp only at h ⊢
   have hok : operOk n o = true := hops o (Array.mem_of_getElem? ho)
   have hdst : (match o.dst with | some d => decide (d < n) | none => true) = true := by
    unfold operOk at hok; simp only [Bool.and_eq_true] at hok; exact hok.2
   have hnd' := List.nodup_cons.1 hnd
   have hne : ∀ j ∈ l, base + j ≠ base + i := fun j hj x => hnd'.1 ((show j = i by omega) ▸ hj)
   -- going on from a later state
   have go : ∀ (s1 : S) (a1 : Act) (w1 : World) (π1 : Nat → Option Pl), OpsW Γ E (Sim P G I) ops base l s1 Q → SR n π1 s1 a1 → Step G I (fun k => k = base + i) π s.h w π1 s1.h w1 →
     wpOps P ops (Post n G I (fun k => base ≤ k) π0 h0 w0 Q) l a1 w1 := by
    intro s1 a1 w1 π1 k1 k2 k3
    refine ops_sound hI K hops hb l s1 a1 w1 π1 k1 k2 ((hr0.trans k3).wk fun k _ hk => hk.elim id (fun x => by omega)) (fun j hj => ?_) hnd'.2 (fun j hj => Nat.lt_of_lt_of_le (hlt j (List.mem_cons_of_mem _ hj)) k3.nx)
    rw [k3.same _ (hlt j (List.mem_cons_of_mem _ hj)) (hne j hj)]
    exact hf j (List.mem_cons_of_mem _ hj)
   cases hw : wantB ops s o with
   | none => rw [hw] at h; exact h.elim
   | some bb =>
    rw [hw] at h
    rw [want_ok hs hw hops]
    cases bb with
    | false =>
     simp only [Bool.false_eq_true, if_false]
     exact go _ _ _ π h (hs.put vundef hdst) (by cases o.dst <;> exact Step.refl hr)
    | true =>
     simp only [if_true]
     refine .inl ?_
     simp only at h
     cases hc : calleeV s o.op with
     | some ga =>
      obtain ⟨g, args⟩ := ga
      rw [hc] at h
      obtain ⟨v, h', ⟨hg, hsim⟩, h2⟩ := h
      have hall := Array.all_eq_true_iff_forall_mem.1 (by unfold operOk at hok; simp only [Bool.and_eq_true] at hok; exact hok.1)
      obtain ⟨args', k1, k2⟩ := callee_ok (P := P) hc (fun x hx => hs.ev (hall x hx)) hg
      unfold Oper.wp
      rw [k2, Oper.upon_enter]
      refine (hsim π w args' hr k1).mono ?_
      rintro e w' ⟨v', π1, rfl, q1, q2⟩
      refine go _ _ _ π1 h2 (((hs.mono q2.le).hp h').put q1 hdst) ?_
      have : ((s.hp h').put o.dst v).h = h' := by cases o.dst <;> rfl
      rw [this]
      exact q2.wk fun _ _ x => x.elim
     | none =>
      rw [hc] at h
      simp only at h
      cases hv : opV Γ E (base + i) s.ev o.op s.h with
      | none => rw [hv] at h; exact h.elim
      | some vh =>
       obtain ⟨v, h'⟩ := vh
       rw [hv] at h
       have hall := Array.all_eq_true_iff_forall_mem.1 (by unfold operOk at hok; simp only [Bool.and_eq_true] at hok; exact hok.1)
       obtain ⟨v', w', π1, q1, q2, q3⟩ := opV_sound (P := P) hI K hr hv (fun x hx => hs.ev (hall x hx)) (hf i (List.mem_cons_self)) (hlt i (List.mem_cons_self))
       have e1 : ((s.hp h').put o.dst v).h = h' := by cases o.dst <;> rfl
       have q4 : wpOps P ops (Post n G I (fun k => base ≤ k) π0 h0 w0 Q) l (a.put o.dst v') w' := go _ _ _ π1 h (((hs.mono q3.le).hp h').put q2 hdst) (by rw [e1]; exact q3)
       unfold Oper.wp
       rcases q1 with q1 | ⟨q1, rfl⟩
       ·rw [q1, Oper.upon_value]; exact q4
       ·rw [q1, Oper.upon_skip]; exact q4
theorem wp_loop_nat {Q : Exit → Act → World → Prop} {c : Code} (J : Nat → Act → World → Prop) {m : Nat} (h₀ : J m a w)
  (round : ∀ m a w, J m a w → c.wp P (Exit.then (fun a' w' => ∃ k, k < m ∧ J k a' w') Q) a w) : (Code.loop c).wp P Q a w := by
 intro b k cs
 have key : ∀ m a w, J m a w → ∃ e a' w', Q e a' w' ∧ Arrives P (lone (b.at a (.code c :: .inLoop c :: k)) cs w) b k cs e a' w' := by
  intro m
  induction m using Nat.strongRecOn with
  | _ m ih =>
   intro a w hJ
   obtain ⟨e, a₁, w₁, hq, harr⟩ := round m a w hJ b (.inLoop c :: k) cs
   cases e with
   | normal =>
    obtain ⟨k', hlt, hJ₁⟩ := hq
    obtain ⟨e₂, a₂, w₂, hq₂, harr₂⟩ := ih k' hlt a₁ w₁ hJ₁
    exact ⟨e₂, a₂, w₂, hq₂, .of_steps (Steps.trans harr (.one step_inLoop)) harr₂⟩
   | exit id => exact ⟨_, a₁, w₁, hq, .pass (x := .inLoop c) rfl (fun _ _ => .inl (by simp)) harr⟩
   | goto l => exact ⟨_, a₁, w₁, hq, .pass (x := .inLoop c) rfl (fun _ _ => .inl (by simp)) harr⟩
   | ret => exact ⟨_, a₁, w₁, hq, .pass (x := .inLoop c) rfl (fun _ _ => .inl (by simp)) harr⟩
   | panic ch => exact ⟨_, a₁, w₁, hq, .pass (x := .inLoop c) rfl (fun _ _ => .inl (by simp)) harr⟩
   | outgrown => exact ⟨_, a₁, w₁, hq, .pass (x := .inLoop c) rfl (fun _ _ => .inl (by simp)) harr⟩
 obtain ⟨e, a', w', hq, harr⟩ := key m a w h₀
 exact ⟨e, a', w', hq, .of_steps (.one step_loop) harr⟩
def Ex.to : Ex → Exit
 | .norm => .normal
 | .exit i => .exit i
 | .ret => .ret
def PostX (n : Nat) (G : Nat) (I : World → Prop) (π : Nat → Option Pl) (h : Hp) (w : World) (Q : Ex → S → Prop) : Exit → Act → World → Prop := fun e a' w' =>
 ∃ x s' π', e = x.to ∧ Q x s' ∧ SR n π' s' a' ∧ Step G I (fun _ => False) π h w π' s'.h w'
def DSound (P : Program) (G : Nat) (I : World → Prop) (n : Nat) (D : DrawR) : Prop := ∀ (ops : Array Oper) (s s' : S), D ops s s' → ∀ (id : Nat) (a : Act) (w : World) (π : Nat → Option Pl), (∀ o ∈ ops, operOk n o = true) → SR n π s a → Rep G I π s.h w →
 (Code.region id ops true).wp P (fun e a' w' => e = .normal ∧ ∃ π', SR n π' s' a' ∧ Step G I (fun _ => False) π s.h w π' s'.h w') a w
theorem Rep.to {h : Hp} (r : Rep G I π h w) {m : Nat} (hm : h.next ≤ m) : Rep G I π (h.to m) w :=
 ⟨fun n p hp => ⟨Nat.lt_of_lt_of_le (r.dom n p hp).1 hm, (r.dom n p hp).2⟩, r.pl, r.uniq, r.big, r.rwG, r.inv⟩
theorem Step.to {h : Hp} (r : Rep G I π h w) {m : Nat} (hm : h.next ≤ m) (N : Nat → Prop) : Step G I N π h w π (h.to m) w :=
 ⟨r.to hm, fun _ _ _ => rfl, Le.refl _, Nat.le_refl _, fun _ _ _ => rfl, fun m b q hb hq => .inr ⟨m, b, q, hb, rfl, hq, rfl⟩, hm⟩
theorem run_sound (hI : Low G I) (K : Know P Γ E) {D : DrawR} (hD : DSound P G I n D) : ∀ (c : Code) (s : S) (Q : Ex → S → Prop) (a : Act) (w : World) (π : Nat → Option Pl), RunW Γ E (Sim P G I) D c s Q → codeOk n c = true → SR n π s a → Rep G I π s.h w →
  c.wp P (PostX n G I π s.h w Q) a w := by
 intro c
 induction c with
 | skip => intro s Q a w π h _ hs hr; exact wp_skip ⟨.norm, s, π, rfl, h, hs, Step.refl hr⟩
 | region id ops draw =>
  intro s Q a w π h hc hs hr
  have hops : ∀ o ∈ ops, operOk n o = true := Array.all_eq_true_iff_forall_mem.1 hc
  cases draw with
  | false =>
   have h1 : OpsW Γ E (Sim P G I) ops s.h.next (List.range ops.size) (s.hp (s.h.to (s.h.next + ops.size))) (fun s' => Q .norm s') := h
   have h2 := ops_sound (n := n) hI K hops (h0 := s.h) rfl (List.range ops.size) _ a w π h1 (hs.hp _) (Step.to hr (Nat.le_add_right _ _) (fun k => s.h.next ≤ k))
    (fun i _ => by
     cases hp : π (s.h.next + i) with
     | none => rfl
     | some p => have := (hr.dom _ p hp).1; omega) List.nodup_range (fun i hi => by
      show s.h.next + i < s.h.next + ops.size
      have := List.mem_range.1 hi; omega)
   refine wp_mono (wp_region h2) ?_
   rintro e a' w' ⟨rfl, s', π', q1, q2, q3⟩
   exact ⟨.norm, s', π', rfl, q1, q2, q3.wk fun k hk hh => by omega⟩
  | true =>
   obtain ⟨s', h1, h2⟩ := h
   refine wp_mono (hD ops s s' h1 id a w π hops hs hr) ?_
   rintro e a' w' ⟨rfl, π', q1, q2⟩
   exact ⟨.norm, s', π', rfl, h2, q1, q2⟩
 | seq x y ihx ihy =>
  intro s Q a w π h hc hs hr
  simp only [codeOk, Bool.and_eq_true] at hc
  refine wp_seq (wp_mono (ihx s _ a w π h hc.1 hs hr) ?_)
  rintro e a1 w1 ⟨z, s1, π1, rfl, q1, q2, q3⟩
  cases z with
  | norm =>
   refine wp_mono (ihy s1 Q a1 w1 π1 q1 hc.2 q2 q3.rep) ?_
   rintro e a2 w2 ⟨z2, s2, π2, rfl, q4, q5, q6⟩
   exact ⟨z2, s2, π2, rfl, q4, q5, (q3.trans q6).wk fun _ _ hh => hh.elim id id⟩
  | exit i => exact ⟨.exit i, s1, π1, rfl, q1, q2, q3⟩
  | ret => exact ⟨.ret, s1, π1, rfl, q1, q2, q3⟩
 | cond c x y ihx ihy =>
  intro s Q a w π h hc hs hr
  simp only [codeOk, Bool.and_eq_true] at hc
  have hv := hs.ev hc.1.1
  unfold RunW at h
  cases hcv : s.ev c with
  | bool bb =>
   rw [hcv] at h hv
   have hav : a.eval c = .bool bb := hv
   cases bb with
   | true => exact wp_cond hav (ihx s Q a w π h hc.1.2 hs hr)
   | false => exact wp_cond hav (ihy s Q a w π h hc.2 hs hr)
  | _ => rw [hcv] at h; exact h.elim
 | block id b ihb =>
  intro s Q a w π h hc hs hr
  refine wp_block (wp_mono (ihb s _ a w π h hc hs hr) ?_)
  rintro e a1 w1 ⟨z, s1, π1, rfl, q1, q2, q3⟩
  cases z with
  | norm => exact ⟨.norm, s1, π1, rfl, q1, q2, q3⟩
  | exit i =>
   simp only [Ex.to, Exit.inBlock]
   by_cases hi : i = id
   ·rw [if_pos hi]; simp only [if_pos hi] at q1; exact ⟨.norm, s1, π1, rfl, q1, q2, q3⟩
   ·rw [if_neg hi]; simp only [if_neg hi] at q1; exact ⟨.exit i, s1, π1, rfl, q1, q2, q3⟩
  | ret => exact ⟨.ret, s1, π1, rfl, q1, q2, q3⟩
 | loop b ihb =>
  intro s Q a w π h hc hs hr
  obtain ⟨m, x, s', h1, h2⟩ := h
  refine wp_loop_nat (fun m a1 w1 => ∃ s1 π1, LoopR (fun s x s' => RunW Γ E (Sim P G I) D b s fun y t => y = x ∧ t = s') m s1 x s' ∧ SR n π1 s1 a1 ∧ Step G I (fun _ => False) π s.h w π1 s1.h w1) (m := m) ⟨s, π, h1, hs, Step.refl hr⟩ ?_
  rintro m a1 w1 ⟨s1, π1, q1, q2, q3⟩
  cases m with
  | zero => exact q1.elim
  | succ m =>
   rcases q1 with ⟨k1, k2⟩ | ⟨s2, k1, k2⟩
   ·refine wp_mono (ihb s1 _ a1 w1 π1 k1 hc q2 q3.rep) ?_
    rintro e a2 w2 ⟨z, s2, π2, rfl, ⟨rfl, rfl⟩, q5, q6⟩
    have q7 := (q3.trans q6).wk (N' := fun _ => False) fun _ _ hh => hh.elim id id
    cases z with
    | norm => exact absurd rfl k2
    | exit i => exact ⟨.exit i, s2, π2, rfl, h2, q5, q7⟩
    | ret => exact ⟨.ret, s2, π2, rfl, h2, q5, q7⟩
   ·refine wp_mono (ihb s1 _ a1 w1 π1 k1 hc q2 q3.rep) ?_
    rintro e a2 w2 ⟨z, s3, π2, rfl, ⟨rfl, rfl⟩, q5, q6⟩
    exact ⟨m, Nat.lt_succ_self m, s3, π2, k2, q5, (q3.trans q6).wk fun _ _ hh => hh.elim id id⟩
 | exit id => intro s Q a w π h _ hs hr; exact wp_exit ⟨.exit id, s, π, rfl, h, hs, Step.refl hr⟩
 | ret => intro s Q a w π h _ hs hr; exact wp_ret ⟨.ret, s, π, rfl, h, hs, Step.refl hr⟩
 | _ => intro s Q a w π h; exact h.elim
end
end Go.Proofs.YtonpnjfclelpiaaGreatM
