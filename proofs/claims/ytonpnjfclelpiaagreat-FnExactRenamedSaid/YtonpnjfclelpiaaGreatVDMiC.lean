import Derived.Test.YtonpnjfclelpiaaGreatVDMiS
namespace Go.Proofs.YtonpnjfclelpiaaGreatM
open Go
set_option linter.unusedVariables false
set_option linter.unusedSimpArgs false
def isRes : Value → Bool
 | .tuple _ => false
 | _ => true
def resL (Γ : TypeId → Option TI) (s : S) : List ResultVar → Option (List Value)
 | [] => some []
 | .tmp t :: r => if isRes (s.t t) then (resL Γ s r).map fun l => s.t t :: l else none
 | .cell a t :: r => match ldv Γ t (s.t a) s.h with
  | some v => (resL Γ s r).map fun l => v :: l
  | none => none
def tupV : List Value → Value
 | [v] => v
 | l => .tuple l.toArray
def resOk (n : Nat) : List ResultVar → Bool
 | [] => true
 | .tmp t :: r => decide (t < n) && resOk n r
 | .cell t _ :: r => decide (t < n) && resOk n r
def scal1 : Value → Bool
 | .int _ _ | .bool _ | .string _ | .slice none 0 0 | .pointer none => true
 | _ => false
def scalA : Value → Bool
 | .agg cs => cs.toList.all scal1
 | v => scal1 v
def scal : Value → Bool
 | .tuple vs => vs.toList.all scalA
 | v => scalA v
def Tidy (h : Hp) (v : Value) (h0 h' : Hp) : Prop :=
 (h0.next ≤ h'.next ∧ ∀ n b, h'.blk n = some b → h0.blk n = some b) ∨ (scal v = true ∧ h' = h ∧ ∀ n b, n < h.next → h.blk n = some b → h0.blk n = some b)
def initS (args : List Value) (h : Hp) : S := ⟨fun i => args.getD i undef, h⟩
section
variable (Γ : TypeId → Option TI) (E : TypeId → Nat) (F : FuncId → Option Func) (X : Rel) (D : Rel → Nat → DrawR)
def Phi (C : Rel) : Rel := fun f args h v h' => X f args h v h' ∨ ∃ fn c, F f = some fn ∧ fn.body = some c ∧ args.length ≤ fn.ntmps ∧
 RunW Γ E C (D C fn.ntmps) c (initS args h) fun x s => (x = .norm ∨ x = .ret) ∧ ∃ vs, resL Γ s fn.results.toList = some vs ∧ v = tupV vs ∧ Tidy h v s.h h'
def Call : Rel := fun f args h v h' => ∀ C : Rel, (∀ f args h v h', Phi Γ E F X D C f args h v h' → C f args h v h') → C f args h v h'
def DMono : Prop := ∀ (C C' : Rel) (n : Nat), (∀ f a h v h', C f a h v h' → C' f a h v h') → ∀ o s s', D C n o s s' → D C' n o s s'
variable {Γ E F X D}
theorem Phi.mono (hD : DMono D) {C C' : Rel} (hC : ∀ f a h v h', C f a h v h' → C' f a h v h') {f : FuncId} {a : List Value} {h : Hp} {v : Value} {h' : Hp} (hp : Phi Γ E F X D C f a h v h') : Phi Γ E F X D C' f a h v h' := by
 rcases hp with hp | ⟨fn, c, h1, h2, h3, h4⟩
 ·exact .inl hp
 ·exact .inr ⟨fn, c, h1, h2, h3, RunW.mono hC (hD C C' _ hC) (fun _ _ hh => hh) h4⟩
theorem Call.closed (hD : DMono D) {f : FuncId} {a : List Value} {h : Hp} {v : Value} {h' : Hp} (hp : Phi Γ E F X D (Call Γ E F X D) f a h v h') : Call Γ E F X D f a h v h' :=
 fun C hC => hC _ _ _ _ _ (Phi.mono hD (fun _ _ _ _ _ hh => hh C hC) hp)
end
section
variable {P : Program} {Γ : TypeId → Option TI} {E : TypeId → Nat} {F : FuncId → Option Func} {X : Rel} {D : Rel → Nat → DrawR} {G : Nat} {I : World → Prop} {π π' : Nat → Option Pl} {n : Nat} {s : S} {a : Act} {h h0 h' : Hp} {w w' : World}
theorem VR1.back {v x v' : Value} (a : VR1 π v x) (b : VR1 π' v v') (hs : ∀ m p, π m = some p → π' m = π m) : VR1 π v v' := by
 unfold VR1 at a b ⊢
 split at a <;> simp only at b ⊢
 all_goals first
  | exact b
  | (obtain ⟨p, h1, h2⟩ := a
     obtain ⟨q, h3, h4⟩ := b
     rw [hs _ p h1] at h3
     exact ⟨q, h3, h4⟩)
  | (obtain ⟨p, a1, c1, h1, h2⟩ := a
     obtain ⟨q, a2, c2, h3, h4⟩ := b
     rw [hs _ p h1] at h3
     exact ⟨q, a2, c2, h3, h4⟩)
  | exact a.elim
theorem scal1_ok {v v' : Value} (hs : scal1 v = true) (hv : VR1 π' v v') : VR1 π v v' := by
 unfold scal1 at hs
 split at hs <;> first | exact hv | cases hs
theorem all2_scal {p : Value → Bool} {R S : Value → Value → Prop} (h : ∀ a b, p a = true → R a b → S a b) : ∀ {l m : List Value}, l.all p = true → All2 R l m → All2 S l m
 | [], [], _, _ => trivial
 | a :: l, b :: m, hl, hm => by
  simp only [List.all_cons, Bool.and_eq_true] at hl
  exact ⟨h a b hl.1 hm.1, all2_scal h hl.2 hm.2⟩
 | [], _ :: _, _, hm => hm.elim
 | _ :: _, [], _, hm => hm.elim
theorem scalA_ok {v v' : Value} (hs : scalA v = true) (hv : VRa π' v v') : VRa π v v' := by
 unfold scalA at hs
 split at hs
 ·obtain ⟨cs', h1, h2⟩ := hv
  exact ⟨cs', h1, all2_scal (fun _ _ => scal1_ok) hs h2⟩
 ·rename_i hno
  have h1 : VR1 π' v v' := by
   unfold VRa at hv
   split at hv
   ·exact absurd rfl (hno _)
   ·exact hv
  exact (scal1_ok hs h1).a
theorem scalA_f {v v' : Value} (hs : scalA v = true) (hv : VRf π' v v') : VRf π v v' := by
 have : VRa π' v v' := by
  unfold VRf at hv
  split at hv
  ·cases hs
  ·exact hv
 exact (scalA_ok hs this).f
theorem scal_ok {v v' : Value} (hs : scal v = true) (hv : VR π' v v') : VR π v v' := by
 unfold scal at hs
 split at hs
 ·obtain ⟨vs', h1, h2⟩ := hv
  exact ⟨vs', h1, all2_scal (fun _ _ => scalA_f) hs h2⟩
 ·rename_i hno
  have h1 : VRf π' v v' := by
   unfold VR at hv
   split at hv
   ·exact absurd rfl (hno _)
   ·exact hv
  exact (scalA_f hs h1).v
theorem tidy_sound {v v' : Value} (ht : Tidy h v h0 h') (hr : Rep G I π h w) (hv : VR π' v v') (st : Step G I (fun _ => False) π h w π' h0 w') :
  ∃ π'', VR π'' v v' ∧ Step G I (fun _ => False) π h w π'' h' w' := by
 rcases ht with ⟨h1, h2⟩ | ⟨h1, rfl, h2⟩
 ·refine ⟨π', hv, ⟨⟨fun m p hp => ⟨Nat.lt_of_lt_of_le (st.rep.dom m p hp).1 h1, (st.rep.dom m p hp).2⟩, fun m b hm => st.rep.pl m b (h2 m b hm), fun a m ba bm p q hne k1 k2 k3 k4 k5 => st.rep.uniq a m ba bm p q hne (h2 _ _ k1) k2 (h2 _ _ k3) k4 k5, st.rep.big,
   fun m b p k1 k2 k3 => st.rep.rwG m b p (h2 _ _ k1) k2 k3, st.rep.inv⟩, st.same, st.le, st.grow, st.keep, fun m b q k1 k2 => st.prov m b q (h2 _ _ k1) k2, Nat.le_trans st.nx h1⟩⟩
 ·refine ⟨π, scal_ok h1 hv, ⟨⟨fun m p hp => ⟨(hr.dom m p hp).1, trivial⟩, ?_, hr.uniq, Nat.le_trans hr.big st.grow, hr.rwG, st.rep.inv⟩, fun _ _ _ => rfl, Le.refl _, st.grow, st.keep, fun m b q k1 k2 => .inr ⟨m, b, q, k1, rfl, k2, rfl⟩, Nat.le_refl _⟩⟩
  intro m b hm
  obtain ⟨p, hp, k1, c, e, fr, k2, k3, k4⟩ := hr.pl m b hm
  obtain ⟨q, hq, s1, c2, e2, fr2, s2, s3, s4⟩ := st.rep.pl m b (h2 m b (hr.dom m p hp).1 hm)
  have hsm : ∀ x px, π x = some px → π' x = π x := fun x px hx => st.same x (hr.dom x px hx).1 id
  rw [hsm m p hp, hp] at hq
  injection hq with hq; subst hq
  refine ⟨p, hp, s1, c2, e2, fr2, s2, fun i v hi => ?_, s4⟩
  obtain ⟨x, _, hx⟩ := k3 i v hi
  obtain ⟨y, hy1, hy2⟩ := s3 i v hi
  exact ⟨y, hy1, hx.back hy2 hsm⟩
def resF (tmps : Array Value) : ResultVar → Sem Value
 | .tmp t => pure (tmps.getD t undef)
 | .cell a t => do loadVar t (← asAddr (tmps.getD a undef))
theorem results_eq (fn : Func) (tmps : Array Value) : results fn tmps = (do let vs ← fn.results.mapM (resF tmps); pure (if h : vs.size = 1 then vs[0] else .tuple vs)) := rfl
theorem res_sound (K : Know P Γ E) (r : Rep G I π s.h w) (hs : SR n π s a) : ∀ {l : List ResultVar} {vs : List Value}, resL Γ s l = some vs → resOk n l = true →
  ∃ vs', All2 (VRf π) vs vs' ∧ (l.mapM (resF a.tmps)).run P w = .ok vs' w
 | [], vs, h, _ => by
  injection h with h; subst h
  exact ⟨[], trivial, rfl⟩
 | .tmp t :: r', vs, h, ho => by
  simp only [resOk, Bool.and_eq_true, decide_eq_true_eq] at ho
  unfold resL at h
  split at h
  ·rename_i hres
   cases hl : resL Γ s r' with
   | none => rw [hl] at h; cases h
   | some l =>
    rw [hl] at h
    injection h with h; subst h
    obtain ⟨vs', h1, h2⟩ := res_sound K r hs hl ho.2
    have hv := hs.2.2 t ho.1
    have hvf : VRf π (s.t t) (a.tmps.getD t undef) := by
     unfold VR at hv
     split at hv
     ·rename_i hh; rw [hh] at hres; cases hres
     ·exact hv
    refine ⟨a.tmps.getD t undef :: vs', ⟨hvf, h1⟩, ?_⟩
    rw [List.mapM_cons]
    simp only [resF, Sem.run_bind, Sem.run_pure, Result.andThen_ok, h2]
  ·cases h
 | .cell b t :: r', vs, h, ho => by
  simp only [resOk, Bool.and_eq_true, decide_eq_true_eq] at ho
  unfold resL at h
  split at h
  ·rename_i v hld
   cases hl : resL Γ s r' with
   | none => rw [hl] at h; cases h
   | some l =>
    rw [hl] at h
    injection h with h; subst h
    obtain ⟨vs', h1, h2⟩ := res_sound K r hs hl ho.2
    obtain ⟨v', q1, q2⟩ := load_sound K r hld (hs.2.2 b ho.1)
    have hp : ∃ x, a.tmps.getD b undef = .pointer (some x) := by
     unfold Instr.loadAt Instr.sureAddr at q2
     split at q2
     ·rename_i x hx; exact ⟨x, hx⟩
     ·simp at q2
    obtain ⟨x, hx⟩ := hp
    refine ⟨v' :: vs', ⟨q1.f, h1⟩, ?_⟩
    rw [hx] at q2
    have q3 : (loadVar t x).run P w = .ok v' w := by simpa [Instr.loadAt, Instr.sureAddr] using q2
    rw [List.mapM_cons]
    simp only [resF, hx, asAddr, Sem.run_bind, Sem.run_pure, Result.andThen_ok, q3, h2]
  ·cases h
theorem tup_sound {vs vs' : List Value} (hv : All2 (VRf π) vs vs') : VR π (tupV vs) (if h : vs'.toArray.size = 1 then vs'.toArray[0] else .tuple vs'.toArray) := by
 have hl := hv.length
 match vs, vs', hv with
 | [], [], _ => exact ⟨#[], by simp, trivial⟩
 | [v], [v'], h => simp only [tupV]; simpa using h.1.v
 | v1 :: v2 :: l, v1' :: v2' :: l', h =>
  refine ⟨(v1' :: v2' :: l').toArray, ?_, h⟩
  rw [dif_neg (by simp)]
def FOk (P : Program) (F : FuncId → Option Func) : Prop := ∀ f fn, F f = some fn → P.funcs[f]? = some fn ∧ (fn.name == "runtime.NumGoroutine") = false ∧
 ∃ c, fn.body = some c ∧ codeOk fn.ntmps c = true ∧ resOk fn.ntmps fn.results.toList = true
theorem sim_closed (hI : Low G I) (K : Know P Γ E) (hF : FOk P F) (hX : ∀ f a h v h', X f a h v h' → Sim P G I f a h v h') (hD : ∀ n, DSound P G I n (D (Sim P G I) n)) :
  ∀ f args h v h', Phi Γ E F X D (Sim P G I) f args h v h' → Sim P G I f args h v h' := by
 intro f args h v h' hp
 rcases hp with hp | ⟨fn, c, h1, h2, h3, h4⟩
 ·exact hX _ _ _ _ _ hp
 ·obtain ⟨k1, k2, c', k3, k4, k5⟩ := hF f fn h1
  rw [h2] at k3
  injection k3 with k3; subst k3
  refine ⟨⟨fn, k1, k2, by rw [h2]; rfl⟩, fun π w args' hr ha => ?_⟩
  have hsz : args'.size ≤ fn.ntmps := by have := ha.length; simp at this; omega
  refine calls_of_wp k1 h2 ?_
  have hs : SR fn.ntmps π (initS args h) { tmps := args' ++ Array.replicate (fn.ntmps - args'.size) undef, defers := [] } := by
   refine ⟨rfl, by simp; omega, fun i hi => ?_⟩
   simp only [initS]
   by_cases hlt : i < args.length
   ·obtain ⟨v', q1, q2⟩ := ha.get i args[i] (List.getElem?_eq_getElem hlt)
    have q3 : args'[i]? = some v' := by simpa using q1
    have hlt' : i < args'.size := (Array.getElem?_eq_some_iff.1 q3).1
    have e1 : args.getD i undef = args[i] := by simp [hlt]
    have e2 : (args' ++ Array.replicate (fn.ntmps - args'.size) undef).getD i undef = v' := by
     rw [Array.getD_eq_getD_getElem?, Array.getElem?_append_left hlt', q3]; rfl
    rw [e1, e2]; exact q2
   ·have hge : args'.size ≤ i := by have := ha.length; simp at this; omega
    have e1 : args.getD i undef = undef := by simp [List.getD, List.getElem?_eq_none (by omega : args.length ≤ i)]
    have e2 : (args' ++ Array.replicate (fn.ntmps - args'.size) undef).getD i undef = undef := by
     rw [Array.getD_eq_getD_getElem?, Array.getElem?_append_right hge]
     by_cases hq : i - args'.size < fn.ntmps - args'.size
     ·simp [hq]
     ·simp [hq]
    rw [e1, e2]; exact vundef
  refine wp_mono (run_sound hI K (hD fn.ntmps) c (initS args h) _ _ w π h4 k4 hs hr) ?_
  rintro e a' w' ⟨x, s', π', rfl, ⟨q1, vs, q2, q3, q4⟩, q5, q6⟩
  subst q3
  obtain ⟨vs', r1, r2⟩ := res_sound K q6.rep q5 q2 k5
  obtain ⟨π'', t1, t2⟩ := tidy_sound q4 hr (tup_sound r1) q6
  have hres : (results fn a'.tmps).run P w' = .ok (if h : vs'.toArray.size = 1 then vs'.toArray[0] else .tuple vs'.toArray) w' := by
   rw [results_eq, Array.mapM_eq_mapM_toList]
   simp only [Sem.run_bind, Sem.run_map]
   rw [r2]
   simp only [Result.andThen_ok, Sem.run_pure]
  have hb : a'.defers = [] ∧ ∃ v0, (results fn a'.tmps).run P w' = .ok v0 w' ∧ ∃ v' π', Ending.returned v0 = .returned v' ∧ VR π' (tupV vs) v' ∧ Step G I (fun _ => False) π h w π' h' w' :=
   ⟨q5.1, _, hres, _, π'', rfl, t1, t2⟩
  rcases q1 with rfl | rfl
  ·exact hb
  ·exact hb
theorem call_sound (hI : Low G I) (K : Know P Γ E) (hF : FOk P F) (hX : ∀ f a h v h', X f a h v h' → Sim P G I f a h v h') (hD : ∀ n, DSound P G I n (D (Sim P G I) n)) {f : FuncId} {args : List Value} {h : Hp} {v : Value} {h' : Hp} (hc : Call Γ E F X D f args h v h') :
  Sim P G I f args h v h' := hc _ (sim_closed hI K hF hX hD)
end
end Go.Proofs.YtonpnjfclelpiaaGreatM
