import Derived.Test.YtonpnjfclelpiaaGreatVDMiC
namespace Go.Proofs.YtonpnjfclelpiaaGreatM
open Go
set_option linter.unusedVariables false
set_option linter.unusedSimpArgs false
def edges (o : Oper) : List Nat := (o.after.toList.filter (fun e => Region.binds .any e)).map (·.on)
def ancB (am : List Nat) (j i : Nat) : Bool := (am.getD i 0).testBit j
def orU (am : List Nat) : List Nat → Nat
 | [] => 0
 | e :: r => (2 ^ e ||| am.getD e 0) ||| orU am r
def ancOk (ops : Array Oper) (am : List Nat) : Bool := (List.range ops.size).all fun i => match ops[i]? with
 | none => true
 | some o => (edges o).all (fun e => decide (e < i)) && (am.getD i 0 ||| orU am (edges o)) == orU am (edges o)
def dstOf (ops : Array Oper) (i : Nat) : Option Nat := (ops[i]?).bind (·.dst)
def hazOk (ops : Array Oper) (am : List Nat) : Bool := (List.range ops.size).all fun i => match ops[i]? with
 | none => true
 | some o => (List.range ops.size).all fun j => j == i || match dstOf ops j with
  | none => true
  | some d => (o.dst != some d) && (!(o.looksAt ops).contains d || ancB am j i || ancB am i j)
def fr (ops : Array Oper) (t : Nat → Value) (val : Nat → Value) : Nat → Nat → Value
 | 0 => t
 | i + 1 => match dstOf ops i with
  | some d => upd (fr ops t val i) d (val i)
  | none => fr ops t val i
def mg (am : List Nat) (es : List Nat) (k j : Nat) : Bool := (es.take k).any fun e => ancB am j e
def sd (base N : Nat) (A : Nat → Option Blk) (p : Nat → Bool) : Nat → Option Blk := fun m => if base ≤ m ∧ m < base + N ∧ p (m - base) = true then A (m - base) else none
def uni (h : Hp) (f : Nat → Option Blk) : Hp := { h with blk := fun m => match h.blk m with | some b => some b | none => f m }
section
variable (Γ : TypeId → Option TI) (E : TypeId → Nat) (C : Rel) (ops : Array Oper) (am : List Nat) (s : S) (on : Nat → Bool) (val : Nat → Value) (A : Nat → Option Blk) (es : List Nat) (H : Nat → Hp)
def full (k : Nat) : Hp := uni (H k) (sd s.h.next ops.size A fun j => !mg am es k j)
def hin (k e : Nat) : Hp := uni (H k) (sd s.h.next ops.size A fun j => ancB am j e && !mg am es k j)
def sAt (i : Nat) : S := ⟨fr ops s.t val i, s.h⟩
def rdC (rd : Hp → Option Value) (i : Nat) : Prop := i ∉ es ∧ A i = none ∧ (∃ k, k ≤ es.length ∧ (∀ x e, es[x]? = some e → (x < k → ancB am i e = false) ∧ (k ≤ x → ancB am e i = false)) ∧ rd (full ops am s A es H k) = some (val i)) ∧
          ∀ x e, es[x]? = some e → ancB am i e = false → ancB am e i = false → rd (full ops am s A es H x) = rd (full ops am s A es H (x + 1))
def stepC (i : Nat) (o : Oper) : Prop :=
 match calleeV (sAt ops s val i) o.op with
 | some (g, args) => ∃ k, es[k]? = some i ∧ C g args (hin ops am s A es H k i) (val i) (H (k + 1)) ∧ A i = none
 | none => match pureV Γ E (sAt ops s val i).ev o.op with
  | some v => val i = v ∧ i ∉ es ∧ A i = none
  | none => match o.op with
   | .load t a => rdC ops am s val A es H (fun h => ldv Γ t ((sAt ops s val i).ev a) h) i
   | op => match makeV Γ (s.h.next + i) (sAt ops s val i).ev op with
    | some (v, b) => val i = v ∧ A i = some b ∧ i ∉ es
    | none => match op with
     | .convert q d x => rdC ops am s val A es H (fun h => textV Γ q d ((sAt ops s val i).ev x) h) i
     | op => ∃ k, es[k]? = some i ∧ effV Γ (s.h.next + i) (sAt ops s val i).ev op (hin ops am s A es H k i) = some (val i, H (k + 1)) ∧ A i = none
structure DrawD (s' : S) : Prop where
 anc : ancOk ops am = true
 haz : hazOk ops am = true
 chain : ∀ (x y e e' : Nat), x < y → es[x]? = some e → es[y]? = some e' → ancB am e e' = true
 begin_ : H 0 = s.h.cl ops.size
 esN : ∀ e ∈ es, e < ops.size
 each : ∀ i o, ops[i]? = some o → wantB ops (sAt ops s val i) o = some (on i) ∧ (on i = false → val i = undef ∧ i ∉ es ∧ A i = none) ∧ (on i = true → stepC Γ E C ops am s val A es H i o)
 final : s' = ⟨fr ops s.t val ops.size, full ops am s A es H es.length⟩
end
def Draw (Γ : TypeId → Option TI) (E : TypeId → Nat) (C : Rel) (_n : Nat) : DrawR := fun ops s s' => ∃ am on val A es H, DrawD Γ E C ops am s on val A es H s'
theorem stepC.mono {Γ : TypeId → Option TI} {E : TypeId → Nat} {C C' : Rel} (hC : ∀ f a h v h', C f a h v h' → C' f a h v h') {ops : Array Oper} {am : List Nat} {s : S} {val : Nat → Value} {A : Nat → Option Blk} {es : List Nat} {H : Nat → Hp} {i : Nat} {o : Oper}
  (h : stepC Γ E C ops am s val A es H i o) : stepC Γ E C' ops am s val A es H i o := by
 unfold stepC at h ⊢
 cases hc : calleeV (sAt ops s val i) o.op with
 | none => rw [hc] at h; exact h
 | some ga =>
  rw [hc] at h
  obtain ⟨k, h1, h2, h3⟩ := h
  exact ⟨k, h1, hC _ _ _ _ _ h2, h3⟩
theorem draw_mono {Γ : TypeId → Option TI} {E : TypeId → Nat} : DMono (Draw Γ E) := by
 intro C C' n hC ops s s' h
 obtain ⟨am, on, val, A, es, H, h⟩ := h
 exact ⟨am, on, val, A, es, H, h.anc, h.haz, h.chain, h.begin_, h.esN, fun i o ho => ⟨(h.each i o ho).1, (h.each i o ho).2.1, fun hon => ((h.each i o ho).2.2 hon).mono hC⟩, h.final⟩
section
variable {G : Nat} {I : World → Prop} {N : Nat → Prop} {π π' : Nat → Option Pl} {h h' hin hout : Hp} {f : Nat → Option Blk} {w w' : World}
theorem uni_blk (h : Hp) (f : Nat → Option Blk) (m : Nat) : (uni h f).blk m = (match h.blk m with | some b => some b | none => f m) := rfl
theorem uni_some {m : Nat} {b : Blk} (hh : (uni h f).blk m = some b) : h.blk m = some b ∨ (h.blk m = none ∧ f m = some b) := by
 rw [uni_blk] at hh
 cases hm : h.blk m with
 | some b' => rw [hm] at hh; exact .inl hh
 | none => rw [hm] at hh; exact .inr ⟨rfl, hh⟩
theorem uni_left {m : Nat} {b : Blk} (hh : h.blk m = some b) : (uni h f).blk m = some b := by rw [uni_blk, hh]
theorem Rep.sub (r : Rep G I π h w) (hn : h'.next = h.next) (hs : ∀ m b, h'.blk m = some b → h.blk m = some b) : Rep G I π h' w :=
 ⟨fun n p hp => by rw [hn]; exact r.dom n p hp, fun m b hm => r.pl m b (hs m b hm), fun a m ba bm p q hne k1 k2 k3 k4 k5 => r.uniq a m ba bm p q hne (hs _ _ k1) k2 (hs _ _ k3) k4 k5, r.big, fun m b p k1 k2 k3 => r.rwG m b p (hs _ _ k1) k2 k3, r.inv⟩
theorem frame_step (r : Rep G I π (uni hin f) w) (hrw : ∀ m b, f m = some b → b.rw = true) (hdis : ∀ m b, f m = some b → hin.blk m = none) (st : Step G I N π hin w π' hout w') (hN : ∀ m b, f m = some b → ¬ N m) :
  Step G I N π (uni hin f) w π' (uni hout f) w' ∧ ∀ m b, f m = some b → hout.blk m = none := by
 have side : ∀ m b, f m = some b → ∃ p, π m = some p ∧ BlkOk π b p w ∧ π' m = some p ∧ hout.blk m = none := by
  intro m b h2
  have h1 := hdis m b h2
  have hu : (uni hin f).blk m = some b := by rw [uni_blk, h1]; exact h2
  obtain ⟨p, hp, hb⟩ := r.pl m b hu
  have hlt : m < hin.next := (r.dom m p hp).1
  have hs := st.same m hlt (hN m b h2)
  refine ⟨p, hp, hb, by rw [hs]; exact hp, ?_⟩
  cases ho : hout.blk m with
  | none => rfl
  | some bo =>
   exfalso
   rcases st.prov m bo p ho (by rw [hs]; exact hp) with k | ⟨n, b0, q, k1, k2, k3, k4⟩
   ·have := r.lt hu hp; omega
   ·have hne : m ≠ n := fun x => by rw [x, k1] at h1; cases h1
    exact r.uniq m n b b0 p q hne hu (hrw m b h2) (uni_left k1) hp k3 k4.symm
 have key : ∀ m b, (uni hout f).blk m = some b → hout.blk m = some b ∨ f m = some b := by
  intro m b hm
  rcases uni_some hm with k | ⟨k1, k2⟩
  ·exact .inl k
  ·exact .inr k2
 have old : ∀ m b p, f m = some b → π m = some p → p.blk < w.heap.size ∧ w'.heap[p.blk]? = w.heap[p.blk]? := by
  intro m b p h2 hp
  have hlt := r.lt (show (uni hin f).blk m = some b by rw [uni_blk, hdis m b h2]; exact h2) hp
  refine ⟨hlt, st.keep _ hlt fun n bn q k1 k2 k3 hq => ?_⟩
  have h1 := hdis m b h2
  have hu : (uni hin f).blk m = some b := by rw [uni_blk, h1]; exact h2
  have hne : m ≠ n := fun x => by rw [x, k1] at h1; cases h1
  exact r.uniq m n b bn p q hne hu (hrw m b h2) (uni_left k1) hp k3 hq.symm
 -- a block of the step's lies elsewhere than one beside it
 have apart : ∀ m b p a ba q, f m = some b → π' m = some p → hout.blk a = some ba → π' a = some q → p.blk ≠ q.blk := by
  intro m b p a ba q k1 k2 k3 k4 he
  obtain ⟨p', hp', _, hp2, _⟩ := side m b k1
  rw [hp2] at k2; injection k2 with k2; subst k2
  rcases st.prov a ba q k3 k4 with k | ⟨n, b0, q0, s1, s2, s3, s4⟩
  ·have := (old m b p' k1 hp').1; omega
  ·have h1 := hdis m b k1
   have hu : (uni hin f).blk m = some b := by rw [uni_blk, h1]; exact k1
   have hne : m ≠ n := fun x => by rw [x, s1] at h1; cases h1
   exact r.uniq m n b b0 p' q0 hne hu (hrw m b k1) (uni_left s1) hp' s3 (he.trans s4.symm)
 refine ⟨⟨⟨st.rep.dom, ?_, ?_, st.rep.big, ?_, st.rep.inv⟩, st.same, st.le, st.grow, ?_, ?_, st.nx⟩, fun m b hm => (side m b hm).choose_spec.2.2.2⟩
 ·intro m b hm
  rcases key m b hm with k | k
  ·exact st.rep.pl m b k
  ·obtain ⟨p, hp, ⟨h1, c, e, fr', h2, h3, h4⟩, hp2, _⟩ := side m b k
   refine ⟨p, hp2, h1, c, e, fr', by rw [(old m b p k hp).2]; exact h2, fun i v hi => ?_, h4⟩
   obtain ⟨v', s1, s2⟩ := h3 i v hi
   exact ⟨v', s1, s2.mono st.le⟩
 ·intro a m ba bm p q hne k1 k2 k3 k4 k5
  rcases key a ba k1 with s1 | s1 <;> rcases key m bm k3 with s2 | s2
  ·exact st.rep.uniq a m ba bm p q hne s1 k2 s2 k4 k5
  ·exact (apart m bm q a ba p s2 k5 s1 k4).symm
  ·exact apart a ba p m bm q s1 k4 s2 k5
  ·obtain ⟨p1, hp1, _, hp1', _⟩ := side a ba s1
   obtain ⟨p2, hp2, _, hp2', _⟩ := side m bm s2
   rw [hp1'] at k4; injection k4 with k4; subst k4
   rw [hp2'] at k5; injection k5 with k5; subst k5
   exact r.uniq a m ba bm p1 p2 hne (by rw [uni_blk, hdis a ba s1]; exact s1) k2 (by rw [uni_blk, hdis m bm s2]; exact s2) hp1 hp2
 ·intro m b p k1 k2 k3
  rcases key m b k1 with s1 | s1
  ·exact st.rep.rwG m b p s1 k2 k3
  ·obtain ⟨p1, hp1, _, hp1', _⟩ := side m b s1
   rw [hp1'] at k3; injection k3 with k3; subst k3
   exact r.rwG m b p1 (by rw [uni_blk, hdis m b s1]; exact s1) k2 hp1
 ·intro i hi hk
  exact st.keep i hi fun n b p k1 k2 k3 => hk n b p (uni_left k1) k2 k3
 ·intro m b q k1 k2
  rcases key m b k1 with s1 | s1
  ·rcases st.prov m b q s1 k2 with k | ⟨n, b0, p, t1, t2, t3, t4⟩
   ·exact .inl k
   ·exact .inr ⟨n, b0, p, uni_left t1, t2, t3, t4⟩
  ·obtain ⟨p1, hp1, _, hp1', _⟩ := side m b s1
   rw [hp1'] at k2; injection k2 with k2; subst k2
   exact .inr ⟨m, b, p1, by rw [uni_blk, hdis m b s1]; exact s1, rfl, hp1, rfl⟩
theorem make_rw {Γ : TypeId → Option TI} {nm : Nat} {ρ : Operand → Value} {o : Op} {v : Value} {b : Blk} (hm : makeV Γ nm ρ o = some (v, b)) : b.rw = true := by
 unfold makeV at hm
 split at hm
 ·rename_i e
  cases hg : Γ e with
  | none => rw [hg] at hm; cases hm
  | some i => rw [hg] at hm; injection hm with hm; injection hm with h1 h2; subst h2; rfl
 ·split at hm
  ·injection hm with hm; injection hm with h1 h2; subst h2; rfl
  ·cases hm
 ·split at hm
  ·split at hm
   ·split at hm
    ·cases hm
    ·obtain ⟨cs, _, hh⟩ := Option.map_eq_some_iff.1 hm
     injection hh with h1 h2; subst h2; rfl
   ·cases hm
  ·cases hm
 ·split at hm
  ·split at hm
   ·split at hm
    ·injection hm with hm; injection hm with h1 h2; subst h2; rfl
    ·cases hm
   ·cases hm
  ·cases hm
 ·split at hm
  ·split at hm
   ·injection hm with hm; injection hm with h1 h2; subst h2; rfl
   ·cases hm
  ·cases hm
 ·cases hm
theorem orU_bit (am : List Nat) (j : Nat) : ∀ (l : List Nat), (orU am l).testBit j = true → ∃ e ∈ l, e = j ∨ ancB am j e = true
 | [], h => by simp [orU] at h
 | e :: r, h => by
  simp only [orU, Nat.testBit_or, Bool.or_eq_true] at h
  rcases h with (h | h) | h
  ·rw [Nat.testBit_two_pow] at h
   exact ⟨e, by simp, .inl (by simpa using h)⟩
  ·exact ⟨e, by simp, .inr h⟩
  ·obtain ⟨x, h1, h2⟩ := orU_bit am j r h
   exact ⟨x, by simp [h1], h2⟩
variable {P : Program} {Γ : TypeId → Option TI} {E : TypeId → Nat} {ops : Array Oper} {am : List Nat} {n : Nat}
theorem anc_edge (ha : ancOk ops am = true) {i j : Nat} {o : Oper} (ho : ops[i]? = some o) (h : ancB am j i = true) : ∃ e ∈ edges o, e < i ∧ (e = j ∨ ancB am j e = true) := by
 have hi : i < ops.size := (Array.getElem?_eq_some_iff.1 ho).1
 have h1 := List.all_eq_true.1 ha i (List.mem_range.2 hi)
 rw [ho] at h1
 simp only [Bool.and_eq_true, beq_iff_eq, List.all_eq_true, decide_eq_true_eq] at h1
 have h2 : (am.getD i 0 ||| orU am (edges o)).testBit j = true := by rw [Nat.testBit_or]; unfold ancB at h; rw [h]; rfl
 rw [h1.2] at h2
 obtain ⟨e, h3, h4⟩ := orU_bit am j _ h2
 exact ⟨e, h3, h1.1 e h3, h4⟩
theorem anc_size (ha : ancOk ops am = true) {i j : Nat} (hi : i < ops.size) : ancB am j i = true → j < i := by
 induction i using Nat.strongRecOn with
 | _ i ih =>
  intro h
  obtain ⟨e, _, h2, h3⟩ := anc_edge ha (Array.getElem?_eq_getElem hi) h
  rcases h3 with rfl | h3
  ·exact h2
  ·exact Nat.lt_trans (ih e h2 (by omega) h3) h2
def Cl (ops : Array Oper) (L : Array Bool) : Prop := L.size = ops.size ∧ ∀ i o, ops[i]? = some o → L.getD i false = true → ∀ e ∈ o.after, Region.binds .any e = true → L.getD e.on false = true
theorem edges_mem {o : Oper} {x : Nat} (h : x ∈ edges o) : ∃ e ∈ o.after, Region.binds .any e = true ∧ e.on = x := by
 unfold edges at h
 simp only [List.mem_map, List.mem_filter] at h
 obtain ⟨e, ⟨h1, h2⟩, h3⟩ := h
 exact ⟨e, by simpa using h1, h2, h3⟩
theorem anc_in (ha : ancOk ops am = true) {L : Array Bool} (hL : Cl ops L) {i j : Nat} (hi : i < ops.size) : ancB am j i = true → L.getD i false = true → L.getD j false = true := by
 induction i using Nat.strongRecOn with
 | _ i ih =>
  intro h hl
  obtain ⟨e, h1, h2, h3⟩ := anc_edge ha (Array.getElem?_eq_getElem hi) h
  obtain ⟨x, h4, h5, h6⟩ := edges_mem h1
  have := hL.2 i _ (Array.getElem?_eq_getElem hi) hl x h4 h5
  rw [h6] at this
  rcases h3 with rfl | h3
  ·exact this
  ·exact ih e h2 (by omega) h3 this
theorem anc_ready (ha : ancOk ops am = true) {L : Array Bool} (hL : Cl ops L) {i j : Nat} (hr : i ∈ Region.ready .any ops L) (h : ancB am j i = true) : L.getD j false = true := by
 obtain ⟨h0, o, ho, hall⟩ := mem_ready.1 hr
 obtain ⟨e, h1, h2, h3⟩ := anc_edge ha ho h
 obtain ⟨x, h4, h5, h6⟩ := edges_mem h1
 have := hall x h4 h5
 rw [h6] at this
 rcases h3 with rfl | h3
 ·exact this
 ·exact anc_in ha hL (by have := (Array.getElem?_eq_some_iff.1 ho).1; omega) h3 this
theorem haz_at (hz : hazOk ops am = true) {i j d : Nat} {o : Oper} (ho : ops[i]? = some o) (hj : j < ops.size) (hne : j ≠ i) (hd : dstOf ops j = some d) :
  o.dst ≠ some d ∧ (d ∈ o.looksAt ops → ancB am j i = true ∨ ancB am i j = true) := by
 have hi : i < ops.size := (Array.getElem?_eq_some_iff.1 ho).1
 have h1 := List.all_eq_true.1 hz i (List.mem_range.2 hi)
 rw [ho] at h1
 have h2 := List.all_eq_true.1 h1 j (List.mem_range.2 hj)
 rw [hd] at h2
 simp only [Bool.or_eq_true, beq_iff_eq, hne, false_or, Bool.and_eq_true, bne_iff_ne, Bool.not_eq_true', List.contains_eq_mem, decide_eq_false_iff_not] at h2
 refine ⟨h2.1, fun hm => ?_⟩
 rcases h2.2 with (h3 | h3) | h3
 ·exact absurd hm h3
 ·exact .inl h3
 ·exact .inr h3
theorem fr_hit (hz : hazOk ops am = true) {t : Nat → Value} {val : Nat → Value} {j d : Nat} (hj : j < ops.size) (hd : dstOf ops j = some d) : ∀ i, j < i → i ≤ ops.size → fr ops t val i d = val j
 | 0, h, _ => by omega
 | i + 1, h, hi => by
  unfold fr
  by_cases hji : j = i
  ·subst hji; rw [hd]; simp [upd]
  ·have ih := fr_hit hz (t := t) (val := val) hj hd i (by omega) (by omega)
   cases hd2 : dstOf ops i with
   | none => exact ih
   | some d2 =>
    have ho : ops[i]? = some ops[i] := Array.getElem?_eq_getElem (by omega)
    have h3 := (haz_at hz ho hj hji hd).1
    have hne : d ≠ d2 := by
     intro he
     apply h3
     unfold dstOf at hd2
     rw [ho] at hd2
     simp only [Option.bind_some] at hd2
     rw [hd2, he]
    simp only [upd, if_neg hne]
    exact ih
theorem fr_miss {t : Nat → Value} {val : Nat → Value} {d : Nat} : ∀ i, (∀ j, j < i → dstOf ops j ≠ some d) → fr ops t val i d = t d
 | 0, _ => rfl
 | i + 1, h => by
  unfold fr
  have ih := fr_miss (t := t) (val := val) i fun j hj => h j (by omega)
  cases hd2 : dstOf ops i with
  | none => exact ih
  | some d2 =>
   have hne : d ≠ d2 := fun he => h i (by omega) (by rw [hd2, he])
   simp only [upd, if_neg hne]
   exact ih
theorem want_ok' {s : S} {a : Act} {o : Oper} {b : Bool} (h : wantB ops s o = some b) (hv : ∀ d ∈ o.looksAt ops, VR π (s.t d) (a.tmps.getD d undef)) (hsz : ∀ d ∈ o.looksAt ops, d < a.tmps.size) : Region.wanted o (yielded ops a.tmps) = b := by
 unfold wantB at h
 unfold Region.wanted
 split at h
 ·rename_i hg; injection h with h; subst h; simp [hg]
 ·rename_i j want hg
  simp only [hg]
  split at h
  ·rename_i d hd
   split at h
   ·rename_i b0 hb
    injection h with h; subst h
    have hm : d ∈ o.looksAt ops := by
     unfold Oper.looksAt
     rw [hg]
     simp [hd]
    have h2 := hv d hm
    rw [hb] at h2
    have h3 : a.tmps.getD d undef = .bool b0 := h2
    have hlt := hsz d hm
    have h4 : a.tmps[d]? = some (.bool b0) := by
     rw [Array.getElem?_eq_getElem hlt]
     simp [Array.getD, hlt] at h3
     rw [h3]
    unfold yielded
    rw [hd]
    simp [h4]
   ·rename_i hb
    injection h with h; subst h
    have hm : d ∈ o.looksAt ops := by
     unfold Oper.looksAt
     rw [hg]
     simp [hd]
    have h2 := hv d hm
    rw [hb] at h2
    obtain ⟨vs, h3, _⟩ := h2
    have hlt := hsz d hm
    have h4 : a.tmps[d]? = some (.tuple vs) := by
     rw [Array.getElem?_eq_getElem hlt]
     simp [Array.getD, hlt] at h3
     rw [h3]
    unfold yielded
    rw [hd]
    simp [h4]
   ·cases h
  ·cases h
theorem looks_lt (hops : ∀ o ∈ ops, operOk n o = true) {o : Oper} (ho : o ∈ ops) {d : Nat} (hd : d ∈ o.looksAt ops) : d < n := by
 unfold Oper.looksAt at hd
 rcases List.mem_append.1 hd with h | h
 ·obtain ⟨x, h1, h2⟩ := List.mem_filterMap.1 h
  have h3 := hops o ho
  unfold operOk at h3
  simp only [Bool.and_eq_true] at h3
  have h4 := Array.all_eq_true_iff_forall_mem.1 h3.1 x (by simpa using h1)
  cases x with
  | tmp t => simp at h2; subst h2; simpa [okOp] using h4
  | _ => simp at h2
 ·split at h
  ·rename_i g _ _
   have h1 : (ops[g]?).bind (·.dst) = some d := by simpa using h
   cases hj : ops[g]? with
   | none => rw [hj] at h1; cases h1
   | some oj =>
    rw [hj] at h1
    simp only [Option.bind_some] at h1
    have h2 := hops oj (Array.mem_of_getElem? hj)
    unfold operOk at h2
    rw [h1] at h2
    simp at h2
    exact h2.2
  ·simp at h
structure J (G : Nat) (I : World → Prop) (n : Nat) (ops : Array Oper) (am : List Nat) (s : S) (val : Nat → Value) (A : Nat → Option Blk) (es : List Nat) (H : Nat → Hp) (π0 : Nat → Option Pl) (w0 : World) (L : Array Bool) (k : Nat) (π : Nat → Option Pl) (a : Act) (w : World) : Prop where
 cl : Cl ops L
 num : ∀ (x e : Nat), es[x]? = some e → (L.getD e false = true ↔ x < k)
 nl : k ≤ es.length
 defers : a.defers = []
 size : a.tmps.size = n
 got : ∀ i t, i < ops.size → dstOf ops i = some t → L.getD i false = true → VR π (val i) (a.tmps.getD t undef)
 old : ∀ t, t < n → (∀ i, i < ops.size → dstOf ops i = some t → L.getD i false = false) → VR π (s.t t) (a.tmps.getD t undef)
 st : Step G I (fun m => s.h.next ≤ m) π0 s.h w0 π (uni (H k) (sd s.h.next ops.size A fun j => L.getD j false && !mg am es k j)) w
 new : ∀ i, i < ops.size → L.getD i false = false → π (s.h.next + i) = none
 side : ∀ j, j < ops.size → L.getD j false = true → mg am es k j = false → A j ≠ none → (H k).blk (s.h.next + j) = none
 nx : s.h.next + ops.size ≤ (H k).next
theorem sd_at {base N : Nat} {A : Nat → Option Blk} {p : Nat → Bool} {m : Nat} {b : Blk} (h : sd base N A p m = some b) : ∃ j, m = base + j ∧ j < N ∧ p j = true ∧ A j = some b := by
 unfold sd at h
 split at h
 ·rename_i hc
  exact ⟨m - base, by omega, by omega, hc.2.2, h⟩
 ·cases h
theorem sd_mk {base N : Nat} {A : Nat → Option Blk} {p : Nat → Bool} {j : Nat} (hj : j < N) (hp : p j = true) : sd base N A p (base + j) = A j := by
 unfold sd
 rw [if_pos ⟨by omega, by omega, by rw [Nat.add_sub_cancel_left]; exact hp⟩, Nat.add_sub_cancel_left]
theorem sd_no {base N : Nat} {A : Nat → Option Blk} {p : Nat → Bool} {j : Nat} (hp : p j = false) : sd base N A p (base + j) = none := by
 unfold sd
 rw [if_neg]
 rintro ⟨_, _, h⟩
 rw [Nat.add_sub_cancel_left, hp] at h
 cases h
theorem hp_ext {a b : Hp} (h1 : a.next = b.next) (h2 : ∀ m, a.blk m = b.blk m) : a = b := by
 cases a; cases b
 simp only at h1 h2
 subst h1
 congr 1
 funext m
 exact h2 m
end
end Go.Proofs.YtonpnjfclelpiaaGreatM
