import Derived.Test.YtonpnjfclelpiaaGreatVDMiD
namespace Go.Proofs.YtonpnjfclelpiaaGreatM
open Go
set_option linter.unusedVariables false
set_option linter.unusedSimpArgs false
section
variable {P : Program} {Γ : TypeId → Option TI} {E : TypeId → Nat} {G : Nat} {I : World → Prop} {n : Nat} {ops : Array Oper} {am : List Nat} {s s' : S} {on : Nat → Bool} {val : Nat → Value} {A : Nat → Option Blk} {es : List Nat} {H : Nat → Hp}
 {π0 π π' : Nat → Option Pl} {w0 w w' : World} {L : Array Bool} {k : Nat} {a : Act}
abbrev cur (ops : Array Oper) (am : List Nat) (s : S) (A : Nat → Option Blk) (es : List Nat) (H : Nat → Hp) (L : Array Bool) (k : Nat) : Hp :=
 uni (H k) (sd s.h.next ops.size A fun j => L.getD j false && !mg am es k j)
theorem getD_set {L : Array Bool} {i j : Nat} (hi : i < L.size) : (L.setIfInBounds i true).getD j false = (if i = j then true else L.getD j false) := by
 rw [Array.getD_eq_getD_getElem?, Array.getElem?_setIfInBounds]
 by_cases h : i = j
 ·subst h; rw [if_pos rfl, if_pos rfl]; simp [hi]
 ·rw [if_neg h, if_neg h, Array.getD_eq_getD_getElem?]
theorem mg_hit (am : List Nat) {es : List Nat} {k j : Nat} (h : mg am es k j = true) : ∃ x e, x < k ∧ es[x]? = some e ∧ ancB am j e = true := by
 unfold mg at h
 rw [List.any_eq_true] at h
 obtain ⟨e, h1, h2⟩ := h
 obtain ⟨x, h3⟩ := List.getElem?_of_mem h1
 rw [List.getElem?_take] at h3
 split at h3
 ·rename_i hx; exact ⟨x, e, hx, h3, h2⟩
 ·cases h3
theorem mg_succ {am : List Nat} {es : List Nat} {k j e : Nat} (h : es[k]? = some e) : mg am es (k + 1) j = (mg am es k j || ancB am j e) := by
 unfold mg
 rw [List.take_add_one, h]
 simp
theorem ready_at (hL : L.size = ops.size) {i : Nat} (hi : i ∈ Region.ready .any ops L) : i < ops.size ∧ L.getD i false = false := by
 obtain ⟨h0, o, ho, _⟩ := mem_ready.1 hi
 have hlt : i < ops.size := (Array.getElem?_eq_some_iff.1 ho).1
 refine ⟨hlt, ?_⟩
 have : i < L.size := by omega
 simp [Array.getD, this] at h0 ⊢
 exact h0
theorem J.reads (hz : hazOk ops am = true) (ha : ancOk ops am = true) (hops : ∀ o ∈ ops, operOk n o = true) (j : J G I n ops am s val A es H π0 w0 L k π a w) {i : Nat} {o : Oper} (hi : i ∈ Region.ready .any ops L) (ho : ops[i]? = some o) :
  ∀ d ∈ o.looksAt ops, VR π ((sAt ops s val i).t d) (a.tmps.getD d undef) := by
 intro d hd
 obtain ⟨hlt, hun⟩ := ready_at j.cl.1 hi
 have hdn : d < n := looks_lt hops (Array.mem_of_getElem? ho) hd
 show VR π (fr ops s.t val i d) _
 by_cases hex : ∃ x, x < ops.size ∧ dstOf ops x = some d
 ·obtain ⟨x, hx, hdx⟩ := hex
  by_cases hxi : x = i
  ·subst hxi
   rw [fr_miss x fun y hy hdy => ((haz_at hz (Array.getElem?_eq_getElem (by omega : y < ops.size)) hx (by omega : x ≠ y) hdx).1 (by
    unfold dstOf at hdy; rw [Array.getElem?_eq_getElem (by omega : y < ops.size)] at hdy; exact hdy))]
   refine j.old d hdn fun y hy hdy => ?_
   by_cases hyx : y = x
   ·subst hyx; exact hun
   ·exact absurd (by unfold dstOf at hdy; rw [Array.getElem?_eq_getElem hy] at hdy; exact hdy) (haz_at hz (Array.getElem?_eq_getElem hy) hx (Ne.symm hyx) hdx).1
  ·have uniq : ∀ y, y < ops.size → dstOf ops y = some d → y = x := fun y hy hdy => by
    by_cases hyx : y = x
    ·exact hyx
    ·exact absurd (by unfold dstOf at hdy; rw [Array.getElem?_eq_getElem hy] at hdy; exact hdy) (haz_at hz (Array.getElem?_eq_getElem hy) hx (Ne.symm hyx) hdx).1
   rcases (haz_at hz ho hx hxi hdx).2 hd with h | h
   ·have h1 := anc_size ha hlt h
    rw [fr_hit hz hx hdx i h1 (Nat.le_of_lt hlt)]
    exact j.got x d hx hdx (anc_ready ha j.cl hi h)
   ·have h1 := anc_size ha hx h
    rw [fr_miss i fun y hy hdy => by have := uniq y (by omega) hdy; omega]
    refine j.old d hdn fun y hy hdy => ?_
    have := uniq y hy hdy; subst this
    cases hl : L.getD y false with
    | false => rfl
    | true => have := anc_in ha j.cl hx h hl; rw [hun] at this; cases this
 ·rw [fr_miss i fun y hy hdy => hex ⟨y, by omega, hdy⟩]
  exact j.old d hdn fun y hy hdy => absurd ⟨y, hy, hdy⟩ hex
theorem J.opnd (hz : hazOk ops am = true) (ha : ancOk ops am = true) (hops : ∀ o ∈ ops, operOk n o = true) (j : J G I n ops am s val A es H π0 w0 L k π a w) {i : Nat} {o : Oper} (hi : i ∈ Region.ready .any ops L) (ho : ops[i]? = some o) :
  ∀ x ∈ o.op.operands, VR π ((sAt ops s val i).ev x) (a.eval x) := by
 intro x hx
 have hok : okOp n x = true := by
  have h1 := hops o (Array.mem_of_getElem? ho)
  unfold operOk at h1
  simp only [Bool.and_eq_true] at h1
  exact Array.all_eq_true_iff_forall_mem.1 h1.1 x hx
 cases x with
 | tmp t =>
  refine j.reads hz ha hops hi ho t ?_
  unfold Oper.looksAt
  refine List.mem_append.2 (.inl (List.mem_filterMap.2 ⟨.tmp t, by simpa using hx, rfl⟩))
 | const v => exact (plainV_self hok).a.f.v
 | func f => exact show VRf π (.func (.func f) #[] #[]) _ from ⟨#[], #[], rfl, trivial, trivial⟩
 | global g => cases hok
theorem J.next (hz : hazOk ops am = true) (hops : ∀ o ∈ ops, operOk n o = true) (j : J G I n ops am s val A es H π0 w0 L k π a w) {i : Nat} {o : Oper} {v' : Value} {k' : Nat} (hi : i ∈ Region.ready .any ops L) (ho : ops[i]? = some o)
  (hv : VR π' (val i) v') (st : Step G I (fun m => m = s.h.next + i) π (cur ops am s A es H L k) w π' (cur ops am s A es H (L.setIfInBounds i true) k') w')
  (num : ∀ (x e : Nat), es[x]? = some e → ((L.setIfInBounds i true).getD e false = true ↔ x < k')) (nl : k' ≤ es.length)
  (side : ∀ y, y < ops.size → (L.setIfInBounds i true).getD y false = true → mg am es k' y = false → A y ≠ none → (H k').blk (s.h.next + y) = none) (nx : s.h.next + ops.size ≤ (H k').next) :
  J G I n ops am s val A es H π0 w0 (L.setIfInBounds i true) k' π' (a.put o.dst v') w' := by
 obtain ⟨hlt, hun⟩ := ready_at j.cl.1 hi
 have hiL : i < L.size := by have := j.cl.1; omega
 have hdi : dstOf ops i = o.dst := by unfold dstOf; rw [ho]; rfl
 refine ⟨⟨by rw [Array.size_setIfInBounds]; exact j.cl.1, ?_⟩, num, nl, ?_, ?_, ?_, ?_, (j.st.trans st).wk ?_, ?_, side, nx⟩
 ·intro x ox hox hx e he hb
  rw [getD_set hiL] at hx ⊢
  by_cases h : i = x
  ·subst h
   rw [ho] at hox; injection hox with hox; subst hox
   obtain ⟨_, o2, ho2, hall⟩ := mem_ready.1 hi
   rw [ho] at ho2; injection ho2 with ho2; subst ho2
   split
   ·rfl
   ·exact hall e he hb
  ·rw [if_neg h] at hx
   split
   ·rfl
   ·exact j.cl.2 x ox hox hx e he hb
 ·cases o.dst <;> exact j.defers
 ·cases o.dst with
  | none => exact j.size
  | some d => simp [Act.put, j.size]
 ·intro y t hy hdy hl
  rw [getD_set hiL] at hl
  by_cases h : i = y
  ·subst h
   rw [hdi] at hdy
   rw [hdy]
   have htn : t < n := by
    have h1 := hops o (Array.mem_of_getElem? ho)
    unfold operOk at h1
    rw [hdy] at h1
    simp at h1
    exact h1.2
   have : t < a.tmps.size := by rw [j.size]; exact htn
   simp only [Act.put]
   simp [Array.getD, this]; exact hv
  ·rw [if_neg h] at hl
   have h2 := (j.got y t hy hdy hl).mono st.le
   cases hd : o.dst with
   | none => exact h2
   | some d =>
    have hne : d ≠ t := fun x => by
     subst x
     have := (haz_at hz ho hy (Ne.symm h) hdy).1
     exact this hd
    simp only [Act.put]
    rw [Array.getD_eq_getD_getElem?, Array.getElem?_setIfInBounds, if_neg hne, ← Array.getD_eq_getD_getElem?]
    exact h2
 ·intro t ht hall
  have h2 := (j.old t ht fun y hy hdy => by
   have := hall y hy hdy
   rw [getD_set hiL] at this
   by_cases h : i = y
   ·rw [if_pos h] at this; cases this
   ·rw [if_neg h] at this; exact this).mono st.le
  cases hd : o.dst with
  | none => exact h2
  | some d =>
   have hne : d ≠ t := fun x => by
    subst x
    have := hall i hlt (by rw [hdi]; exact hd)
    rw [getD_set hiL, if_pos rfl] at this
    cases this
   simp only [Act.put]
   rw [Array.getD_eq_getD_getElem?, Array.getElem?_setIfInBounds, if_neg hne, ← Array.getD_eq_getD_getElem?]
   exact h2
 ·intro m _ hm
  rcases hm with hm | hm
  ·exact hm
  ·show s.h.next ≤ m; omega
 ·intro y hy hl
  rw [getD_set hiL] at hl
  by_cases h : i = y
  ·rw [if_pos h] at hl; cases hl
  ·rw [if_neg h] at hl
   have := st.same (s.h.next + y) (by show s.h.next + y < (H k).next; have := j.nx; omega) (by omega)
   rw [this]; exact j.new y hy hl
theorem cur_same {i : Nat} {L : Array Bool} {k : Nat} (hi : i < L.size) (hA : A i = none) : cur ops am s A es H (L.setIfInBounds i true) k = cur ops am s A es H L k := by
 refine hp_ext rfl fun m => ?_
 show (match (H k).blk m with | some b => some b | none => sd s.h.next ops.size A _ m) = (match (H k).blk m with | some b => some b | none => sd s.h.next ops.size A _ m)
 congr 1
 funext _
 unfold sd
 by_cases hm : m - s.h.next = i
 ·rw [hm, hA]; simp
 ·have : (L.setIfInBounds i true).getD (m - s.h.next) false = L.getD (m - s.h.next) false := by rw [getD_set hi, if_neg (Ne.symm hm)]
  simp only [this]
theorem J.still (hz : hazOk ops am = true) (hops : ∀ o ∈ ops, operOk n o = true) (j : J G I n ops am s val A es H π0 w0 L k π a w) {i : Nat} {o : Oper} {v' : Value} (hi : i ∈ Region.ready .any ops L) (ho : ops[i]? = some o)
  (hv : VR π (val i) v') (hes : i ∉ es) (hA : A i = none) : J G I n ops am s val A es H π0 w0 (L.setIfInBounds i true) k π (a.put o.dst v') w := by
 obtain ⟨hlt, hun⟩ := ready_at j.cl.1 hi
 have hiL : i < L.size := by have := j.cl.1; omega
 refine j.next hz hops hi ho hv ?_ ?_ j.nl ?_ j.nx
 ·rw [cur_same hiL hA]; exact Step.refl j.st.rep
 ·intro x e he
  rw [getD_set hiL, if_neg fun h => hes (by subst h; exact List.mem_of_getElem? he)]
  exact j.num x e he
 ·intro y hy hl hm hAy
  rw [getD_set hiL, if_neg fun h => hAy (by rw [← h]; exact hA)] at hl
  exact j.side y hy hl hm hAy
theorem A_rw (hd : DrawD Γ E (Sim P G I) ops am s on val A es H s') {j : Nat} {b : Blk} (hj : j < ops.size) (hA : A j = some b) : b.rw = true := by
 obtain ⟨h1, h2, h3⟩ := hd.each j _ (Array.getElem?_eq_getElem hj)
 cases hon : on j with
 | false => have := (h2 hon).2.2; rw [hA] at this; cases this
 | true =>
  have h4 := h3 hon
  unfold stepC at h4
  split at h4
  ·obtain ⟨_, _, _, h5⟩ := h4; rw [hA] at h5; cases h5
  ·split at h4
   ·have := h4.2.2; rw [hA] at this; cases this
   ·split at h4
    ·have := h4.2.1; rw [hA] at this; cases this
    ·split at h4
     ·rename_i hm
      have := h4.2.1
      rw [hA] at this; injection this with this; subst this
      exact make_rw hm
     ·split at h4
      ·have := h4.2.1; rw [hA] at this; cases this
      ·obtain ⟨_, _, _, h5⟩ := h4; rw [hA] at h5; cases h5
theorem J.place (hd : DrawD Γ E (Sim P G I) ops am s on val A es H s') (j : J G I n ops am s val A es H π0 w0 L k π a w) {i k0 : Nat} (hi : i ∈ Region.ready .any ops L) (hk : es[k0]? = some i) : k0 = k := by
 obtain ⟨hlt, hun⟩ := ready_at j.cl.1 hi
 have h1 : ¬ k0 < k := fun h => by have := (j.num k0 i hk).2 h; rw [hun] at this; cases this
 rcases Nat.lt_or_ge k k0 with h2 | h2
 ·exfalso
  have hk0 : k0 < es.length := (List.getElem?_eq_some_iff.1 hk).1
  have hkk : es[k]? = some es[k] := List.getElem?_eq_getElem (by omega)
  have h3 := hd.chain k k0 _ _ h2 hkk hk
  have h4 := anc_ready hd.anc j.cl hi h3
  have := (j.num k _ hkk).1 h4
  omega
 ·omega
theorem J.eff (hd : DrawD Γ E (Sim P G I) ops am s on val A es H s') (hops : ∀ o ∈ ops, operOk n o = true) (j : J G I n ops am s val A es H π0 w0 L k π a w) {i : Nat} {o : Oper} {v' : Value} (hi : i ∈ Region.ready .any ops L) (ho : ops[i]? = some o)
  (hk : es[k]? = some i) (hA : A i = none) (hv : VR π' (val i) v') (st : Step G I (fun m => m = s.h.next + i) π (hin ops am s A es H k i) w π' (H (k + 1)) w') : J G I n ops am s val A es H π0 w0 (L.setIfInBounds i true) (k + 1) π' (a.put o.dst v') w' := by
 obtain ⟨hlt, hun⟩ := ready_at j.cl.1 hi
 have hiL : i < L.size := by have := j.cl.1; omega
 let f := sd s.h.next ops.size A fun y => L.getD y false && !mg am es k y && !ancB am y i
 have hcur : uni (hin ops am s A es H k i) f = cur ops am s A es H L k := by
  refine hp_ext rfl fun m => ?_
  simp only [uni_blk, hin, cur]
  cases (H k).blk m with
  | some b => rfl
  | none =>
   simp only [f, sd]
   by_cases hm : s.h.next ≤ m ∧ m < s.h.next + ops.size
   ·obtain ⟨m1, m2⟩ := hm
    have hal : ancB am (m - s.h.next) i = true → L.getD (m - s.h.next) false = true := fun h => anc_ready hd.anc j.cl hi h
    simp only [m1, m2, true_and]
    cases h1 : ancB am (m - s.h.next) i <;> cases h2 : mg am es k (m - s.h.next) <;> cases h3 : L.getD (m - s.h.next) false <;> simp [h1, h3] at hal ⊢
    cases A (m - s.h.next) <;> rfl
   ·have e1 : ∀ q : Bool, ¬ (s.h.next ≤ m ∧ m < s.h.next + ops.size ∧ q = true) := fun q x => hm ⟨x.1, x.2.1⟩
    rw [if_neg (e1 _), if_neg (e1 _), if_neg (e1 _)]
 have hf : ∀ m b, f m = some b → ∃ y, m = s.h.next + y ∧ y < ops.size ∧ L.getD y false = true ∧ mg am es k y = false ∧ ancB am y i = false ∧ A y = some b := by
  intro m b hm
  obtain ⟨y, h1, h2, h3, h4⟩ := sd_at hm
  simp only [Bool.and_eq_true, Bool.not_eq_true'] at h3
  exact ⟨y, h1, h2, h3.1.1, h3.1.2, h3.2, h4⟩
 have hr := j.st.rep
 obtain ⟨k1, k2⟩ := frame_step (f := f) (by rw [hcur]; exact hr) (fun m b hm => by obtain ⟨y, _, h2, _, _, _, h6⟩ := hf m b hm; exact A_rw hd h2 h6)
  (fun m b hm => by
   obtain ⟨y, rfl, h2, h3, h4, h5, h6⟩ := hf m b hm
   rw [hin, uni_blk, j.side y h2 h3 h4 (by rw [h6]; simp)]
   exact sd_no (by rw [h5]; rfl)) st
  (fun m b hm x => by obtain ⟨y, rfl, h2, h3, _⟩ := hf m b hm; have : y = i := by omega
                      subst this; rw [hun] at h3; cases h3)
 rw [hcur] at k1
 have hnext : uni (H (k + 1)) f = cur ops am s A es H (L.setIfInBounds i true) (k + 1) := by
  refine hp_ext rfl fun m => ?_
  simp only [uni_blk, cur]
  cases (H (k + 1)).blk m with
  | some b => rfl
  | none =>
   simp only [f, sd]
   by_cases hm : m - s.h.next = i
   ·rw [hm, hA]; simp
   ·have : (L.setIfInBounds i true).getD (m - s.h.next) false = L.getD (m - s.h.next) false := by rw [getD_set hiL, if_neg (Ne.symm hm)]
    simp only [this, mg_succ hk]
    congr 3
    cases L.getD (m - s.h.next) false <;> cases mg am es k (m - s.h.next) <;> cases ancB am (m - s.h.next) i <;> rfl
 rw [hnext] at k1
 refine j.next hd.haz hops hi ho hv k1 ?_ ?_ ?_ ?_
 ·intro x e he
  rw [getD_set hiL]
  by_cases hx : x = k
  ·subst hx
   rw [hk] at he; injection he with he
   rw [if_pos he]; simp
  ·have hne : i ≠ e := by
    intro h; subst h
    have h1 := hd.chain
    rcases Nat.lt_or_gt_of_ne hx with h2 | h2
    ·exact Nat.lt_irrefl i (anc_size hd.anc hlt (h1 x k i i h2 he hk))
    ·exact Nat.lt_irrefl i (anc_size hd.anc hlt (h1 k x i i h2 hk he))
   rw [if_neg hne]
   have := j.num x e he
   rw [this]; omega
 ·have := (List.getElem?_eq_some_iff.1 hk).1; omega
 ·intro y hy hl hm hAy
  rw [getD_set hiL, if_neg fun h => hAy (by rw [← h]; exact hA)] at hl
  rw [mg_succ hk, Bool.or_eq_false_iff] at hm
  cases hAb : A y with
  | none => exact absurd hAb hAy
  | some b => exact k2 _ b (by simp only [f]; rw [sd_mk hy (by simp [hl, hm.1, hm.2]), hAb])
 ·have := st.nx
  have h2 := j.nx
  exact Nat.le_trans h2 this
theorem ldv_congr {t : TypeId} {x : Value} {h h' : Hp} (hh : ∀ m o, x = .pointer (some ⟨m, o, none⟩) → h.blk m = h'.blk m) : ldv Γ t x h = ldv Γ t x h' := by
 unfold ldv
 split
 ·rename_i m o i hg
  have := hh m o rfl
  simp only [Hp.cells, Hp.cell, this]
 ·rfl
theorem VR_slice {v : Value} {m o kk c : Nat} (h : VR π (.slice (some ⟨m, o, none⟩) kk c) v) : VR1 π (.slice (some ⟨m, o, none⟩) kk c) v := h
theorem textV_congr {q d : TypeId} {x : Value} {h h' : Hp} (hh : ∀ m o kk c, x = .slice (some ⟨m, o, none⟩) kk c → h.blk m = h'.blk m) : textV Γ q d x h = textV Γ q d x h' := by
 unfold textV
 split
 ·rfl
 ·rename_i m o kk c hg1 hg2
  have := hh m o kk c rfl
  simp only [Hp.cells, this]
 ·rfl
theorem J.step (hI : Low G I) (K : Know P Γ E) (hd : DrawD Γ E (Sim P G I) ops am s on val A es H s') (hops : ∀ o ∈ ops, operOk n o = true) (j : J G I n ops am s val A es H π0 w0 L k π a w) {i : Nat} (hi : i ∈ Region.ready .any ops L) (Q : Exit → Act → World → Prop) :
  wpOp P ops Q i (fun a' w' => ∃ k' π', J G I n ops am s val A es H π0 w0 (L.setIfInBounds i true) k' π' a' w') a w := by
 obtain ⟨hlt, hun⟩ := ready_at j.cl.1 hi
 have hiL : i < L.size := by have := j.cl.1; omega
 have ho : ops[i]? = some ops[i] := Array.getElem?_eq_getElem hlt
 obtain ⟨hw, hoff, hon⟩ := hd.each i _ ho
 have hwant := want_ok' hw (j.reads hd.haz hd.anc hops hi ho) (fun d hd' => by rw [j.size]; exact looks_lt hops (Array.mem_of_getElem? ho) hd')
 have hopnd := j.opnd hd.haz hd.anc hops hi ho
 have hr := j.st.rep
 have hnew := j.new i hlt hun
 unfold wpOp
 rw [ho]
 simp only [hwant]
 cases hoi : on i with
 | false =>
  obtain ⟨h1, h2, h3⟩ := hoff hoi
  simp only [Bool.false_eq_true, if_false]
  exact ⟨k, π, j.still hd.haz hops hi ho (by rw [h1]; exact vundef) h2 h3⟩
 | true =>
  simp only [if_true]
  refine .inl ?_
  have hst := hon hoi
  unfold stepC at hst
  unfold Oper.wp
  -- the heap that a call or a write finds
  have hsub : ∀ k, Rep G I π (cur ops am s A es H L k) w → Rep G I π (hin ops am s A es H k i) w := by
   intro k hr
   refine Rep.sub hr rfl fun m b hm => ?_
   rcases uni_some hm with h | ⟨h1, h2⟩
   ·exact uni_left h
   ·rw [uni_blk, h1]
    obtain ⟨y, rfl, h3, h4, h5⟩ := sd_at h2
    simp only [Bool.and_eq_true] at h4
    show sd _ _ _ _ _ = _
    rw [sd_mk h3 (by rw [anc_ready hd.anc j.cl hi h4.1, h4.2]; rfl)]
    exact h5
  split at hst
  ·rename_i g args hc
   obtain ⟨k0, h1, ⟨hg, hsim⟩, h3⟩ := hst
   have := j.place hd hi h1; subst this
   obtain ⟨args', q1, q2⟩ := callee_ok (P := P) hc hopnd hg
   rw [q2, Oper.upon_enter]
   refine (hsim π w args' (hsub _ hr) q1).mono ?_
   rintro e w' ⟨v', π1, rfl, r1, r2⟩
   exact ⟨_, π1, j.eff hd hops hi ho h1 h3 r1 (r2.wk fun _ _ x => x.elim)⟩
  ·rename_i hc
   split at hst
   ·rename_i v hp
    obtain ⟨h1, h2, h3⟩ := hst
    subst h1
    obtain ⟨v', q1, q2⟩ := pureV_sound (P := P) K hp hopnd
    rw [q2 w, Oper.upon_value]
    exact ⟨k, π, j.still hd.haz hops hi ho q1 h2 h3⟩
   ·rename_i hp
    have reader : ∀ (rd : Hp → Option Value), rdC ops am s val A es H rd i → (∀ h h' : Hp, (∀ m p, π m = some p → h.blk m = h'.blk m) → rd h = rd h') →
      (∀ v, rd (cur ops am s A es H L k) = some v → ∃ v', VR π v v' ∧ (execOp a.eval ops[i]).run P w = .ok (.value v') w) →
      ∃ v', VR π (val i) v' ∧ (execOp a.eval ops[i]).run P w = .ok (.value v') w := by
     intro rd hst cg snd
     obtain ⟨h1, h2, ⟨k0, h3, h4, h5⟩, h6⟩ := hst
     have hrange : ∀ (y e : Nat), es[y]? = some e → (y < k → ancB am i e = false) ∧ (k ≤ y → ancB am e i = false) := by
      intro y e he
      refine ⟨fun hy => ?_, fun hy => ?_⟩
      ·cases hb : ancB am i e with
       | false => rfl
       | true => have := anc_in hd.anc j.cl (hd.esN e (List.mem_of_getElem? he)) hb ((j.num y e he).2 hy); rw [hun] at this; cases this
      ·cases hb : ancB am e i with
       | false => rfl
       | true => have := (j.num y e he).1 (anc_ready hd.anc j.cl hi hb); omega
     have hconst : ∀ d p q, q = p + d → q ≤ es.length → (∀ (y e : Nat), es[y]? = some e → p ≤ y → y < q → ancB am i e = false ∧ ancB am e i = false) →
       rd (full ops am s A es H p) = rd (full ops am s A es H q) := by
      intro d
      induction d with
      | zero => intro p q hq _ _; subst hq; rfl
      | succ d ih =>
       intro p q hq hl hall
       have hp1 : es[p]? = some es[p] := List.getElem?_eq_getElem (by omega)
       obtain ⟨z1, z2⟩ := hall p _ hp1 (Nat.le_refl _) (by omega)
       rw [h6 p _ hp1 z1 z2]
       exact ih (p + 1) q (by omega) hl fun y e he y1 y2 => hall y e he (by omega) y2
     have hl : rd (full ops am s A es H k) = some (val i) := by
      rw [← h5]
      rcases Nat.le_total k k0 with hk | hk
      ·exact hconst (k0 - k) k k0 (by omega) h3 fun y e he y1 y2 => ⟨(h4 y e he).1 y2, (hrange y e he).2 y1⟩
      ·exact (hconst (k - k0) k0 k (by omega) j.nl fun y e he y1 y2 => ⟨(hrange y e he).1 y2, (h4 y e he).2 y1⟩).symm
     refine snd _ ?_
     rw [← hl]
     refine cg _ _ fun m p hp2 => ?_
     simp only [cur, full, uni_blk]
     cases (H k).blk m with
     | some b => rfl
     | none =>
      simp only [sd]
      by_cases hm2 : s.h.next ≤ m ∧ m < s.h.next + ops.size
      ·have hL : L.getD (m - s.h.next) false = true := by
        cases hl : L.getD (m - s.h.next) false with
        | true => rfl
        | false =>
         have := j.new (m - s.h.next) (by omega) hl
         rw [show s.h.next + (m - s.h.next) = m by omega, hp2] at this
         cases this
       simp only [hL, Bool.true_and]
      ·rw [if_neg fun z => hm2 ⟨z.1, z.2.1⟩, if_neg fun z => hm2 ⟨z.1, z.2.1⟩]
    split at hst
    ·rename_i t x hop
     have hox : VR π ((sAt ops s val i).ev x) (a.eval x) := hopnd x (by rw [hop]; simp [Op.operands])
     obtain ⟨v', q1, q3⟩ := reader _ hst (fun h h' hh => ldv_congr fun m o hm => by
      rw [hm] at hox
      obtain ⟨p, hp2, _⟩ : VR1 π (.pointer (some ⟨m, o, none⟩)) (a.eval x) := hox
      exact hh m p hp2) (fun v hl => by
      obtain ⟨v', q1, q2⟩ := load_sound (P := P) K hr hl hox
      refine ⟨v', q1.f.v, ?_⟩
      have : execOp a.eval ops[i] = (do let v ← Instr.loadAt t (a.eval x); pure (.value v)) := by
       unfold execOp; rw [hop]
      rw [this]
      simp only [Sem.run_bind, q2, Result.andThen_ok, Sem.run_pure])
     rw [q3, Oper.upon_value]
     exact ⟨k, π, j.still hd.haz hops hi ho q1 hst.1 hst.2.1⟩
    ·split at hst
     ·rename_i v b hm
      obtain ⟨h1, h2, h3⟩ := hst
      subst h1
      obtain ⟨v', w', π', q1, q2, q3⟩ := make_sound (P := P) hI K hr hm hopnd hnew (by show s.h.next + i < (H k).next; have := j.nx; omega)
      rw [q1, Oper.upon_value]
      have hb : (H k).blk (s.h.next + i) = none := by
       cases hb : (H k).blk (s.h.next + i) with
       | none => rfl
       | some b2 => obtain ⟨p, hp, _⟩ := hr.pl _ _ (uni_left hb); rw [hnew] at hp; cases hp
      have hmg : mg am es k i = false := by
       cases hmg : mg am es k i with
       | false => rfl
       | true =>
        obtain ⟨y, e, h4, h5, h6⟩ := mg_hit am hmg
        have := anc_in hd.anc j.cl (hd.esN e (List.mem_of_getElem? h5)) h6 ((j.num y e h5).2 h4)
        rw [hun] at this; cases this
      have hcur : (cur ops am s A es H L k).put (s.h.next + i) (some b) = cur ops am s A es H (L.setIfInBounds i true) k := by
       refine hp_ext rfl fun m => ?_
       simp only [Hp.put, cur, uni_blk]
       by_cases hm2 : m = s.h.next + i
       ·subst hm2
        rw [if_pos rfl, hb]
        show _ = sd _ _ _ _ _
        rw [sd_mk hlt (by rw [getD_set hiL, if_pos rfl, hmg]; rfl), h2]
       ·rw [if_neg hm2]
        cases (H k).blk m with
        | some b => rfl
        | none =>
         simp only [sd]
         by_cases hm3 : s.h.next ≤ m
         ·have : (L.setIfInBounds i true).getD (m - s.h.next) false = L.getD (m - s.h.next) false := by rw [getD_set hiL, if_neg (by omega)]
          simp only [this]
         ·rw [if_neg fun z => hm3 z.1, if_neg fun z => hm3 z.1]
      rw [hcur] at q3
      refine ⟨k, π', j.next hd.haz hops hi ho q2 q3 ?_ j.nl ?_ j.nx⟩
      ·intro x e he
       rw [getD_set hiL, if_neg fun h => h3 (by subst h; exact List.mem_of_getElem? he)]
       exact j.num x e he
      ·intro y hy hl hm2 hAy
       by_cases hyi : i = y
       ·subst hyi; exact hb
       ·rw [getD_set hiL, if_neg hyi] at hl
        exact j.side y hy hl hm2 hAy
     ·split at hst
      ·rename_i q d x hop
       have hox : VR π ((sAt ops s val i).ev x) (a.eval x) := hopnd x (by rw [hop]; simp [Op.operands])
       obtain ⟨v', q1, q3⟩ := reader _ hst (fun h h' hh => textV_congr fun m o kk c hm => by
        rw [hm] at hox
        obtain ⟨p, _, _, hp2, _⟩ : VR1 π (.slice (some ⟨m, o, none⟩) kk c) (a.eval x) := VR_slice hox
        exact hh m p hp2) (fun v hl => by
        obtain ⟨q1, q2⟩ := text_sound (P := P) K hr hl hox
        refine ⟨v, q1, ?_⟩
        have : execOp a.eval ops[i] = (do let v ← convert q d (a.eval x); pure (.value v)) := by
         unfold execOp; rw [hop]
        rw [this]
        simp only [Sem.run_bind, q2, Result.andThen_ok, Sem.run_pure])
       rw [q3, Oper.upon_value]
       exact ⟨k, π, j.still hd.haz hops hi ho q1 hst.1 hst.2.1⟩
      ·obtain ⟨k0, h1, h2, h3⟩ := hst
       have := j.place hd hi h1; subst this
       obtain ⟨v', w', π', q1, q2, q3⟩ := eff_sound (P := P) hI K (hsub _ hr) h2 hopnd hnew (by show s.h.next + i < (H k0).next; have := j.nx; omega)
       have q4 := j.eff hd hops hi ho h1 h3 q2 q3
       rcases q1 with q1 | ⟨q1, hu⟩
       ·rw [q1, Oper.upon_value]; exact ⟨_, π', q4⟩
       ·rw [q1, Oper.upon_skip]
        exact ⟨_, π', by
         have q5 := j.eff hd hops hi ho h1 h3 (v' := undef) (by rw [← hu]; exact q2) q3
         exact q5⟩
theorem all_up (hL : L.size = ops.size) (ha : ancOk ops am = true) (h : Region.ready .any ops L = []) : ∀ i, i < ops.size → L.getD i false = true := by
 intro i
 induction i using Nat.strongRecOn with
 | _ i ih =>
  intro hi
  cases hl : L.getD i false with
  | true => rfl
  | false =>
   exfalso
   have hiL : i < L.size := by omega
   have : i ∈ Region.ready .any ops L := by
    refine mem_ready.2 ⟨by simp [Array.getD, hiL] at hl ⊢; exact hl, _, Array.getElem?_eq_getElem hi, fun e he hb => ?_⟩
    have h1 := List.all_eq_true.1 ha i (List.mem_range.2 hi)
    rw [Array.getElem?_eq_getElem hi] at h1
    simp only [Bool.and_eq_true, List.all_eq_true, decide_eq_true_eq] at h1
    have h2 := h1.1 e.on (by unfold edges; simp only [List.mem_map, List.mem_filter]; exact ⟨e, ⟨by simpa using he, hb⟩, rfl⟩)
    exact ih e.on h2 (by omega)
   rw [h] at this
   simp at this
theorem draw_sound (hI : Low G I) (K : Know P Γ E) : DSound P G I n (Draw Γ E (Sim P G I) n) := by
 intro ops s s' hdr id a w π hops hs hr
 obtain ⟨am, on, val, A, es, H, hd⟩ := hdr
 refine wp_region_any K.mixed ?_
 have key : ∀ (fuel : Nat) (L : Array Bool) (k : Nat) (π1 : Nat → Option Pl) (a1 : Act) (w1 : World), L.toList.countP (fun b => b) + fuel = ops.size → J G I n ops am s val A es H π w L k π1 a1 w1 →
   wpAny P .any ops (fun e a' w' => e = .normal ∧ ∃ π', SR n π' s' a' ∧ Step G I (fun _ => False) π s.h w π' s'.h w') fuel L a1 w1 := by
  have fin : ∀ (L : Array Bool) (k : Nat) (π1 : Nat → Option Pl) (a1 : Act) (w1 : World), J G I n ops am s val A es H π w L k π1 a1 w1 → Region.ready .any ops L = [] →
    ∃ π', SR n π' s' a1 ∧ Step G I (fun _ => False) π s.h w π' s'.h w1 := by
   intro L k π1 a1 w1 j hl
   have hall := all_up j.cl.1 hd.anc hl
   have hk : k = es.length := by
    have := j.nl
    rcases Nat.lt_or_ge k es.length with h | h
    ·have h1 : es[k]? = some es[k] := List.getElem?_eq_getElem h
     have h2 := (j.num k _ h1).1 (hall _ (hd.esN _ (List.mem_of_getElem? h1)))
     omega
    ·omega
   refine ⟨π1, ⟨j.defers, j.size, fun t ht => ?_⟩, ?_⟩
   ·rw [hd.final]
    show VR π1 (fr ops s.t val ops.size t) _
    by_cases hex : ∃ x, x < ops.size ∧ dstOf ops x = some t
    ·obtain ⟨x, hx, hdx⟩ := hex
     rw [fr_hit hd.haz hx hdx _ hx (Nat.le_refl _)]
     exact j.got x t hx hdx (hall x hx)
    ·rw [fr_miss _ fun y hy hdy => hex ⟨y, hy, hdy⟩]
     exact j.old t ht fun y hy hdy => absurd ⟨y, hy, hdy⟩ hex
   ·have h1 : cur ops am s A es H L k = s'.h := by
     rw [hd.final, hk]
     refine hp_ext rfl fun m => ?_
     simp only [cur, full, uni_blk]
     cases (H es.length).blk m with
     | some b => rfl
     | none =>
      simp only [sd]
      by_cases hm : s.h.next ≤ m ∧ m < s.h.next + ops.size
      ·simp only [hall (m - s.h.next) (by omega), Bool.true_and]
      ·rw [if_neg fun z => hm ⟨z.1, z.2.1⟩, if_neg fun z => hm ⟨z.1, z.2.1⟩]
    rw [← h1]
    exact j.st.wk fun m hm hN => by omega
  intro fuel
  induction fuel with
  | zero =>
   intro L k π1 a1 w1 hc j
   have hl : Region.ready .any ops L = [] := by
    have h1 : L.toList.countP (fun b => b) = L.toList.length := by rw [Array.length_toList]; have := j.cl.1; omega
    have h2 := List.countP_eq_length.1 h1
    cases hr : Region.ready .any ops L with
    | nil => rfl
    | cons i r =>
     exfalso
     obtain ⟨h3, h4⟩ := ready_at j.cl.1 (by rw [hr]; exact List.mem_cons_self : i ∈ Region.ready .any ops L)
     have hiL : i < L.size := by have := j.cl.1; omega
     have h5 := h2 L[i] (by simp)
     simp [Array.getD, hiL] at h4
     rw [h4] at h5
     cases h5
   exact ⟨hl, rfl, fin L k π1 a1 w1 j hl⟩
  | succ fuel ih =>
   intro L k π1 a1 w1 hc j
   refine ⟨fun hl => ⟨rfl, fin L k π1 a1 w1 j hl⟩, fun i hi => ?_⟩
   refine wpOp_mono ?_ (j.step hI K hd hops hi _)
   rintro a2 w2 ⟨k', π', j'⟩
   refine ih _ k' π' a2 w2 ?_ j'
   obtain ⟨h3, h4⟩ := ready_at j.cl.1 hi
   have hiL : i < L.size := by have := j.cl.1; omega
   simp [Array.getD, hiL] at h4
   rw [Array.toList_setIfInBounds, List.countP_set (by simpa using hiL)]
   have h5 : L[i] = false := h4
   simp only [Array.getElem_toList, h5, Bool.false_eq_true, if_false, if_true]
   omega
 have hsz : (Array.replicate ops.size false).size = ops.size := by simp
 have hno : ∀ i, (Array.replicate ops.size false).getD i false = false := fun i => by
  rw [Array.getD_eq_getD_getElem?, Array.getElem?_replicate]; split <;> rfl
 have hw : Rep G I π s.h { w with drawn := w.drawn + 1 } := ⟨hr.dom, hr.pl, hr.uniq, hr.big, hr.rwG, hI _ _ hr.inv (fun _ _ => rfl) ⟨rfl, rfl, rfl⟩⟩
 have hcur : cur ops am s A es H (Array.replicate ops.size false) 0 = s.h.cl ops.size := by
  refine hp_ext (by show (H 0).next = _; rw [hd.begin_]) fun m => ?_
  simp only [cur, uni_blk, hd.begin_]
  cases hb : (s.h.cl ops.size).blk m with
  | some b => rfl
  | none => simp [sd, hno]
 refine key ops.size _ 0 π a _ (by rw [Array.toList_replicate, List.countP_replicate]; simp) ⟨⟨hsz, fun i o _ h => by rw [hno] at h; cases h⟩, fun x e _ => by rw [hno]; simp, Nat.zero_le _, hs.1, hs.2.1, (fun i t _ _ h => by rw [hno] at h; cases h), fun t ht _ => hs.2.2 t ht, ?_, ?_, (fun y _ h => by rw [hno] at h; cases h), ?_⟩
 ·show Step G I _ π s.h w π (cur ops am s A es H (Array.replicate ops.size false) 0) _
  rw [hcur]
  have h1 := Step.to hw (Nat.le_add_right s.h.next ops.size) (fun m => s.h.next ≤ m)
  have hcl : ∀ m b, (s.h.cl ops.size).blk m = some b → (s.h.to (s.h.next + ops.size)).blk m = some b := by
   intro m b hm
   simp only [Hp.cl] at hm
   split at hm
   ·exact hm
   ·cases hm
  exact ⟨h1.rep.sub rfl hcl, h1.same, h1.le, Nat.le_refl _, fun _ _ _ => rfl, fun m b q hb hq => h1.prov m b q (hcl m b hb) hq, h1.nx⟩
 ·intro i hi _
  cases hp : π (s.h.next + i) with
  | none => rfl
  | some p => have := (hr.dom _ p hp).1; omega
 ·rw [hd.begin_]; exact Nat.le_refl _
end
end Go.Proofs.YtonpnjfclelpiaaGreatM
