import Derived.Test.YtonpnjfclelpiaaGreatVDMiP
import Derived.Laws.MakeOwn
import Derived.Laws.AppendOwn
import Derived.Laws.IdiomStrings
import Derived.Laws.BytesString
namespace Go.Proofs.YtonpnjfclelpiaaGreatM
open Go
set_option linter.unusedVariables false
set_option linter.unusedSimpArgs false
section
variable {P : Program} {Γ : TypeId → Option TI} {E : TypeId → Nat} {G : Nat} {I : World → Prop} {π : Nat → Option Pl} {h : Hp} {w : World}
def Aux (w w' : World) : Prop := w'.os = w.os ∧ w'.tape = w.tape ∧ w'.output = w.output
def Low (G : Nat) (I : World → Prop) : Prop := ∀ w w', I w → (∀ i, i < G → w'.heap[i]? = w.heap[i]?) → Aux w w' → I w'
theorem cell_at {b : Nat} {c : Array Value} {e : TypeId} {fr : Nat × Nat} (hw : w.heap[b]? = some (.cells c e fr)) (i : Nat) : w.cell? ⟨b, i, none⟩ = c[i]? := by
 unfold World.cell?
 simp only [hw]
 simp
theorem ex_list {R : Value → Value → Prop} : ∀ (cs : List Value) (f : Nat → Option Value), (∀ (j : Nat) (v : Value), cs[j]? = some v → ∃ v', f j = some v' ∧ R v v') →
  ∃ cs' : List Value, All2 R cs cs' ∧ ∀ (j : Nat) (v : Value), cs'[j]? = some v → f j = some v
 | [], f, _ => ⟨[], trivial, fun j v hh => by simp at hh⟩
 | c :: cs, f, hf => by
  obtain ⟨v', h1, h2⟩ := hf 0 c rfl
  obtain ⟨cs', h3, h4⟩ := ex_list cs (fun j => f (j + 1)) (fun j v hv => hf (j + 1) v (by simpa using hv))
  refine ⟨v' :: cs', ⟨h2, h3⟩, fun j v hv => ?_⟩
  cases j with
  | zero => simp at hv; rw [← hv]; exact h1
  | succ j => exact h4 j v (by simpa using hv)
theorem Rep.cell (r : Rep G I π h w) {n o : Nat} {v : Value} {p : Pl} (hc : h.cell n o = some v) (hp : π n = some p) :
  ∃ v', w.cell? ⟨p.blk, p.off + o, none⟩ = some v' ∧ VR1 π v v' := by
 unfold Hp.cell at hc
 cases hb : h.blk n with
 | none => rw [hb] at hc; cases hc
 | some b =>
  rw [hb] at hc
  simp only [Option.bind_some] at hc
  obtain ⟨q, hq, hl, c, e, fr, hw, hv, _⟩ := r.pl n b hb
  rw [hp] at hq; injection hq with hq; subst hq
  obtain ⟨v', h1, h2⟩ := hv o v hc
  exact ⟨v', by rw [cell_at hw]; exact h1, h2⟩
theorem Rep.cells (r : Rep G I π h w) {n o k : Nat} {cs : List Value} {p : Pl} (hc : h.cells n o k = some cs) (hp : π n = some p) :
  cs.length = k ∧ ∃ cs', All2 (VR1 π) cs cs' ∧ ∀ (j : Nat) (v : Value), cs'[j]? = some v → w.cell? ⟨p.blk, p.off + o + j, none⟩ = some v := by
 unfold Hp.cells at hc
 cases hb : h.blk n with
 | none => rw [hb] at hc; cases hc
 | some b =>
  rw [hb] at hc
  simp only [Option.bind_some] at hc
  split at hc
  ·rename_i hk
   injection hc with hc; subst hc
   obtain ⟨q, hq, hl, c, e, fr, hw, hv, _⟩ := r.pl n b hb
   rw [hp] at hq; injection hq with hq; subst hq
   refine ⟨by simp; omega, ?_⟩
   obtain ⟨cs', h1, h2⟩ := ex_list (R := VR1 π) ((b.cells.drop o).take k) (fun j => w.cell? ⟨p.blk, p.off + o + j, none⟩) (by
    intro j v hj
    have hjk : j < k := by
     have := (List.getElem?_eq_some_iff.1 hj).1
     simp at this; omega
    rw [List.getElem?_take_of_lt hjk, List.getElem?_drop] at hj
    obtain ⟨v', h1, h2⟩ := hv (o + j) v hj
    exact ⟨v', by rw [cell_at hw, Nat.add_assoc]; exact h1, h2⟩)
   exact ⟨cs', h1, h2⟩
  ·cases hc
theorem load_sound (K : Know P Γ E) (r : Rep G I π h w) {t : TypeId} {a a' v : Value} (hl : ldv Γ t a h = some v) (ha : VR π a a') :
  ∃ v', VRa π v v' ∧ (Instr.loadAt t a').run P w = .ok v' w := by
 unfold ldv at hl
 split at hl
 ·rename_i n o i hg
  obtain ⟨p, hp, rfl⟩ : VR1 π (.pointer (some ⟨n, o, none⟩)) a' := ha
  split at hl
  ·rename_i hagg
   cases hc : h.cells n o i.size with
   | none => rw [hc] at hl; cases hl
   | some cs =>
    rw [hc] at hl
    injection hl with hl; subst hl
    obtain ⟨h1, cs', h2, h3⟩ := r.cells hc hp
    refine ⟨.agg cs'.toArray, ⟨_, rfl, by simpa using h2⟩, ?_⟩
    have := run_loadCells_list (P := P) w ⟨p.blk, p.off + o, none⟩ cs' (fun j v hj => by rw [Addr.add_lit]; exact h3 j v hj)
    rw [← h2.length, h1] at this
    simp [Instr.loadAt, Instr.sureAddr, loadVar, K.agg hg, hagg, K.size hg, this]
  ·rename_i hagg
   obtain ⟨v', h1, h2⟩ := r.cell hl hp
   refine ⟨v', h2.a, ?_⟩
   simp [Instr.loadAt, Instr.sureAddr, loadVar, K.agg hg, hagg, h1]
 ·cases hl
theorem new_step (hI : Low G I) (r : Rep G I π h w) {w' : World} {nm : Nat} {b : Blk} {c : Array Value} {e : TypeId} {fr : Nat × Nat} (hh : w'.heap = w.heap.push (.cells c e fr))
  (hn : π nm = none) (hlt : nm < h.next) {cs' tail : List Value} (hc : c.toList = cs' ++ tail) (hv : All2 (VR1 π) b.cells cs') (hfr : ∀ i, i < c.size → ¬ (fr.1 ≤ i ∧ i < fr.2)) (hax : Aux w w' := by exact ⟨rfl, rfl, rfl⟩) :
  Step G I (fun n => n = nm) π h w (fun m => if m = nm then some ⟨w.heap.size, 0, c.size⟩ else π m) (h.put nm (some b)) w' := by
 have hbn : h.blk nm = none := by
  cases hb : h.blk nm with
  | none => rfl
  | some b => obtain ⟨p, hp, _⟩ := r.pl nm b hb; rw [hn] at hp; cases hp
 have le : Le π (fun m => if m = nm then some ⟨w.heap.size, 0, c.size⟩ else π m) := by
  intro n p hp
  have : n ≠ nm := fun x => by rw [x, hn] at hp; cases hp
  simp [this, hp]
 have sz : w'.heap.size = w.heap.size + 1 := by rw [hh]; simp
 have old : ∀ i, i < w.heap.size → w'.heap[i]? = w.heap[i]? := by
  intro i hi
  rw [hh, Array.getElem?_push]
  simp [show i ≠ w.heap.size by omega]
 have hlen : b.cells.length ≤ c.size := by
  have := hv.length
  have h2 : c.toList.length = cs'.length + tail.length := by rw [hc]; simp
  simp at h2; omega
 refine ⟨⟨?_, ?_, ?_, ?_, ?_, ?_⟩, ?_, le, by omega, fun i hi _ => old i hi, ?_, Nat.le_refl _⟩
 ·intro n p hp
  by_cases hx : n = nm
  ·subst hx; simp at hp; subst hp; exact ⟨hlt, trivial⟩
  ·simp [hx] at hp; have := r.dom n p hp; exact ⟨this.1, trivial⟩
 ·intro n b' hb
  by_cases hx : n = nm
  ·subst hx
   simp [Hp.put] at hb; subst hb
   refine ⟨⟨w.heap.size, 0, c.size⟩, by simp, hlen, c, e, fr, ?_, ?_, ?_⟩
   ·rw [hh]; simp
   ·intro i v hi
    obtain ⟨v', h1, h2⟩ := hv.get i v hi
    refine ⟨v', ?_, h2.mono le⟩
    rw [← Array.getElem?_toList, hc, Nat.zero_add, List.getElem?_append_left (List.getElem?_eq_some_iff.1 h1).1]
    exact h1
   ·intro _
    exact ⟨by simp, fun i hi => by simpa using hfr i hi⟩
  ·simp [Hp.put, hx] at hb
   obtain ⟨p, hp, h1, c2, e2, fr2, h2, h3, h4⟩ := r.pl n b' hb
   refine ⟨p, by simp [hx, hp], h1, c2, e2, fr2, ?_, ?_, h4⟩
   ·rw [old _ (r.lt hb hp)]; exact h2
   ·intro i v hi
    obtain ⟨v', k1, k2⟩ := h3 i v hi
    exact ⟨v', k1, k2.mono le⟩
 ·intro n m bn bm p q hnm h1 h2 h3 h4 h5
  by_cases hx : n = nm
  ·subst hx
   have hy : m ≠ n := fun x => hnm x.symm
   simp [hy] at h5
   simp at h4; subst h4
   have := r.lt (by simpa [Hp.put, hy] using h3) h5
   simp; omega
  ·simp [hx] at h4
   by_cases hy : m = nm
   ·subst hy
    simp at h5; subst h5
    have := r.lt (by simpa [Hp.put, hx] using h1) h4
    simp; omega
   ·simp [hy] at h5
    simp [Hp.put, hx] at h1
    simp [Hp.put, hy] at h3
    exact r.uniq n m bn bm p q hnm h1 h2 h3 h4 h5
 ·have := r.big; omega
 ·intro n bn p h1 h2 h3
  by_cases hx : n = nm
  ·subst hx; simp at h3; subst h3; exact r.big
  ·simp [hx] at h3
   simp [Hp.put, hx] at h1
   exact r.rwG n bn p h1 h2 h3
 ·exact hI w w' r.inv (fun i hi => old i (by have := r.big; omega)) hax
 ·intro n hn2 hx
  simp [hx]
 ·intro m bm q h1 h2
  by_cases hx : m = nm
  ·subst hx; simp at h2; subst h2; exact .inl (Nat.le_refl _)
  ·simp [hx] at h2
   simp [Hp.put, hx] at h1
   exact .inr ⟨m, bm, q, h1, rfl, h2, rfl⟩
theorem set_step (hI : Low G I) (r : Rep G I π h w) {w' : World} {n : Nat} {b : Blk} {p : Pl} {cs : List Value} {c : Array Value} {e : TypeId} {fr : Nat × Nat} (hb : h.blk n = some b) (hrw : b.rw = true)
  (hp : π n = some p) (hw : ∃ c0, w.heap[p.blk]? = some (.cells c0 e fr) ∧ c0.size = c.size) (hsz : w'.heap.size = w.heap.size) (hw' : w'.heap[p.blk]? = some (.cells c e fr)) (hoth : ∀ i, i ≠ p.blk → w'.heap[i]? = w.heap[i]?)
  (hl : cs.length ≤ p.ext) (hv : ∀ (i : Nat) (v : Value), cs[i]? = some v → ∃ v', c[p.off + i]? = some v' ∧ VR1 π v v') (N : Nat → Prop) (hax : Aux w w') :
  Step G I N π h w π (h.put n (some { b with cells := cs })) w' := by
 obtain ⟨c0, hw0, hcs⟩ := hw
 refine ⟨⟨?_, ?_, ?_, ?_, ?_, ?_⟩, fun _ _ _ => rfl, Le.refl _, by omega, ?_, ?_, Nat.le_refl _⟩
 ·intro m q hq; have := r.dom m q hq; exact ⟨this.1, trivial⟩
 ·intro m bm hm
  by_cases hx : m = n
  ·subst hx
   simp [Hp.put] at hm; subst hm
   obtain ⟨q, hq, h1, c2, e2, fr2, h2, h3, h4⟩ := r.pl m b hb
   rw [hp] at hq; injection hq with hq; subst hq
   rw [hw0] at h2; injection h2 with h2; injection h2 with h21 h22 h23
   subst h21; subst h22; subst h23
   refine ⟨p, hp, hl, c, e, fr, hw', hv, fun hr => ?_⟩
   have := h4 hr
   exact ⟨by omega, this.2⟩
  ·simp [Hp.put, hx] at hm
   obtain ⟨q, hq, h1, c2, e2, fr2, h2, h3, h4⟩ := r.pl m bm hm
   have hne : p.blk ≠ q.blk := r.uniq n m b bm p q (Ne.symm hx) hb hrw hm hp hq
   exact ⟨q, hq, h1, c2, e2, fr2, by rw [hoth _ (Ne.symm hne)]; exact h2, h3, h4⟩
 ·intro a m ba bm q1 q2 hne h1 h2 h3 h4 h5
  have key : ∀ x bx, (h.put n (some { b with cells := cs })).blk x = some bx → ∃ by', h.blk x = some by' ∧ by'.rw = bx.rw := by
   intro x bx hx
   by_cases hxn : x = n
   ·subst hxn; simp [Hp.put] at hx; subst hx; exact ⟨b, hb, rfl⟩
   ·simp [Hp.put, hxn] at hx; exact ⟨bx, hx, rfl⟩
  obtain ⟨b1, k1, k2⟩ := key a ba h1
  obtain ⟨b2, k3, _⟩ := key m bm h3
  exact r.uniq a m b1 b2 q1 q2 hne k1 (k2.trans h2) k3 h4 h5
 ·have := r.big; omega
 ·intro m bm q h1 h2 h3
  by_cases hx : m = n
  ·subst hx; exact r.rwG m b q hb hrw h3
  ·simp [Hp.put, hx] at h1; exact r.rwG m bm q h1 h2 h3
 ·refine hI w w' r.inv (fun i hi => hoth i ?_) hax
  have := r.rwG n b p hb hrw hp
  omega
 ·intro i hi hk
  exact hoth i (fun x => hk n b p hb hrw hp x.symm)
 ·intro m bm q h1 h2
  by_cases hx : m = n
  ·subst hx
   simp [Hp.put] at h1; subst h1
   exact .inr ⟨m, b, q, hb, rfl, h2, rfl⟩
  ·simp [Hp.put, hx] at h1
   exact .inr ⟨m, bm, q, h1, rfl, h2, rfl⟩
theorem stores_run : ∀ (vs : List Value) (b o i : Nat) (w : World) (c : Array Value) (e : TypeId) (fr : Nat × Nat), w.heap[b]? = some (.cells c e fr) → o + i + vs.length ≤ c.size →
  (∀ j, j < vs.length → ¬ (fr.1 ≤ o + i + j ∧ o + i + j < fr.2)) → (∀ v ∈ vs, v.oneCell' = true) →
  ∃ w' c', (storeCells ⟨b, o, none⟩ vs i).run P w = .ok () w' ∧ w'.heap.size = w.heap.size ∧ w'.heap[b]? = some (.cells c' e fr) ∧ c'.toList = splice c.toList (o + i) vs ∧ (∀ k, k ≠ b → w'.heap[k]? = w.heap[k]?) ∧ Aux w w'
 | [], b, o, i, w, c, e, fr, hw, _, _, _ => ⟨w, c, rfl, rfl, hw, by simp [splice], fun _ _ => rfl, rfl, rfl, rfl⟩
 | v :: vs, b, o, i, w, c, e, fr, hw, hl, hf, h1 => by
  have hadd : (⟨b, o, none⟩ : Addr).add i = ⟨b, o + i, none⟩ := Addr.add_lit _ _ _
  have hst : (store ((⟨b, o, none⟩ : Addr).add i) v).run P w = .ok () (w.setCell ⟨b, o + i, none⟩ v) := by
   rw [hadd, run_store P w _ v _ (h1 v (by simp)), cell_at hw]
   have hlt : o + i < c.size := by simp at hl; omega
   have hnf : w.frozen? ⟨b, o + i, none⟩ = false := by
    unfold World.frozen?
    simp only [hw]
    have := hf 0 (by simp)
    simp only [Nat.add_zero] at this
    simpa using this
   simp [hlt, hnf]
  have hb : (w.setCell ⟨b, o + i, none⟩ v).heap[b]? = some (.cells (c.setIfInBounds (o + i) v) e fr) := by
   simp [World.setCell, Array.getElem?_modify, hw]
  obtain ⟨w', c', k1, k2, k3, k4, k5, k6⟩ := stores_run vs b o (i + 1) _ _ e fr hb (by simp at hl ⊢; omega)
   (fun j hj => by have := hf (j + 1) (by simp; omega); rwa [show o + i + (j + 1) = o + (i + 1) + j by omega] at this) (fun x hx => h1 x (by simp [hx]))
  refine ⟨w', c', ?_, ?_, k3, ?_, ?_, k6⟩
  ·simp only [storeCells, Sem.run_bind, hst, Result.andThen_ok, k1]
  ·rw [k2]; simp
  ·rw [k4]
   have hb1 : o + i + (v :: vs).length ≤ c.toList.length := by simpa using hl
   have hb2 : o + (i + 1) + vs.length ≤ (c.setIfInBounds (o + i) v).toList.length := by simp at hl ⊢; omega
   apply List.ext_getElem?
   intro j
   rw [splice_get hb2, splice_get hb1]
   simp only [List.length_cons] at hb1 ⊢
   by_cases q1 : j < o + i
   ·rw [if_pos (by omega), if_pos q1]
    simp [List.getElem?_set, show ¬ o + i = j by omega]
   ·by_cases q2 : j = o + i
    ·subst q2
     rw [if_pos (by omega), if_neg (by omega), if_pos (by omega)]
     simp at hb1 ⊢
     rw [List.getElem?_set_self (by simp; omega)]
    ·rw [if_neg (by omega), if_neg q1]
     by_cases q3 : j < o + i + (vs.length + 1)
     ·rw [if_pos (by omega), if_pos q3, show j - (o + i) = (j - (o + (i + 1))) + 1 by omega, List.getElem?_cons_succ]
     ·rw [if_neg (by omega), if_neg q3]
      simp [List.getElem?_set, show ¬ o + i = j by omega]
  ·intro k hk
   rw [k5 k hk]
   simp [World.setCell, Array.getElem?_modify, Ne.symm hk]
theorem VR1.all_one : ∀ {l m : List Value}, All2 (VR1 π) l m → ∀ v ∈ m, v.oneCell' = true
 | [], [], _, v, hv => by cases hv
 | a :: l, b :: m, ⟨h1, h2⟩, v, hv => by
  rcases List.mem_cons.1 hv with rfl | hv
  ·exact h1.one.2.1
  ·exact VR1.all_one h2 v hv
 | [], _ :: _, x, _, _ => x.elim
 | _ :: _, [], x, _, _ => x.elim
theorem write_step (hI : Low G I) (r : Rep G I π h w) {n o : Nat} {b : Blk} {p : Pl} {xs xs' : List Value} (hb : h.blk n = some b) (hrw : b.rw = true) (hp : π n = some p) (hx : All2 (VR1 π) xs xs')
  (hin : o + xs.length ≤ b.cells.length) (N : Nat → Prop) :
  ∃ w', (storeCells ⟨p.blk, p.off + o, none⟩ xs').run P w = .ok () w' ∧ Step G I N π h w π (h.put n (some { b with cells := splice b.cells o xs })) w' := by
 obtain ⟨q, hq, h1, c, e, fr, h2, h3, h4⟩ := r.pl n b hb
 rw [hp] at hq; injection hq with hq; subst hq
 obtain ⟨h5, h6⟩ := h4 hrw
 have hlen := hx.length
 obtain ⟨w', c', k1, k2, k3, k4, k5, k6⟩ := stores_run (P := P) xs' p.blk (p.off + o) 0 w c e fr h2 (by omega) (fun j hj => by
  have := h6 (o + j) (by omega)
  rwa [show p.off + (o + j) = p.off + o + 0 + j by omega] at this) (VR1.all_one hx)
 refine ⟨w', k1, ?_⟩
 have hbd : p.off + o + 0 + xs'.length ≤ c.toList.length := by simp; omega
 have hsz : c.size = c'.size := by
  have := splice_length hbd
  rw [← k4] at this
  simpa using this.symm
 refine set_step hI r hb hrw hp ⟨c, h2, hsz⟩ k2 k3 k5 (by rw [splice_length hin]; exact h1) ?_ N k6
 intro i v hv
 rw [splice_get hin] at hv
 rw [← Array.getElem?_toList, k4, splice_get hbd]
 by_cases q1 : i < o
 ·rw [if_pos q1] at hv
  rw [if_pos (by omega)]
  simpa using h3 i v hv
 ·rw [if_neg q1] at hv
  rw [if_neg (by omega)]
  by_cases q2 : i < o + xs.length
  ·rw [if_pos q2] at hv
   rw [if_pos (by omega), show p.off + i - (p.off + o + 0) = i - o by omega]
   exact hx.get _ v hv
  ·rw [if_neg q2] at hv
   rw [if_neg (by omega)]
   simpa using h3 i v hv
theorem store_sound (hI : Low G I) (K : Know P Γ E) (r : Rep G I π h w) {t : TypeId} {a a' x x' : Value} {h' : Hp} (hs : stv Γ t a x h = some h') (ha : VR π a a') (hx : VR π x x') (N : Nat → Prop) :
  ∃ w', (Instr.storeAt t a' x').run P w = .ok () w' ∧ Step G I N π h w π h' w' := by
 unfold stv at hs
 split at hs
 ·rename_i n o i hg
  obtain ⟨p, hp, rfl⟩ : VR1 π (.pointer (some ⟨n, o, none⟩)) a' := ha
  cases hb : h.blk n with
  | none => rw [hb] at hs; cases hs
  | some b =>
   rw [hb] at hs
   simp only [Option.bind_some] at hs
   split at hs
   ·rename_i hc
    injection hs with hs; subst hs
    simp only [Bool.and_eq_true, beq_iff_eq, decide_eq_true_eq] at hc
    obtain ⟨⟨⟨hrw, hv⟩, hsz⟩, hin⟩ := hc
    have hcs := (hx.a hv).cells
    have hl := hcs.length
    obtain ⟨w', h1, h2⟩ := write_step (P := P) hI r hb hrw hp hcs (by simp; omega) N (o := o)
    refine ⟨w', ?_, h2⟩
    have hsz' : x'.cells.size = i.size := by simp at hl; omega
    simp [Instr.storeAt, Instr.sureAddr, storeVar, K.size hg, hsz', h1]
   ·cases hs
 ·cases hs
end
end Go.Proofs.YtonpnjfclelpiaaGreatM
