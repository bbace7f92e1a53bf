import Derived.Test.YtonpnjfclelpiaaGreatVDMvl
import Derived.Test.YtonpnjfclelpiaaGreatVDMiH
namespace Go.Proofs.YtonpnjfclelpiaaGreatM
open Go Go.RowKit
set_option linter.unusedVariables false
set_option linter.unusedSimpArgs false
def TyF (Γ : TypeId → Option TI) : Nat → TypeId → FV → Prop
 | 0, _, _ => False
 | f + 1, t, v => match Γ t with
  | none => False
  | some i => match i.sh, v with
   | .int k, .int k' n => k' = k ∧ (Lit.int k n).wf = true
   | .bool, .bool b => True
   | .str, .str s => s.size ≤ maxLen
   | .slice e, .row z l => (∃ ie, Γ e = some ie ∧ z = ie.size) ∧ l.length ≤ maxLen ∧ ∀ x ∈ l, TyF Γ f e x
   | .struct fs, .agg l => l.length = fs.length ∧ ∀ (j : Nat) (p : Nat × TypeId) (x : FV), fs[j]? = some p → l[j]? = some x → TyF Γ f p.2 x
   | _, _ => False
theorem cells_len {h : Hp} {n o z : Nat} {cs : List Value} (hc : h.cells n o z = some cs) : cs.length = z := by
 unfold Hp.cells at hc
 obtain ⟨b, hb, hc⟩ := Option.bind_eq_some_iff.1 hc
 split at hc
 ·injection hc with hc; subst hc; rw [List.length_take, List.length_drop]; omega
 ·cases hc
theorem cells_app {h : Hp} {n o a b : Nat} {x y : List Value} (hx : h.cells n o a = some x) (hy : h.cells n (o + a) b = some y) : h.cells n o (a + b) = some (x ++ y) := by
 unfold Hp.cells at *
 cases hb : h.blk n with
 | none => rw [hb] at hx; cases hx
 | some c =>
  rw [hb] at hx hy
  simp only [Option.bind_some] at hx hy ⊢
  split at hx
  ·split at hy
   ·injection hx with hx; injection hy with hy
    subst hx; subst hy
    rw [if_pos (by omega), List.take_add, List.drop_drop]
   ·cases hy
  ·cases hx
section
variable {Γ : TypeId → Option TI} {h : Hp} {ow : Nat → Ow} {B : Nat}
theorem FRs.snoc {v : FV} {xs : List Value} (hv : FR h ow B v xs) : ∀ {l : List FV} {css : List (List Value)}, FRs h ow B l css → FRs h ow B (l ++ [v]) (css ++ [xs])
 | [], css, e => by unfold FRs at e; subst e; exact ⟨xs, [], rfl, hv, rfl⟩
 | d :: l, css, e => by
  unfold FRs at e; obtain ⟨c, r, rfl, h1, h2⟩ := e
  exact ⟨c, r ++ [xs], rfl, h1, FRs.snoc hv h2⟩
theorem rows_ex {P : FV → Prop} {n o z : Nat} : ∀ (k : Nat), (∀ j, j < k → ∃ xs, h.cells n (o + j * z) z = some xs ∧ ∃ v, P v ∧ FR h ow B v xs) → ∃ (l : List FV) (css : List (List Value)), l.length = k ∧ FRs h ow B l css ∧ (∀ x ∈ css, x.length = z) ∧ (∀ v ∈ l, P v) ∧ (0 < k → h.cells n o (k * z) = some css.flatten)
 | 0, _ => ⟨[], [], rfl, (by rw [FRs]), (fun x hx => by cases hx), (fun x hx => by cases hx), fun hk => absurd hk (by omega)⟩
 | k + 1, hh => by
  obtain ⟨l, css, h1, h2, h3, h4, h5⟩ := rows_ex k fun j hj => hh j (by omega)
  obtain ⟨xs, hx, v, hp, hv⟩ := hh k (by omega)
  refine ⟨l ++ [v], css ++ [xs], by simp [h1], FRs.snoc hv h2, ?_, ?_, fun _ => ?_⟩
  ·intro x hx'
   rcases List.mem_append.1 hx' with h6 | h6
   ·exact h3 x h6
   ·rw [List.mem_singleton.1 h6]; exact cells_len hx
  ·intro x hx'
   rcases List.mem_append.1 hx' with h6 | h6
   ·exact h4 x h6
   ·rw [List.mem_singleton.1 h6]; exact hp
  ·rw [List.flatten_append, List.flatten_singleton]
   rcases Nat.eq_zero_or_pos k with hk | hk
   ·subst hk
    have : css = [] := by have := FRs.count h2; rw [h1] at this; exact List.length_eq_zero_iff.1 this
    subst this
    simpa using hx
   ·rw [Nat.add_mul, Nat.one_mul]; exact cells_app (h5 hk) hx
theorem tiles_ex {Q : TypeId → FV → Prop} {cs : List Value} : ∀ {fs : List (Nat × TypeId)} {o : Nat}, tiles Γ cs.length o fs = true → (∀ (j : Nat) (p : Nat × TypeId), fs[j]? = some p → ∃ ti, Γ p.2 = some ti ∧ ∃ v, Q p.2 v ∧ FR h ow B v ((cs.drop p.1).take ti.size)) →
  ∃ (l : List FV) (css : List (List Value)), cs.drop o = css.flatten ∧ FRs h ow B l css ∧ l.length = fs.length ∧ ∀ (j : Nat) (p : Nat × TypeId) (x : FV), fs[j]? = some p → l[j]? = some x → Q p.2 x
 | [], o, ht, hh => by
  unfold tiles at ht
  have : o = cs.length := by simpa using ht
  subst this
  exact ⟨[], [], by simp, rfl, rfl, fun j p x hj => by simp at hj⟩
 | p :: fs, o, ht, hh => by
  unfold tiles at ht
  rw [Bool.and_eq_true] at ht
  obtain ⟨ho, ht⟩ := ht
  have ho : p.1 = o := by simpa using ho
  obtain ⟨ti, g1, v, g2, g3⟩ := hh 0 p rfl
  rw [g1] at ht
  obtain ⟨l, css, e1, e2, e3, e4⟩ := tiles_ex (fs := fs) ht fun j q hq => hh (j + 1) q (by simpa using hq)
  rw [ho] at g3
  refine ⟨v :: l, (cs.drop o).take ti.size :: css, ?_, ⟨_, _, rfl, g3, e2⟩, by simp [e3], ?_⟩
  ·rw [List.flatten_cons, ← e1, ← List.drop_drop, List.take_append_drop]
  ·intro j q x hq hx
   cases j with
   | zero => simp at hq hx; subst hq; subst hx; exact g2
   | succ j => exact e4 j q x (by simpa using hq) (by simpa using hx)
theorem rd_fv (hB : h.next ≤ B) (hw : ∀ n, h.blk n ≠ none → ow n = .fz) : ∀ {g : Nat} {t : TypeId} {cs : List Value} {x : Dat}, tyOk Γ g t = true → Rd Γ h g t cs x → ∃ v, TyF Γ g t v ∧ FR h ow B v cs
 | 0, t, cs, x, hk, hr => by cases hk
 | g + 1, t, cs, x, hk, hr => by
  unfold tyOk at hk
  cases hg : Γ t with
  | none => rw [hg] at hk; cases hk
  | some i =>
  rw [hg] at hk
  obtain ⟨sh, size, bytes, zero⟩ := i
  cases sh with
  | int k =>
   unfold Rd at hr; rw [hg] at hr
   cases x <;> first | exact hr.elim | skip
   rename_i n
   obtain ⟨rfl, hwf⟩ := hr
   exact ⟨.int k n, by unfold TyF; rw [hg]; exact ⟨rfl, hwf⟩, rfl⟩
  | bool =>
   unfold Rd at hr; rw [hg] at hr
   cases x <;> first | exact hr.elim | skip
   rename_i b
   obtain rfl := hr
   exact ⟨.bool b, by unfold TyF; rw [hg]; exact trivial, rfl⟩
  | str =>
   unfold Rd at hr; rw [hg] at hr
   cases x <;> first | exact hr.elim | skip
   rename_i s
   obtain ⟨rfl, hs⟩ := hr
   exact ⟨.str s, by unfold TyF; rw [hg]; exact hs, rfl⟩
  | slice e =>
   simp only [Bool.and_eq_true] at hk
   obtain ⟨⟨_, hke⟩, hne⟩ := hk
   unfold Rd at hr; rw [hg] at hr
   cases x with
   | row b l =>
    cases b with
    | true =>
     obtain ⟨rfl, rfl⟩ := hr
     cases hge : Γ e with
     | none => rw [hge] at hne; cases hne
     | some ie => exact ⟨.row ie.size [], by unfold TyF; rw [hg]; exact ⟨⟨ie, hge, rfl⟩, by simp, fun x hx => by cases hx⟩, .inl ⟨rfl, rfl⟩⟩
    | false =>
     obtain ⟨n, o, c, ie, rfl, h2, ⟨h3, h3'⟩, h4, h5, h6⟩ := hr
     obtain ⟨l', css, q1, q2, q3, q4, q5⟩ := rows_ex (h := h) (ow := ow) (B := B) (P := TyF Γ g e) (n := n) (o := o) (z := ie.size) l.length fun j hj => by
      obtain ⟨xs, r1, r2⟩ := h6 j l[j] (List.getElem?_eq_getElem hj)
      exact ⟨xs, r1, rd_fv hB hw hke r2⟩
     refine ⟨.row ie.size l', by unfold TyF; rw [hg]; exact ⟨⟨ie, h2, rfl⟩, by omega, q4⟩, .inr ⟨n, o, c, css, by rw [q1], .inr ⟨by omega, h4⟩, q2, q3, fun hl => ?_⟩⟩
     have hp : 0 < l.length := by rw [← q1]; exact List.length_pos_iff.2 hl
     have hc := q5 hp
     refine ⟨by omega, hw n fun hb => ?_, by rw [q1]; exact hc⟩
     unfold Hp.cells at hc; rw [hb] at hc; cases hc
   | _ => exact hr.elim
  | struct fs =>
   simp only [Bool.and_eq_true, List.all_eq_true] at hk
   obtain ⟨htile, hok⟩ := hk
   unfold Rd at hr; rw [hg] at hr
   cases x with
   | agg l =>
    obtain ⟨h1, h2, h3⟩ := hr
    have h1 : cs.length = size := h1
    rw [← h1] at htile
    obtain ⟨l', css, e1, e2, e3, e4⟩ := tiles_ex (h := h) (ow := ow) (B := B) (Q := TyF Γ g) htile fun j p hp => by
     have hj : j < l.length := by rw [h2]; exact (List.getElem?_eq_some_iff.1 hp).1
     obtain ⟨ti, r1, r2⟩ := h3 j p l[j] hp (List.getElem?_eq_getElem hj)
     exact ⟨ti, r1, rd_fv hB hw (hok p (List.mem_of_getElem? hp)) r2⟩
    exact ⟨.agg l', by unfold TyF; rw [hg]; exact ⟨e3, e4⟩, css, by rw [← e1]; rfl, e2⟩
   | _ => exact hr.elim
  | _ => cases hk
theorem tyF_int {g : Nat} {t : TypeId} {v : FV} {k : IntKind} {a b : Nat} {z : List Value} (hv : TyF Γ g t v) (ht : Γ t = some ⟨.int k, a, b, z⟩) : ∃ n, v = .int k n ∧ (Lit.int k n).wf = true := by
 cases g with
 | zero => exact hv.elim
 | succ g =>
  unfold TyF at hv; rw [ht] at hv
  cases v <;> first | exact hv.elim | skip
  obtain ⟨rfl, hw⟩ := hv; exact ⟨_, rfl, hw⟩
theorem tyF_row {g : Nat} {t e : TypeId} {v : FV} {a b : Nat} {z : List Value} {ie : TI} {α : Type} {f : α → FV} {P : α → Prop} (hv : TyF Γ g t v) (ht : Γ t = some ⟨.slice e, a, b, z⟩) (he : Γ e = some ie) (hx : ∀ g x, TyF Γ g e x → ∃ a, x = f a ∧ P a) : ∃ l : List α, v = .row ie.size (l.map f) ∧ (∀ a ∈ l, P a) ∧ l.length ≤ maxLen := by
 cases g with
 | zero => exact hv.elim
 | succ g =>
  unfold TyF at hv; rw [ht] at hv
  cases v <;> first | exact hv.elim | skip
  rename_i z l
  obtain ⟨⟨ie', h1, rfl⟩, h2, h3⟩ := hv
  rw [he] at h1; injection h1 with h1; subst h1
  have key : ∀ l : List FV, (∀ x ∈ l, TyF Γ g e x) → ∃ l' : List α, l = l'.map f ∧ ∀ a ∈ l', P a := by
   intro l
   induction l with
   | nil => intro _; exact ⟨[], rfl, fun a ha => by cases ha⟩
   | cons x l ih =>
    intro hh
    obtain ⟨l', q1, q2⟩ := ih fun y hy => hh y (List.mem_cons_of_mem _ hy)
    obtain ⟨a, r1, r2⟩ := hx g x (hh x List.mem_cons_self)
    exact ⟨a :: l', by rw [q1, r1]; rfl, fun b hb => by rcases List.mem_cons.1 hb with rfl | hb; exact r2; exact q2 b hb⟩
  obtain ⟨l', rfl, hp⟩ := key l h3
  exact ⟨l', rfl, hp, by simpa using h2⟩
theorem tyF_struct {g : Nat} {t : TypeId} {v : FV} {fs : List (Nat × TypeId)} {a b : Nat} {z : List Value} (hv : TyF Γ g t v) (ht : Γ t = some ⟨.struct fs, a, b, z⟩) : ∃ l g', v = .agg l ∧ l.length = fs.length ∧ ∀ (j : Nat) (p : Nat × TypeId) (x : FV), fs[j]? = some p → l[j]? = some x → TyF Γ g' p.2 x := by
 cases g with
 | zero => exact hv.elim
 | succ g =>
  unfold TyF at hv; rw [ht] at hv
  cases v <;> first | exact hv.elim | skip
  exact ⟨_, g, rfl, hv⟩
theorem tyF_struct2 {g : Nat} {t : TypeId} {v : FV} {p0 p1 : Nat × TypeId} {a b : Nat} {z : List Value} (hv : TyF Γ g t v) (ht : Γ t = some ⟨.struct [p0, p1], a, b, z⟩) : ∃ x0 x1 g', v = .agg [x0, x1] ∧ TyF Γ g' p0.2 x0 ∧ TyF Γ g' p1.2 x1 := by
 obtain ⟨l, g', rfl, hl, hh⟩ := tyF_struct hv ht
 match l, hl with
 | [x0, x1], _ => exact ⟨x0, x1, g', rfl, hh 0 _ _ rfl rfl, hh 1 _ _ rfl rfl⟩
theorem tyF_struct3 {g : Nat} {t : TypeId} {v : FV} {p0 p1 p2 : Nat × TypeId} {a b : Nat} {z : List Value} (hv : TyF Γ g t v) (ht : Γ t = some ⟨.struct [p0, p1, p2], a, b, z⟩) : ∃ x0 x1 x2 g', v = .agg [x0, x1, x2] ∧ TyF Γ g' p0.2 x0 ∧ TyF Γ g' p1.2 x1 ∧ TyF Γ g' p2.2 x2 := by
 obtain ⟨l, g', rfl, hl, hh⟩ := tyF_struct hv ht
 match l, hl with
 | [x0, x1, x2], _ => exact ⟨x0, x1, x2, g', rfl, hh 0 _ _ rfl rfl, hh 1 _ _ rfl rfl, hh 2 _ _ rfl rfl⟩
theorem tyF_struct4 {g : Nat} {t : TypeId} {v : FV} {p0 p1 p2 p3 : Nat × TypeId} {a b : Nat} {z : List Value} (hv : TyF Γ g t v) (ht : Γ t = some ⟨.struct [p0, p1, p2, p3], a, b, z⟩) : ∃ x0 x1 x2 x3 g', v = .agg [x0, x1, x2, x3] ∧ TyF Γ g' p0.2 x0 ∧ TyF Γ g' p1.2 x1 ∧ TyF Γ g' p2.2 x2 ∧ TyF Γ g' p3.2 x3 := by
 obtain ⟨l, g', rfl, hl, hh⟩ := tyF_struct hv ht
 match l, hl with
 | [x0, x1, x2, x3], _ => exact ⟨x0, x1, x2, x3, g', rfl, hh 0 _ _ rfl rfl, hh 1 _ _ rfl rfl, hh 2 _ _ rfl rfl, hh 3 _ _ rfl rfl⟩
theorem tyF_struct5 {g : Nat} {t : TypeId} {v : FV} {p0 p1 p2 p3 p4 : Nat × TypeId} {a b : Nat} {z : List Value} (hv : TyF Γ g t v) (ht : Γ t = some ⟨.struct [p0, p1, p2, p3, p4], a, b, z⟩) : ∃ x0 x1 x2 x3 x4 g', v = .agg [x0, x1, x2, x3, x4] ∧ TyF Γ g' p0.2 x0 ∧ TyF Γ g' p1.2 x1 ∧ TyF Γ g' p2.2 x2 ∧ TyF Γ g' p3.2 x3 ∧ TyF Γ g' p4.2 x4 := by
 obtain ⟨l, g', rfl, hl, hh⟩ := tyF_struct hv ht
 match l, hl with
 | [x0, x1, x2, x3, x4], _ => exact ⟨x0, x1, x2, x3, x4, g', rfl, hh 0 _ _ rfl rfl, hh 1 _ _ rfl rfl, hh 2 _ _ rfl rfl, hh 3 _ _ rfl rfl, hh 4 _ _ rfl rfl⟩
end
def ow1 (h : Hp) : Nat → Ow := fun n => match h.blk n with
 | none => .no
 | some _ => .fz
theorem ow1_not {h : Hp} {n : Nat} {p : Pt} {z k : Nat} : ow1 h n ≠ .of p z k := by
 unfold ow1; split <;> (intro hh; cases hh)
def Ag (h : Hp) (x : FV) (v : Value) : Prop := ∃ cs, FR h (ow1 h) h.next x cs ∧ v = mkv (isAggF x) cs
def Ags (h : Hp) : List FV → List Value → Prop
 | [], [] => True
 | x :: xs, v :: vs => Ag h x v ∧ Ags h xs vs
 | _, _ => False
theorem Ags.len {h : Hp} : ∀ {xs : List FV} {vs : List Value}, Ags h xs vs → vs.length = xs.length
 | [], [], _ => rfl
 | x :: xs, v :: vs, a => by rw [List.length_cons, List.length_cons, Ags.len a.2]
theorem Ags.get {h : Hp} : ∀ {xs : List FV} {vs : List Value}, Ags h xs vs → ∀ (i : Nat) (d : DV) (v : Value), (xs.map DV.fv)[i]? = some d → vs[i]? = some v → ∃ x, d = .fv x ∧ Ag h x v
 | x :: xs, v :: vs, a, 0, d, w, h1, h2 => by
  simp at h1 h2; subst h1; subst h2; exact ⟨x, rfl, a.1⟩
 | x :: xs, v :: vs, a, i + 1, d, w, h1, h2 => Ags.get a.2 i d w (by simpa using h1) (by simpa using h2)
 | [], [], a, i, d, w, h1, h2 => by simp at h1
section
variable {P : Program} {Γ : TypeId → Option TI} {E : TypeId → Nat} {F : FuncId → Option Func} {W : World} {M : Nat} {H : Type} {enc : TypeId × Value → H} {base : Nat} {held : Bool}
theorem val_shape (K : Know P Γ E) {t : TypeId} {i : TI} {g : Nat} {r : Reach} {v : Value} (hv : Value.okWide P W r base t v) (hg : Γ t = some i) (hk : tyOk Γ (g + 1) t = true) : (∃ fs, i.sh = .struct fs ∧ ∃ cs, v = .agg cs) ∨ ((∀ fs, i.sh ≠ .struct fs) ∧ ∀ cs, v ≠ .agg cs) := by
 obtain ⟨d, h1, h2⟩ := K.under hg
 unfold tyOk at hk; rw [hg] at hk
 obtain ⟨sh, size, bytes, zero⟩ := i
 cases sh with
 | struct fs =>
  left
  obtain ⟨f, rfl, hf⟩ := h2
  simp only [Value.okWide, h1] at hv
  obtain ⟨cs, rfl, _⟩ := hv
  exact ⟨fs, rfl, cs, rfl⟩
 | int k =>
  right
  refine ⟨(fun fs hh => by cases hh), ?_⟩
  rintro cs rfl
  have h3 : d = _ := h2
  subst h3
  simp only [Value.okWide, h1, Cell.okWide, Cell.ok] at hv
 | bool =>
  right
  refine ⟨(fun fs hh => by cases hh), ?_⟩
  rintro cs rfl
  have h3 : d = _ := h2
  subst h3
  simp only [Value.okWide, h1, Cell.okWide, Cell.ok] at hv
 | str =>
  right
  refine ⟨(fun fs hh => by cases hh), ?_⟩
  rintro cs rfl
  have h3 : d = _ := h2
  subst h3
  simp only [Value.okWide, h1, Cell.okWide, Cell.ok] at hv
 | slice e =>
  right
  refine ⟨(fun fs hh => by cases hh), ?_⟩
  rintro cs rfl
  have h3 : d = _ := h2
  subst h3
  simp only [Value.okWide, h1, Cell.okWide, Cell.ok] at hv
 | _ => cases hk
theorem trv_not2 {z M : Nat} {v : Value} (h : ∀ cs, v ≠ .agg cs) : ∀ cs, trv z M v ≠ .agg cs := by
 intro cs hh
 unfold trv at hh
 split at hh
 ·exact h _ rfl
 ·unfold tr at hh
  split at hh
  ·split at hh <;> cases hh
  ·exact h _ hh
theorem arg_v (K : Know P Γ E) (hM : ∀ (b : Nat) (c : Array Value) (e : TypeId) (fr : Nat × Nat), W.heap[b]? = some (.cells c e fr) → c.size < M) (g : Nat) {t : TypeId} {i : TI} {v : Value} {d : DataW H} {ps : List MemPlace} {r : Reach} {base' : Nat}
  (hd : DataW.Trod enc P W base (fun _ => true) held t v d ps) (hv : Value.okWide P W r base' t v) (hg : Γ t = some i) (ht : tyOk Γ (g + 1) t = true) : ∃ x, TyF Γ (g + 1) t x ∧ Ag (hp0 W M) x (trv W.heap.size M v) ∧ VR (pl0 W M) (trv W.heap.size M v) v := by
 obtain ⟨y, h1, h2⟩ := trod_arg K hM (g + 1) hd ht
 obtain ⟨x, h3, h4⟩ := rd_fv (ow := ow1 (hp0 W M)) (Nat.le_refl _) (fun n hn => by unfold ow1; split; (rename_i hh; exact absurd hh hn); rfl) ht h1
 refine ⟨x, h3, ⟨_, h4, ?_⟩, h2⟩
 unfold TyF at h3; rw [hg] at h3
 simp only at h3
 rcases val_shape K hv hg ht with ⟨fs, e1, cs, rfl⟩ | ⟨e1, e2⟩
 ·rw [e1] at h3
  cases x <;> first | exact h3.elim | skip
  show Value.agg _ = mkv true (Value.cells (Value.agg _)).toList
  simp only [mkv, Value.cells, if_true]
 ·have h5 : isAggF x = false := by
   cases x <;> first | rfl | skip
   exfalso
   revert h3 e1
   generalize i.sh = s
   intro e1 h3
   cases s <;> first | exact h3.elim | exact e1 _ rfl
  rw [h5]
  rcases cells_of (v := trv W.heap.size M v) with ⟨xs, e3⟩ | e3
  ·exact absurd e3 (trv_not2 e2 _)
  ·rw [e3]; rfl
theorem law_v (K : Know P Γ E) (hF : FOk P F) {X : Rel} (hX : ∀ f a h v h', X f a h v h' → Sim P W.heap.size (kept W) f a h v h') (hM : 0 < M) {f : FuncId} {xs : List FV} {vs : List Value} {args : Array Value} (hc : C2 (Call Γ E F X (Draw Γ E)) f (xs.map .fv) (.fv (.bool true)) [])
  (hv : Ags (hp0 W M) xs vs) (ha : All2 (VR (pl0 W M)) vs args.toList) : Calls P f args W fun e W' => e = .returned (.bool true) ∧ Below W.heap.size W W' := by
 obtain ⟨v, h', ow', h1, _, _, _, _, h2, _⟩ := hc (hp0 W M) (ow1 (hp0 W M)) vs (by rw [List.length_map]; exact hv.len) (fun i d v hd hv' => by
  obtain ⟨x, rfl, cs, q1, q2⟩ := hv.get i d v hd hv'
  exact .inr ⟨cs, q1, q2⟩) (fun n m p z k z' k' hh => absurd hh ow1_not) (fun n hn => by unfold ow1; rw [hn]) (fun n p z k hh => absurd hh ow1_not) (fun n hn => by
   have hn : W.heap.size * M + 1 ≤ n := hn
   show (if n < W.heap.size * M then _ else none) = none
   rw [if_neg (by omega)])
 have hb : v = .bool true := by
  rcases h2 with ⟨l, vs, h3, _⟩ | h2
  ·cases h3
  ·exact sv_ok (d := .fv (.bool true)) rfl h2
 subst hb
 exact law_end K hF hX hM h1 ha
end
end Go.Proofs.YtonpnjfclelpiaaGreatM
