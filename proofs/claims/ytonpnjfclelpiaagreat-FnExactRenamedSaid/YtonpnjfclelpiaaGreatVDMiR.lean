import Derived.Test.YtonpnjfclelpiaaGreatVDMi
import Derived.WalkKit
namespace Go.Proofs.YtonpnjfclelpiaaGreatM
open Go
def All2 {α β : Type} (R : α → β → Prop) : List α → List β → Prop
 | [], [] => True
 | a :: l, b :: m => R a b ∧ All2 R l m
 | _, _ => False
theorem All2.mono {α β : Type} {R S : α → β → Prop} (h : ∀ a b, R a b → S a b) : ∀ {l : List α} {m : List β}, All2 R l m → All2 S l m
 | [], [], _ => trivial
 | _ :: _, _ :: _, ⟨h1, h2⟩ => ⟨h _ _ h1, h2.mono h⟩
 | [], _ :: _, x => x.elim
 | _ :: _, [], x => x.elim
theorem All2.length {α β : Type} {R : α → β → Prop} : ∀ {l : List α} {m : List β}, All2 R l m → l.length = m.length
 | [], [], _ => rfl
 | _ :: _, _ :: _, ⟨_, h2⟩ => by simp [h2.length]
 | [], _ :: _, x => x.elim
 | _ :: _, [], x => x.elim
theorem All2.get {α β : Type} {R : α → β → Prop} : ∀ {l : List α} {m : List β}, All2 R l m → ∀ (i : Nat) (a : α), l[i]? = some a → ∃ b, m[i]? = some b ∧ R a b
 | a :: _, b :: _, ⟨h1, _⟩, 0, _, rfl => ⟨b, rfl, h1⟩
 | _ :: _, _ :: _, ⟨_, h2⟩, i + 1, a, h => h2.get i a (by simpa using h)
theorem All2.of {α β : Type} {R : α → β → Prop} : ∀ {l : List α} {m : List β}, l.length = m.length → (∀ (i : Nat) (a : α) (b : β), l[i]? = some a → m[i]? = some b → R a b) → All2 R l m
 | [], [], _, _ => trivial
 | a :: l, b :: m, hl, h => ⟨h 0 a b rfl rfl, All2.of (by simpa using hl) fun i a b ha hb => h (i + 1) a b (by simpa using ha) (by simpa using hb)⟩
 | [], _ :: _, hl, _ => by simp at hl
 | _ :: _, [], hl, _ => by simp at hl
theorem All2.append {α β : Type} {R : α → β → Prop} : ∀ {l : List α} {m : List β} {l' : List α} {m' : List β}, All2 R l m → All2 R l' m' → All2 R (l ++ l') (m ++ m')
 | [], [], _, _, _, h => h
 | _ :: _, _ :: _, _, _, ⟨h1, h2⟩, h => ⟨h1, h2.append h⟩
 | [], _ :: _, _, _, x, _ => x.elim
 | _ :: _, [], _, _, x, _ => x.elim
theorem All2.take {α β : Type} {R : α → β → Prop} : ∀ (n : Nat) {l : List α} {m : List β}, All2 R l m → All2 R (l.take n) (m.take n)
 | 0, _, _, _ => by simp [All2]
 | _ + 1, [], [], _ => trivial
 | n + 1, _ :: _, _ :: _, ⟨h1, h2⟩ => ⟨h1, h2.take n⟩
 | _ + 1, [], _ :: _, x => x.elim
 | _ + 1, _ :: _, [], x => x.elim
theorem All2.drop {α β : Type} {R : α → β → Prop} : ∀ (n : Nat) {l : List α} {m : List β}, All2 R l m → All2 R (l.drop n) (m.drop n)
 | 0, _, _, h => by simpa using h
 | _ + 1, [], [], _ => trivial
 | n + 1, _ :: _, _ :: _, ⟨_, h2⟩ => h2.drop n
 | _ + 1, [], _ :: _, x => x.elim
 | _ + 1, _ :: _, [], x => x.elim
theorem All2.map {α β γ δ : Type} {R : α → β → Prop} {S : γ → δ → Prop} {f : α → γ} {g : β → δ} (h : ∀ a b, R a b → S (f a) (g b)) : ∀ {l : List α} {m : List β}, All2 R l m → All2 S (l.map f) (m.map g)
 | [], [], _ => trivial
 | _ :: _, _ :: _, ⟨h1, h2⟩ => ⟨h _ _ h1, h2.map h⟩
 | [], _ :: _, x => x.elim
 | _ :: _, [], x => x.elim
theorem All2.refl {α : Type} {R : α → α → Prop} : ∀ {l : List α}, (∀ a ∈ l, R a a) → All2 R l l
 | [], _ => trivial
 | a :: _, h => ⟨h a (by simp), All2.refl fun b hb => h b (by simp [hb])⟩
structure Pl where
 blk : Nat
 off : Nat
 ext : Nat
def VR1 (π : Nat → Option Pl) : Value → Value → Prop
 | .int k n, v => v = .int k n
 | .bool b, v => v = .bool b
 | .string s, v => v = .string s
 | .nilFunc, v => v = .nilFunc
 | .pointer none, v => v = .pointer none
 | .pointer (some ⟨n, o, none⟩), v => ∃ p, π n = some p ∧ v = .pointer (some ⟨p.blk, p.off + o, none⟩)
 | .slice none 0 0, v => v = .slice none 0 0
 | .slice (some ⟨n, o, none⟩) len c, v => ∃ p a c', π n = some p ∧ v = .slice (some a) len c' ∧ len ≤ c' ∧ (c' ≠ 0 → a = ⟨p.blk, p.off + o, none⟩) ∧ (∀ e, c = U e → o + c' * e = p.ext) ∧ (c < 18446744073709551616 → c' = c)
 | _, _ => False
def VRa (π : Nat → Option Pl) : Value → Value → Prop
 | .agg cs, v => ∃ cs', v = .agg cs' ∧ All2 (VR1 π) cs.toList cs'.toList
 | v, v' => VR1 π v v'
def VRf (π : Nat → Option Pl) : Value → Value → Prop
 | .func (.func f) a b, v => ∃ a' b', v = .func (.func f) a' b' ∧ All2 (VRa π) a.toList a'.toList ∧ All2 (VRa π) b.toList b'.toList
 | v, v' => VRa π v v'
def VR (π : Nat → Option Pl) : Value → Value → Prop
 | .tuple vs, v => ∃ vs', v = .tuple vs' ∧ All2 (VRf π) vs.toList vs'.toList
 | v, v' => VRf π v v'
def Le (π π' : Nat → Option Pl) : Prop := ∀ n p, π n = some p → π' n = some p
theorem Le.refl (π : Nat → Option Pl) : Le π π := fun _ _ h => h
theorem Le.trans {a b c : Nat → Option Pl} (h : Le a b) (k : Le b c) : Le a c := fun n p x => k n p (h n p x)
theorem VR1.mono {π π' : Nat → Option Pl} (h : Le π π') {v v' : Value} (x : VR1 π v v') : VR1 π' v v' := by
 unfold VR1 at *
 split at x <;> first
  | exact x
  | (obtain ⟨p, h1, h2⟩ := x; exact ⟨p, h _ _ h1, h2⟩)
  | (obtain ⟨p, a, c, h1, h2⟩ := x; exact ⟨p, a, c, h _ _ h1, h2⟩)
  | exact x.elim
theorem VRa.mono {π π' : Nat → Option Pl} (h : Le π π') {v v' : Value} (x : VRa π v v') : VRa π' v v' := by
 unfold VRa at *
 split at x
 ·obtain ⟨cs, h1, h2⟩ := x; exact ⟨cs, h1, h2.mono fun _ _ => VR1.mono h⟩
 ·exact VR1.mono h x
theorem VRf.mono {π π' : Nat → Option Pl} (h : Le π π') {v v' : Value} (x : VRf π v v') : VRf π' v v' := by
 unfold VRf at *
 split at x
 ·obtain ⟨a, b, h1, h2, h3⟩ := x; exact ⟨a, b, h1, h2.mono fun _ _ => VRa.mono h, h3.mono fun _ _ => VRa.mono h⟩
 ·exact VRa.mono h x
theorem VR.mono {π π' : Nat → Option Pl} (h : Le π π') {v v' : Value} (x : VR π v v') : VR π' v v' := by
 unfold VR at *
 split at x
 ·obtain ⟨vs, h1, h2⟩ := x; exact ⟨vs, h1, h2.mono fun _ _ => VRf.mono h⟩
 ·exact VRf.mono h x
theorem VR1.one {π : Nat → Option Pl} {v v' : Value} (x : VR1 π v v') : v.oneCell' = true ∧ v'.oneCell' = true ∧ v.cells = #[v] ∧ v'.cells = #[v'] := by
 unfold VR1 at x
 split at x <;> first
  | (subst x; exact ⟨rfl, rfl, rfl, rfl⟩)
  | (obtain ⟨p, h1, rfl⟩ := x; exact ⟨rfl, rfl, rfl, rfl⟩)
  | (obtain ⟨p, a, c, h1, rfl, _⟩ := x; exact ⟨rfl, rfl, rfl, rfl⟩)
  | exact x.elim
theorem VRa.cells {π : Nat → Option Pl} {v v' : Value} (x : VRa π v v') : All2 (VR1 π) v.cells.toList v'.cells.toList := by
 unfold VRa at x
 split at x
 ·obtain ⟨cs, rfl, h⟩ := x; exact h
 ·rw [x.one.2.2.1, x.one.2.2.2]; exact ⟨x, trivial⟩
theorem VR1.a {π : Nat → Option Pl} {v v' : Value} (x : VR1 π v v') : VRa π v v' := by
 unfold VRa
 split
 ·exact x.elim
 ·exact x
theorem VRa.f {π : Nat → Option Pl} {v v' : Value} (x : VRa π v v') : VRf π v v' := by
 unfold VRf
 split
 ·exact x.elim
 ·exact x
theorem VRf.v {π : Nat → Option Pl} {v v' : Value} (x : VRf π v v') : VR π v v' := by
 unfold VR
 split
 ·exact x.elim
 ·exact x
def BlkOk (π : Nat → Option Pl) (b : Blk) (p : Pl) (w : World) : Prop :=
 b.cells.length ≤ p.ext ∧ ∃ c e fr, w.heap[p.blk]? = some (.cells c e fr) ∧
  (∀ i v, b.cells[i]? = some v → ∃ v', c[p.off + i]? = some v' ∧ VR1 π v v') ∧
  (b.rw = true → p.off + p.ext ≤ c.size ∧ ∀ i, i < p.ext → ¬ (fr.1 ≤ p.off + i ∧ p.off + i < fr.2))
structure Rep (G : Nat) (I : World → Prop) (π : Nat → Option Pl) (h : Hp) (w : World) : Prop where
 dom : ∀ n p, π n = some p → n < h.next ∧ True
 pl : ∀ n b, h.blk n = some b → ∃ p, π n = some p ∧ BlkOk π b p w
 uniq : ∀ n m b b' p q, n ≠ m → h.blk n = some b → b.rw = true → h.blk m = some b' → π n = some p → π m = some q → p.blk ≠ q.blk
 big : G ≤ w.heap.size
 rwG : ∀ n b p, h.blk n = some b → b.rw = true → π n = some p → G ≤ p.blk
 inv : I w
theorem Rep.lt {G : Nat} {I : World → Prop} {π : Nat → Option Pl} {h : Hp} {w : World} (r : Rep G I π h w) {n : Nat} {b : Blk} {p : Pl} (hb : h.blk n = some b) (hp : π n = some p) : p.blk < w.heap.size := by
 obtain ⟨q, hq, _, c, e, fr, h2, _⟩ := r.pl n b hb
 rw [hp] at hq; injection hq with hq; subst hq
 exact (Array.getElem?_eq_some_iff.1 h2).1
structure Step (G : Nat) (I : World → Prop) (N : Nat → Prop) (π : Nat → Option Pl) (h : Hp) (w : World) (π' : Nat → Option Pl) (h' : Hp) (w' : World) : Prop where
 rep : Rep G I π' h' w'
 same : ∀ n, n < h.next → ¬ N n → π' n = π n
 le : Le π π'
 grow : w.heap.size ≤ w'.heap.size
 keep : ∀ i, i < w.heap.size → (∀ n b p, h.blk n = some b → b.rw = true → π n = some p → p.blk ≠ i) → w'.heap[i]? = w.heap[i]?
 prov : ∀ m b q, h'.blk m = some b → π' m = some q → w.heap.size ≤ q.blk ∨ ∃ n b0 p, h.blk n = some b0 ∧ b0.rw = b.rw ∧ π n = some p ∧ p.blk = q.blk
 nx : h.next ≤ h'.next
section
variable {G : Nat} {I : World → Prop} {N : Nat → Prop} {π π' π'' : Nat → Option Pl} {h h' h'' : Hp} {w w' w'' : World}
theorem Step.refl (r : Rep G I π h w) : Step G I N π h w π h w where
 rep := r
 same := fun _ _ _ => rfl
 le := Le.refl _
 grow := Nat.le_refl _
 keep := fun _ _ _ => rfl
 prov := fun m b q hb hq => .inr ⟨m, b, q, hb, rfl, hq, rfl⟩
 nx := Nat.le_refl _
theorem Step.trans {N' : Nat → Prop} (a : Step G I N π h w π' h' w') (b : Step G I N' π' h' w' π'' h'' w'') : Step G I (fun n => N n ∨ N' n) π h w π'' h'' w'' where
 rep := b.rep
 same := fun n hn hN => by rw [b.same n (Nat.lt_of_lt_of_le hn a.nx) fun x => hN (.inr x), a.same n hn fun x => hN (.inl x)]
 le := a.le.trans b.le
 grow := Nat.le_trans a.grow b.grow
 keep := fun i hi hk => by
  rw [b.keep i (Nat.lt_of_lt_of_le hi a.grow) ?_, a.keep i hi hk]
  intro m bm q hm hrw hq he
  rcases a.prov m bm q hm hq with h1 | ⟨n, b0, p, h1, h2, h3, h4⟩
  ·omega
  ·exact hk n b0 p h1 (h2.trans hrw) h3 (h4.trans he)
 prov := fun m bm q hm hq => by
  rcases b.prov m bm q hm hq with h1 | ⟨n, b0, p, h1, h2, h3, h4⟩
  ·exact .inl (Nat.le_trans a.grow h1)
  ·rcases a.prov n b0 p h1 h3 with k1 | ⟨n', b1, p', k1, k2, k3, k4⟩
   ·exact .inl (by omega)
   ·exact .inr ⟨n', b1, p', k1, k2.trans h2, k3, k4.trans h4⟩
 nx := Nat.le_trans a.nx b.nx
theorem Step.wk {N' : Nat → Prop} (a : Step G I N π h w π' h' w') (k : ∀ n, n < h.next → N n → N' n) : Step G I N' π h w π' h' w' :=
 { a with same := fun n hn hN => a.same n hn fun x => hN (k n hn x) }
end
end Go.Proofs.YtonpnjfclelpiaaGreatM
