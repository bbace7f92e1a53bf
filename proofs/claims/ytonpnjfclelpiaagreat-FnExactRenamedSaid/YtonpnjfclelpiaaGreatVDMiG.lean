import Derived.Test.YtonpnjfclelpiaaGreatVDMiF
import Derived.RowKit
import Derived.Below
import Derived.ChangeOld
namespace Go.Proofs.YtonpnjfclelpiaaGreatM
open Go
set_option linter.unusedVariables false
set_option linter.unusedSimpArgs false
inductive Dat where
 | int (n : Int)
 | bool (b : Bool)
 | str (s : ByteArray)
 | row (isnil : Bool) (l : List Dat)
 | agg (l : List Dat)
def Rd (Γ : TypeId → Option TI) (h : Hp) : Nat → TypeId → List Value → Dat → Prop
 | 0, _, _, _ => False
 | f + 1, t, cs, d => match Γ t with
  | none => False
  | some i => match i.sh, d with
   | .int k, .int n => cs = [.int k n] ∧ (Lit.int k n).wf = true
   | .bool, .bool b => cs = [.bool b]
   | .str, .str s => cs = [.string s] ∧ s.size ≤ maxLen
   | .slice e, .row true l => cs = [.slice none 0 0] ∧ l = []
   | .slice e, .row false l => ∃ n o c ie, cs = [.slice (some ⟨n, o, none⟩) l.length c] ∧ Γ e = some ie ∧ (l.length ≤ maxLen ∧ l.length ≤ c) ∧ c < 18446744073709551616 ∧ n < h.next ∧
     ∀ j x, l[j]? = some x → ∃ xs, h.cells n (o + j * ie.size) ie.size = some xs ∧ Rd Γ h f e xs x
   | .struct fs, .agg l => cs.length = i.size ∧ l.length = fs.length ∧ ∀ (j : Nat) (p : Nat × TypeId) (x : Dat), fs[j]? = some p → l[j]? = some x → ∃ ti, Γ p.2 = some ti ∧ Rd Γ h f p.2 ((cs.drop p.1).take ti.size) x
   | _, _ => False
def tiles (Γ : TypeId → Option TI) (n : Nat) : Nat → List (Nat × TypeId) → Bool
 | o, [] => o == n
 | o, p :: r => p.1 == o && (match Γ p.2 with | some ti => tiles Γ n (o + ti.size) r | none => false)
def tyOk (Γ : TypeId → Option TI) : Nat → TypeId → Bool
 | 0, _ => false
 | f + 1, t => match Γ t with
  | none => false
  | some i => match i.sh with
   | .int _ | .bool | .str => i.size == 1
   | .slice e => i.size == 1 && tyOk Γ f e && (match Γ e with | some ie => ie.size != 0 | none => false)
   | .struct fs => tiles Γ i.size 0 fs && fs.all fun p => tyOk Γ f p.2
   | _ => false
def okc (z M : Nat) : Value → Bool
 | .int _ _ | .bool _ | .string _ | .slice none 0 0 => true
 | .slice (some a) l c => if c = 0 then l == 0 else a.spot.isNone && decide (a.block < z) && decide (a.off < M) && decide (l ≤ c) && decide (c < 18446744073709551616)
 | _ => false
def tr (z M : Nat) : Value → Value
 | .slice (some a) l c => if c = 0 then .slice (some ⟨z * M, 0, none⟩) l c else .slice (some ⟨a.block * M + a.off, 0, none⟩) l c
 | v => v
def extOf (W : World) (n M : Nat) : Nat := match W.heap[n / M]? with
 | some (.cells c _ _) => c.size - n % M
 | _ => 0
def pl0 (W : World) (M : Nat) : Nat → Option Pl := fun n => if n < W.heap.size * M then some ⟨n / M, n % M, extOf W n M⟩ else if n = W.heap.size * M then some ⟨0, 0, 0⟩ else none
def hp0 (W : World) (M : Nat) : Hp := { next := W.heap.size * M + 1, blk := fun n => if n < W.heap.size * M then match W.heap[n / M]? with
  | some (.cells c _ _) => some { cells := ((c.toList.drop (n % M)).takeWhile (okc W.heap.size M)).map (tr W.heap.size M), rw := false }
  | _ => none
 else none }
def kept (W : World) (w : World) : Prop := Aux W w ∧ ∀ i, i < W.heap.size → w.heap[i]? = W.heap[i]?
theorem kept_low (W : World) : Low W.heap.size (kept W) := fun w w' h h1 h2 =>
 ⟨⟨h2.1.trans h.1.1, h2.2.1.trans h.1.2.1, h2.2.2.trans h.1.2.2⟩, fun i hi => (h1 i hi).trans (h.2 i hi)⟩
theorem code_lt {z M b o : Nat} (hb : b < z) (ho : o < M) : b * M + o < z * M := by
 have : (b + 1) * M ≤ z * M := Nat.mul_le_mul_right M hb
 rw [Nat.add_mul] at this; omega
theorem code_div {M b o : Nat} (ho : o < M) : (b * M + o) / M = b := by
 rw [Nat.add_comm, Nat.add_mul_div_right _ _ (by omega), Nat.div_eq_of_lt ho, Nat.zero_add]
theorem code_mod {M b o : Nat} (ho : o < M) : (b * M + o) % M = o := by
 rw [Nat.add_comm, Nat.add_mul_mod_self_right, Nat.mod_eq_of_lt ho]
theorem tr_ok {W : World} {M : Nat} {v : Value} (h : okc W.heap.size M v = true) : VR1 (pl0 W M) (tr W.heap.size M v) v := by
 unfold okc at h
 split at h
 ·rfl
 ·rfl
 ·rfl
 ·rfl
 ·rename_i a l c
  simp only [tr]
  split at h
  ·rename_i hc
   simp only [beq_iff_eq] at h
   subst h; subst hc
   rw [if_pos rfl]
   refine ⟨⟨0, 0, 0⟩, a, 0, by simp [pl0], rfl, Nat.le_refl _, fun h => absurd rfl h, fun e he => by unfold U at he; omega, fun _ => rfl⟩
  ·rename_i hc
   simp only [Bool.and_eq_true, decide_eq_true_eq] at h
   obtain ⟨⟨⟨⟨h1, h2⟩, h3⟩, h4⟩, h5⟩ := h
   rw [if_neg hc]
   obtain ⟨b, o, sp⟩ := a
   have : sp = none := by simpa using h1
   subst this
   refine ⟨⟨b, o, extOf W (b * M + o) M⟩, ⟨b, o, none⟩, c, ?_, rfl, h4, fun _ => rfl, fun e he => by unfold U at he; omega, fun _ => rfl⟩
   unfold pl0
   rw [if_pos (code_lt h2 h3), code_div h3, code_mod h3]
 ·cases h
theorem takeWhile_get {α : Type} {p : α → Bool} : ∀ {l : List α} {i : Nat} {a : α}, (l.takeWhile p)[i]? = some a → l[i]? = some a ∧ p a = true
 | [], i, a, h => by simp at h
 | x :: l, i, a, h => by
  rw [List.takeWhile_cons] at h
  split at h
  ·rename_i hx
   cases i with
   | zero => simp at h; subst h; exact ⟨rfl, hx⟩
   | succ i => simpa using takeWhile_get (by simpa using h)
  ·simp at h
theorem takeWhile_of {α : Type} {p : α → Bool} : ∀ {l : List α} {n : Nat}, (∀ i, i < n → ∃ a, l[i]? = some a ∧ p a = true) → ∀ i, i < n → (l.takeWhile p)[i]? = l[i]?
 | [], n, h, i, hi => by obtain ⟨a, h1, _⟩ := h i hi; simp at h1
 | x :: l, n, h, i, hi => by
  obtain ⟨a, h1, h2⟩ := h 0 (by omega)
  simp at h1; subst h1
  rw [List.takeWhile_cons, if_pos h2]
  cases i with
  | zero => rfl
  | succ i =>
   simp only [List.getElem?_cons_succ]
   exact takeWhile_of (n := n - 1) (fun j hj => by obtain ⟨a, h3, h4⟩ := h (j + 1) (by omega); exact ⟨a, by simpa using h3, h4⟩) i (by omega)
theorem hp0_rep (W : World) (M : Nat) (hM : 0 < M) : Rep W.heap.size (kept W) (pl0 W M) (hp0 W M) W where
 dom := fun n p hp => by
  unfold pl0 at hp
  refine ⟨?_, trivial⟩
  show n < W.heap.size * M + 1
  split at hp
  ·omega
  ·split at hp
   ·omega
   ·cases hp
 pl := fun n b hb => by
  simp only [hp0] at hb
  split at hb
  ·rename_i hn
   split at hb
   ·rename_i c e fr hw
    injection hb with hb; subst hb
    refine ⟨⟨n / M, n % M, extOf W n M⟩, by unfold pl0; rw [if_pos hn], ?_, c, e, fr, hw, ?_, fun h => by cases h⟩
    ·simp only [extOf, hw, List.length_map]
     have := (List.takeWhile_sublist (okc W.heap.size M) (l := c.toList.drop (n % M))).length_le
     simp at this; exact this
    ·intro i v hi
     rw [List.getElem?_map] at hi
     cases hx : ((c.toList.drop (n % M)).takeWhile (okc W.heap.size M))[i]? with
     | none => rw [hx] at hi; cases hi
     | some v' =>
      rw [hx] at hi; injection hi with hi; subst hi
      obtain ⟨h1, h2⟩ := takeWhile_get hx
      rw [List.getElem?_drop] at h1
      exact ⟨v', by simpa using h1, tr_ok h2⟩
   ·cases hb
  ·cases hb
 uniq := fun n m b b' p q _ hb hrw _ _ _ => by
  simp only [hp0] at hb
  split at hb
  ·split at hb
   ·injection hb with hb; subst hb; cases hrw
   ·cases hb
  ·cases hb
 big := Nat.le_refl _
 rwG := fun n b p hb hrw _ => by
  simp only [hp0] at hb
  split at hb
  ·split at hb
   ·injection hb with hb; subst hb; cases hrw
   ·cases hb
  ·cases hb
 inv := ⟨⟨rfl, rfl, rfl⟩, fun _ _ => rfl⟩
theorem big_ex (W : World) : ∃ M, 0 < M ∧ ∀ (b : Nat) (c : Array Value) (e : TypeId) (fr : Nat × Nat), W.heap[b]? = some (.cells c e fr) → c.size < M := by
 have key : ∀ l : List Obj, ∃ M, 0 < M ∧ ∀ (c : Array Value) (e : TypeId) (fr : Nat × Nat), Obj.cells c e fr ∈ l → c.size < M := by
  intro l
  induction l with
  | nil => exact ⟨1, by omega, fun c e fr h => by simp at h⟩
  | cons o l ih =>
   obtain ⟨M, h0, h1⟩ := ih
   cases o with
   | cells c0 e0 fr0 =>
    refine ⟨M + c0.size + 1, by omega, fun c e fr h => ?_⟩
    rcases List.mem_cons.1 h with h | h
    ·injection h with h2; subst h2; omega
    ·have := h1 c e fr h; omega
   | _ => exact ⟨M, h0, fun c e fr h => h1 c e fr (by simpa using h)⟩
 obtain ⟨M, h0, h1⟩ := key W.heap.toList
 exact ⟨M, h0, fun b c e fr h => h1 c e fr (by rw [← Array.getElem?_toList] at h; exact List.mem_of_getElem? h)⟩
theorem list_choose {α : Type} {Q : Nat → α → Prop} : ∀ (n : Nat), (∀ j, j < n → ∃ d, Q j d) → ∃ l : List α, l.length = n ∧ ∀ j x, l[j]? = some x → Q j x
 | 0, _ => ⟨[], rfl, fun j x h => by simp at h⟩
 | n + 1, h => by
  obtain ⟨l, h1, h2⟩ := list_choose n fun j hj => h j (by omega)
  obtain ⟨d, hd⟩ := h n (by omega)
  refine ⟨l ++ [d], by simp [h1], fun j x hx => ?_⟩
  rcases Nat.lt_or_ge j l.length with hj | hj
  ·rw [List.getElem?_append_left hj] at hx; exact h2 j x hx
  ·rw [List.getElem?_append_right hj] at hx
   have : j = n := by
    have := (List.getElem?_eq_some_iff.1 hx).1; simp at this; omega
   subst this
   rw [h1, Nat.sub_self] at hx
   simp at hx; subst hx; exact hd
section
variable {P : Program} {Γ : TypeId → Option TI} {E : TypeId → Nat} {W : World} {M : Nat} {H : Type} {enc : TypeId × Value → H} {base : Nat} {held : Bool}
theorem Know.cellsOf (K : Know P Γ E) {t : TypeId} {i : TI} (h : Γ t = some i) : P.cellsOf t = i.size := by
 obtain ⟨inf, h1, h2, _⟩ := K.ty t i h
 simp [Program.cellsOf, h1, h2]
theorem mapM_at {α β : Type} {f : α → Option β} {l : List α} {r : List β} (h : l.mapM f = some r) (i : Nat) (x : α) (hx : l[i]? = some x) : ∃ y, f x = some y ∧ r[i]? = some y := by
 have hl := mapM_some_length h
 have hi : i < r.length := by have := (List.getElem?_eq_some_iff.1 hx).1; omega
 have h1 := mapM_some_get h i x hx
 rw [List.getElem?_eq_getElem hi] at h1
 exact ⟨r[i], h1, List.getElem?_eq_getElem hi⟩
theorem tiles_all {Γ : TypeId → Option TI} {n : Nat} {p : Value → Bool} {cs : List Value} (hl : cs.length = n) : ∀ (fs : List (Nat × TypeId)) (o : Nat), tiles Γ n o fs = true → (∀ q ∈ fs, ∀ ti, Γ q.2 = some ti → ∀ v ∈ (cs.drop q.1).take ti.size, p v = true) → ∀ v ∈ cs.drop o, p v = true
 | [], o, h, _, v, hv => by
  simp [tiles] at h
  rw [List.drop_eq_nil_of_le (by omega)] at hv
  simp at hv
 | q :: fs, o, h, hall, v, hv => by
  simp only [tiles, Bool.and_eq_true, beq_iff_eq] at h
  obtain ⟨h1, h2⟩ := h
  cases hg : Γ q.2 with
  | none => rw [hg] at h2; cases h2
  | some ti =>
   rw [hg] at h2
   rw [← List.take_append_drop ti.size (cs.drop o), List.mem_append] at hv
   rcases hv with hv | hv
   ·exact hall q (by simp) ti hg v (by rw [h1]; exact hv)
   ·rw [List.drop_drop] at hv
    exact tiles_all hl fs (o + ti.size) h2 (fun q' hq => hall q' (by simp [hq])) v hv
theorem cells?_at {a : Addr} {n : Nat} {cs : List Value} (h : W.cells? base a n = some cs) : cs.length = n ∧ ∀ i, i < n → ∃ c e fr, W.heap[a.block]? = some (.cells c e fr) ∧ (i = 0 → a.spot = none) ∧ c[a.off + i]? = cs[i]? ∧ a.off + i < c.size := by
 unfold World.cells? at h
 split at h
 ·have hl := mapM_some_length h
  simp at hl
  refine ⟨hl, fun i hi => ?_⟩
  obtain ⟨y, h2, h1⟩ := mapM_at h i i (by rw [List.getElem?_range hi])
  have hb : (a.add i).block = a.block := by unfold Addr.add; split <;> rfl
  have ho : (a.add i).off = a.off + i := by
   unfold Addr.add; split
   ·rename_i hz; subst hz; rfl
   ·rfl
  unfold World.cell? at h2
  rw [hb] at h2
  split at h2
  ·rename_i c e fr hw
   split at h2
   ·cases h2
   ·rename_i hs
    rw [ho] at h2
    refine ⟨c, e, fr, hw, fun hz => ?_, by rw [h2, h1], (Array.getElem?_eq_some_iff.1 h2).1⟩
    subst hz
    simp [Addr.add] at hs
    exact hs
  ·cases h2
 ·cases h
theorem drop_take_map {α β : Type} (f : α → β) (l : List α) (a b : Nat) : ((l.map f).drop a).take b = ((l.drop a).take b).map f := by rw [← List.map_drop, ← List.map_take]
theorem trod_rd (K : Know P Γ E) (hM : ∀ (b : Nat) (c : Array Value) (e : TypeId) (fr : Nat × Nat), W.heap[b]? = some (.cells c e fr) → c.size < M) : ∀ (g fuel : Nat) (t : TypeId) (cs : List Value) (x : DataW H × List MemPlace),
  DataW.trod enc P W base (fun _ => true) held fuel t cs = some x → tyOk Γ g t = true → ∃ d, Rd Γ (hp0 W M) g t (cs.map (tr W.heap.size M)) d ∧ ∀ v ∈ cs, okc W.heap.size M v = true := by
 intro g
 induction g with
 | zero => intro fuel t cs x _ h; cases h
 | succ g ih =>
  intro fuel t cs x h hok
  cases fuel with
  | zero => cases h
  | succ fuel =>
  unfold tyOk at hok
  cases hg : Γ t with
  | none => rw [hg] at hok; cases hok
  | some i =>
  rw [hg] at hok
  simp only at hok
  obtain ⟨d, hd, hsh⟩ := K.under hg
  have hsz := K.cellsOf hg
  unfold DataW.trod at h
  obtain ⟨sh, size, bytes, zero⟩ := i
  cases sh with
  | int k =>
   simp only [ShOk] at hsh; subst hsh
   rw [hd] at h
   match cs, h with
   | [.int k' n], h =>
    simp only at h
    split at h
    ·rename_i hk
     obtain ⟨rfl, hw⟩ := hk
     exact ⟨.int n, by unfold Rd; rw [hg]; exact ⟨rfl, hw⟩, by simp [okc]⟩
    ·cases h
  | bool =>
   simp only [ShOk] at hsh; subst hsh
   rw [hd] at h
   match cs, h with
   | [.bool b], h => exact ⟨.bool b, by unfold Rd; rw [hg]; rfl, by simp [okc]⟩
  | str =>
   simp only [ShOk] at hsh; subst hsh
   rw [hd] at h
   match cs, h with
   | [.string s], h =>
    simp only at h
    split at h
    ·rename_i hs
     exact ⟨.str s, by unfold Rd; rw [hg]; exact ⟨rfl, hs⟩, by simp [okc]⟩
    ·cases h
  | slice e =>
   simp only [ShOk] at hsh; subst hsh
   rw [hd] at h
   simp only [Bool.and_eq_true, beq_iff_eq] at hok
   obtain ⟨⟨_, hoe⟩, hne⟩ := hok
   match cs, h with
   | [.slice none 0 0], h => exact ⟨.row true [], by unfold Rd; rw [hg]; exact ⟨rfl, rfl⟩, by simp [okc]⟩
   | [.slice (some a) len cap], h =>
    simp only [if_true] at h
    cases hge : Γ e with
    | none => rw [hge] at hne; cases hne
    | some ie =>
    rw [hge] at hne
    simp only [bne_iff_ne, ne_eq] at hne
    have hse := K.cellsOf hge
    rw [hse] at h
    split at h
    ·rename_i hc
     obtain ⟨_, hlc, hcap⟩ := hc
     obtain ⟨els, he, h⟩ := Option.bind_eq_some_iff.1 h
     obtain ⟨rest, hr, _⟩ := Option.map_eq_some_iff.1 h
     -- each element
     have hel : ∀ j, j < len → ∃ cs', W.cells? base (a.add (j * ie.size)) ie.size = some cs' ∧ ∃ d, Rd Γ (hp0 W M) g e (cs'.map (tr W.heap.size M)) d ∧ ∀ v ∈ cs', okc W.heap.size M v = true := by
      intro j hj
      obtain ⟨y, h2, h1⟩ := mapM_at he j j (by rw [List.getElem?_range hj])
      obtain ⟨cs', h3, h4⟩ := Option.bind_eq_some_iff.1 h2
      exact ⟨cs', h3, ih fuel e cs' y h4 hoe⟩
     have hmax : maxLen < 18446744073709551616 := by decide
     by_cases hc0 : cap = 0
     ·subst hc0
      have hl0 : len = 0 := by omega
      subst hl0
      refine ⟨.row false [], ?_, by simp [okc]⟩
      unfold Rd; rw [hg]
      refine ⟨W.heap.size * M, 0, 0, ie, by simp [tr], hge, ⟨by simp, by simp⟩, by omega, by simp [hp0], fun j x hx => by simp at hx⟩
     ·-- the first element lies somewhere
      have h0 : ∃ cs', W.cells? base (a.add 0) ie.size = some cs' := by
       rcases Nat.eq_zero_or_pos len with hl | hl
       ·subst hl
        obtain ⟨y, h2, h1⟩ := mapM_at hr 0 0 (by rw [List.getElem?_range (by omega)])
        obtain ⟨cs', h3, h4⟩ := Option.bind_eq_some_iff.1 h2
        exact ⟨cs', by simpa using h3⟩
       ·obtain ⟨cs', h3, _⟩ := hel 0 hl
        exact ⟨cs', by simpa using h3⟩
      obtain ⟨cs0, h0⟩ := h0
      obtain ⟨_, hat⟩ := cells?_at h0
      obtain ⟨c, ec, fr, hw, hsp, _, hlt⟩ := hat 0 (by omega)
      have ha0 : a.add 0 = a := rfl
      rw [ha0] at hw hsp hlt
      have hsp := hsp rfl
      obtain ⟨b, o, sp⟩ := a
      simp only at hsp; subst hsp
      simp only at hw hlt
      have hoM : o < M := by have := hM b c ec fr hw; omega
      have hbz : b < W.heap.size := (Array.getElem?_eq_some_iff.1 hw).1
      have hadd : ∀ n, (⟨b, o, none⟩ : Addr).add n = ⟨b, o + n, none⟩ := fun n => by
       unfold Addr.add; split
       ·rename_i hz; subst hz; rfl
       ·rfl
      have hokv : okc W.heap.size M (.slice (some ⟨b, o, none⟩) len cap) = true := by
       simp only [okc]; rw [if_neg hc0]
       simp; omega
      -- the cells of the elements
      have hcell : ∀ q, q < len * ie.size → ∃ v, c[o + q]? = some v ∧ okc W.heap.size M v = true := by
       intro q hq
       have hj : q / ie.size < len := by rw [Nat.div_lt_iff_lt_mul (by omega)]; exact hq
       obtain ⟨cs', h3, d, _, h5⟩ := hel (q / ie.size) hj
       obtain ⟨hl, hat⟩ := cells?_at h3
       obtain ⟨c2, e2, fr2, hw2, _, h6, h7⟩ := hat (q % ie.size) (Nat.mod_lt _ (by omega))
       rw [hadd] at hw2 h6 h7
       simp only at hw2 h6 h7
       rw [hw] at hw2; injection hw2 with hw2; injection hw2 with hw2; subst hw2
       have hq2 : o + q / ie.size * ie.size + q % ie.size = o + q := by have := Nat.div_add_mod q ie.size; rw [Nat.mul_comm] at this; omega
       rw [hq2] at h6 h7
       refine ⟨c[o + q], Array.getElem?_eq_getElem h7, h5 _ ?_⟩
       rw [Array.getElem?_eq_getElem h7] at h6
       exact List.mem_of_getElem? h6.symm
      have hblk : (hp0 W M).blk (b * M + o) = some { cells := ((c.toList.drop o).takeWhile (okc W.heap.size M)).map (tr W.heap.size M), rw := false } := by
       simp only [hp0]
       rw [if_pos (code_lt hbz hoM), code_div hoM, code_mod hoM, hw]
      have htw : ∀ q, q < len * ie.size → ((c.toList.drop o).takeWhile (okc W.heap.size M))[q]? = c[o + q]? := by
       intro q hq
       rw [takeWhile_of (n := len * ie.size) (fun i hi => by
        obtain ⟨v, h1, h2⟩ := hcell i hi
        exact ⟨v, by rw [List.getElem?_drop]; simpa using h1, h2⟩) q hq, List.getElem?_drop]
       simp
      have htl : len * ie.size ≤ ((c.toList.drop o).takeWhile (okc W.heap.size M)).length := by
       rcases Nat.eq_zero_or_pos (len * ie.size) with hz | hz
       ·omega
       ·obtain ⟨v, h1, _⟩ := hcell (len * ie.size - 1) (by omega)
        have h2 := htw (len * ie.size - 1) (by omega)
        rw [h1] at h2
        have := (List.getElem?_eq_some_iff.1 h2).1
        omega
      obtain ⟨l, hl1, hl2⟩ := list_choose (Q := fun j d => ∃ xs, (hp0 W M).cells (b * M + o) (0 + j * ie.size) ie.size = some xs ∧ Rd Γ (hp0 W M) g e xs d) len (fun j hj => by
       obtain ⟨cs', h3, d, h4, h5⟩ := hel j hj
       refine ⟨d, _, ?_, h4⟩
       obtain ⟨hl, hat⟩ := cells?_at h3
       unfold Hp.cells
       rw [hblk]
       have hle : 0 + j * ie.size + ie.size ≤ len * ie.size := by
        have : (j + 1) * ie.size ≤ len * ie.size := Nat.mul_le_mul_right _ hj
        rw [Nat.add_mul] at this; omega
       simp only [Option.bind_some, List.length_map]
       rw [if_pos (by omega)]
       congr 1
       apply List.ext_getElem?
       intro q
       rcases Nat.lt_or_ge q ie.size with hq | hq
       ·rw [List.getElem?_take_of_lt hq, List.getElem?_drop, List.getElem?_map, List.getElem?_map, htw _ (by omega)]
        obtain ⟨c2, e2, fr2, hw2, _, h6, h7⟩ := hat q hq
        rw [hadd] at hw2 h6 h7
        simp only at hw2 h6 h7
        rw [hw] at hw2; injection hw2 with hw2; injection hw2 with hw2; subst hw2
        rw [← h6, show o + (0 + j * ie.size + q) = o + j * ie.size + q by omega]
       ·rw [List.getElem?_eq_none (by simp; omega), List.getElem?_eq_none (by simp; omega)])
      refine ⟨.row false l, ?_, by simpa using hokv⟩
      unfold Rd; rw [hg]
      refine ⟨b * M + o, 0, cap, ie, by simp [tr, hc0, hl1], hge, ⟨by omega, by omega⟩, by omega, ?_, hl2⟩
      have := code_lt (z := W.heap.size) hbz hoM
      show _ < W.heap.size * M + 1
      omega
    ·cases h
  | struct fs =>
   obtain ⟨f, rfl, hf⟩ := hsh
   rw [hd] at h
   simp only [Bool.and_eq_true, List.all_eq_true] at hok
   obtain ⟨htile, hok⟩ := hok
   have hst : ∃ xs, cs.length = P.cellsOf t ∧ (f.toList.mapM fun f => DataW.trod enc P W base (fun _ => true) held fuel f.type ((cs.drop f.offset).take (P.cellsOf f.type))) = some xs := by
    simp only at h
    split at h
    ·rename_i hl
     obtain ⟨xs, h1, _⟩ := Option.map_eq_some_iff.1 h
     exact ⟨xs, hl, h1⟩
    ·cases h
   obtain ⟨xs, hl, hm⟩ := hst
   have hfl : ∀ j, j < fs.length → ∃ d, ∀ p, fs[j]? = some p → ∃ ti, Γ p.2 = some ti ∧ Rd Γ (hp0 W M) g p.2 (((cs.map (tr W.heap.size M)).drop p.1).take ti.size) d ∧ ∀ v ∈ (cs.drop p.1).take ti.size, okc W.heap.size M v = true := by
    intro j hj
    have hfj : fs[j]? = some fs[j] := List.getElem?_eq_getElem hj
    have : f.toList[j]? ≠ none := by
     intro hn
     have h9 : fs[j]? = none := by rw [← hf, List.getElem?_map, hn]; rfl
     rw [hfj] at h9
     cases h9
    obtain ⟨fj, hfj'⟩ := Option.ne_none_iff_exists'.1 this
    obtain ⟨y, h2, _⟩ := mapM_at hm j fj hfj'
    have hp : fs[j] = (fj.offset, fj.type) := by
     have h9 : fs[j]? = some (fj.offset, fj.type) := by rw [← hf, List.getElem?_map, hfj']; rfl
     rw [hfj] at h9; injection h9
    have hto := hok fs[j] (List.getElem_mem hj)
    rw [hp] at hto
    obtain ⟨d, h3, h4⟩ := ih fuel fj.type _ y h2 hto
    have hti : ∃ ti, Γ fj.type = some ti := by
     cases g with
     | zero => cases hto
     | succ g =>
      unfold tyOk at hto
      cases hx : Γ fj.type with
      | none => rw [hx] at hto; cases hto
      | some ti => exact ⟨ti, rfl⟩
    obtain ⟨ti, hti⟩ := hti
    refine ⟨d, fun p hpp => ?_⟩
    rw [hfj] at hpp; injection hpp with hpp; subst hpp
    rw [hp]
    rw [K.cellsOf hti] at h3 h4
    exact ⟨ti, hti, by rw [drop_take_map]; exact h3, h4⟩
   obtain ⟨l, hl1, hl2⟩ := list_choose fs.length hfl
   refine ⟨.agg l, ?_, ?_⟩
   ·unfold Rd; rw [hg]
    refine ⟨by simp [hl, hsz], hl1, fun j p x hp hx => ?_⟩
    obtain ⟨ti, h1, h2, _⟩ := hl2 j x hx p hp
    exact ⟨ti, h1, h2⟩
   ·intro v hv
    refine tiles_all (cs := cs) (by rw [hl, hsz]) fs 0 htile (fun q hq ti hti v hv => ?_) v (by simpa using hv)
    obtain ⟨j, hj⟩ := List.getElem?_of_mem hq
    have hjl := (List.getElem?_eq_some_iff.1 hj).1
    obtain ⟨d, hd2⟩ := hfl j hjl
    obtain ⟨ti', h1, _, h3⟩ := hd2 q hj
    rw [hti] at h1; injection h1 with h1; subst h1
    exact h3 v hv
  | _ => cases hok
end
end Go.Proofs.YtonpnjfclelpiaaGreatM
