/- Rows in plain words; what arguments read. -/
import Derived.Test.YtbgaljpilmmefaaA5R1
namespace Go.Proofs.YtbgaljpilmmefaaM
open Go
set_option linter.unusedVariables false
set_option linter.unusedSimpArgs false
attribute [local irreducible] OpG Go Done OpV OpK OpH OpN OpL endQ exQ RunP OpsP Call pureV opV binV makeV effV appendV sliceV isPut

abbrev sv (s : StepD) : Value := .agg #[.int .i64 s.op, .int .i64 s.r, .int .i64 s.a, .int .i64 s.b, .int .i64 s.n]
def zStep : List Value := [.int .i64 0, .int .i64 0, .int .i64 0, .int .i64 0, .int .i64 0]
attribute [go_sem] StepD.enc
theorem sv_enc (s : StepD) : Value.agg (s.enc).toArray = sv s := nr rfl
theorem enc_len (s : StepD) : s.enc.length = 5 := nr rfl

/- Whole numbers. -/
def encI (n : Int) : List Value := [.int .i64 n]
theorem encI_len (n : Int) : (encI n).length = 1 := nr rfl
def rInt : Rp Int := .flat 1 encI
theorem rInt_z : rInt.z = 1 := nr rfl
theorem rInt_R {h : Hp} {cs : List Value} {x : Int} : rInt.R h cs x = (cs = encI x) := nr rfl
theorem int_cells {h : Hp} {n o : Nat} {x : Int} (hc : h.cells n o 1 = some (encI x)) : h.cell n o = some (.int .i64 x) := cells_cell hc 0 _ rfl

@[go_sem] theorem apO_zero' {z nm n o len c : Nat} {h : Hp} {cs : List Value} : apO z nm (.slice (some ⟨n, o, none⟩) len c) h (some (cs, 0)) = some (.slice (some ⟨n, o, none⟩) len c, h) := nr rfl
@[go_sem] theorem apO_zero_nil' {z nm : Nat} {h : Hp} {cs : List Value} : apO z nm (.slice none 0 0) h (some (cs, 0)) = some (.slice none 0 0, h) := nr rfl
@[go_sem] theorem apB_nil {z nm n k' : Nat} {h : Hp} {cs : List Value} (h0 : k' ≠ 0) (hk : k' ≤ 1073741824) (hz : z ≠ 0) :
    apB z nm n 0 0 (U z) h cs k' (some ⟨[], true⟩) = some (.slice (some ⟨nm, 0, none⟩) k' (U z), (h.put n none).put nm (some { cells := cs, rw := true })) := by
  rw [apB_own (by simp) (by omega) h0 hz, Nat.zero_add, List.nil_append]

attribute [go_sem] Option.isNone_some Option.isNone_none
/-- A row of one's own, or none. -/
def OA {α : Type} (enc : α → List Value) (h : Hp) (a : Option Addr) (l : List α) : Prop := (a = none ∧ l = []) ∨ ∃ n, a = some ⟨n, 0, none⟩ ∧ n < h.next ∧ OF enc h n l
theorem OA.sl {α : Type} {enc : α → List Value} {z : Nat} {h : Hp} {a : Option Addr} {l : List α} (hz : ∀ x, (enc x).length = z) (o : OA enc h a l) : SL (.flat z enc) h a l := by
  rcases o with ⟨_, rfl⟩ | ⟨n, rfl, h1, h2⟩
  · intro j hj; simp at hj
  · exact h2.sl hz h1
theorem OA.mono {α : Type} {enc : α → List Value} {h h' : Hp} {a : Option Addr} {l : List α} (e : Ext h h') (o : OA enc h a l) : OA enc h' a l := by
  rcases o with h1 | ⟨n, h1, h2, h3⟩
  · exact .inl h1
  · exact .inr ⟨n, h1, Nat.lt_of_lt_of_le h2 e.1, h3.mono e h2⟩
/-- What is answered is a row of one's own. -/
def OwnF {α : Type} (enc : α → List Value) (h : Hp) (l : List α) (v : Value) (h' : Hp) : Prop := Ext h h' ∧ ∃ a c, v = .slice a l.length c ∧ OA enc h' a l ∧ (a = none → c = 0) ∧ ∀ x, a = some x → h.next ≤ x.block
theorem own_some {α : Type} {enc : α → List Value} {h h' : Hp} {l : List α} {n c : Nat} (e : Ext h h') (h1 : h.next ≤ n) (h2 : n < h'.next) (h3 : OF enc h' n l) : OwnF enc h l (.slice (some ⟨n, 0, none⟩) l.length c) h' :=
  ⟨e, _, c, rfl, .inr ⟨n, rfl, h2, h3⟩, (fun hh => by cases hh), fun x hx => by injection hx with hx; subst hx; exact h1⟩
theorem own_nil {α : Type} {enc : α → List Value} {h h' : Hp} (e : Ext h h') : OwnF enc h [] (.slice none 0 0) h' := ⟨e, none, 0, rfl, .inl ⟨rfl, rfl⟩, fun _ => rfl, fun x hx => by cases hx⟩

/-- A row that bears a list, whole. -/
def FL {α : Type} (enc : α → List Value) (z : Nat) (h : Hp) (a : Option Addr) (c : Nat) (l : List α) : Prop := (a = none ∧ l = [] ∧ c = 0) ∨ ∃ n o, a = some ⟨n, o, none⟩ ∧ n < h.next ∧ h.cells n o (l.length * z) = some (l.flatMap enc)
theorem FL.mono {α : Type} {enc : α → List Value} {z : Nat} {h h' : Hp} {a : Option Addr} {c : Nat} {l : List α} (e : Ext h h') (r : FL enc z h a c l) : FL enc z h' a c l := by
  rcases r with h1 | ⟨n, o, h1, h2, h3⟩
  · exact .inl h1
  · exact .inr ⟨n, o, h1, Nat.lt_of_lt_of_le h2 e.1, by rw [ext_cells e n _ _ h2, h3]⟩
theorem cells_sub {h : Hp} {n o z k w : Nat} {cs : List Value} (hc : h.cells n o z = some cs) (hk : k + w ≤ z) : h.cells n (o + k) w = some ((cs.drop k).take w) := by
  unfold Hp.cells at hc ⊢
  cases hb : h.blk n with
  | none => rw [hb] at hc; cases hc
  | some b =>
    rw [hb] at hc
    simp only [Option.bind_some] at hc ⊢
    split at hc
    · injection hc with hc
      subst hc
      rw [if_pos (by omega), List.drop_take, List.take_take, List.drop_drop, Nat.min_eq_left (by omega)]
    · cases hc
theorem FL.sl {α : Type} {enc : α → List Value} {z : Nat} {h : Hp} {a : Option Addr} {c : Nat} {l : List α} (hz : ∀ x, (enc x).length = z) (r : FL enc z h a c l) : SL (.flat z enc) h a l := by
  rcases r with ⟨_, rfl, _⟩ | ⟨n, o, rfl, h2, h3⟩
  · intro j hj; simp at hj
  · intro j hj
    obtain ⟨q1, q2⟩ := flat_get hz l j hj
    refine ⟨n, o, enc l[j], rfl, h2, ?_, rfl⟩
    have : j * z + z ≤ l.length * z := by rw [flat_len hz] at q2; rw [Nat.add_mul, Nat.one_mul] at q2; exact q2
    show h.cells n (o + j * z) z = _
    rw [cells_sub h3 this, q1]
theorem OF.fl {α : Type} {enc : α → List Value} {z : Nat} {h : Hp} {n c : Nat} {l : List α} (hz : ∀ x, (enc x).length = z) (o : OF enc h n l) (hn : n < h.next) : FL enc z h (some ⟨n, 0, none⟩) c l := by
  refine .inr ⟨n, 0, rfl, hn, ?_⟩
  unfold Hp.cells
  rw [o]
  simp only [Option.bind_some, Nat.zero_add, List.drop_zero]
  rw [flat_len hz, if_pos (Nat.le_refl _), ← flat_len hz l, List.take_length]
theorem OA.fl {α : Type} {enc : α → List Value} {z : Nat} {h : Hp} {a : Option Addr} {c : Nat} {l : List α} (hz : ∀ x, (enc x).length = z) (o : OA enc h a l) (hc : a = none → c = 0) : FL enc z h a c l := by
  rcases o with ⟨rfl, rfl⟩ | ⟨n, rfl, h1, h2⟩
  · exact .inl ⟨rfl, rfl, hc rfl⟩
  · exact h2.fl hz h1

theorem OF.int {h : Hp} {n : Nat} {W : List Int} (b : OF encI h n W) (q : Nat) (hq : q < W.length) : h.cell n q = some (.int .i64 W[q]) := by
  obtain ⟨h1, h2⟩ := flat_get encI_len W q hq
  unfold Hp.cell
  rw [b]
  simp only [Option.bind_some]
  rw [Nat.mul_one] at h1
  have : ((W.flatMap encI).drop q)[0]? = some (.int .i64 W[q]) := by
    have h3 : (((W.flatMap encI).drop q).take 1)[0]? = some (.int .i64 W[q]) := by rw [h1]; rfl
    rw [List.getElem?_take, if_pos (by omega)] at h3
    exact h3
  rw [List.getElem?_drop, Nat.add_zero] at this
  exact this
theorem OF.step {h : Hp} {n : Nat} {l : List StepD} (b : OF StepD.enc h n l) (hn : n < h.next) (j : Nat) (hj : j < l.length) : h.cells n (j * 5) 5 = some l[j].enc := by
  obtain ⟨n', o', cs, r1, _, r2, r3⟩ := OF.sl (z := 5) enc_len b hn j hj
  injection r1 with r1; injection r1 with r1 r4
  subst r1; subst r4
  have r5 : cs = l[j].enc := r3
  subst r5
  have : h.cells n (0 + j * 5) 5 = some l[j].enc := r2
  rw [Nat.zero_add] at this
  exact this
end Go.Proofs.YtbgaljpilmmefaaM
