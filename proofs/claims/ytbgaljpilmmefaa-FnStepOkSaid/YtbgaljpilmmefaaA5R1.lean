/- Data, and how values and blocks bear them. -/
import Derived.Test.YtbgaljpilmmefaaA5C
namespace Go.Proofs.YtbgaljpilmmefaaM
open Go
set_option linter.unusedVariables false
set_option linter.unusedSimpArgs false
attribute [local irreducible] OpG Go Done OpV OpK OpH OpN OpL endQ exQ RunP OpsP Call pureV opV binV makeV effV appendV sliceV isPut

def I64 (n : Int) : Prop := -9223372036854775808 ≤ n ∧ n ≤ 9223372036854775807
theorem i64_wf {n : Int} (h : (Lit.int .i64 n).wf = true) : I64 n := by
  have h1 : IntKind.i64.min = -9223372036854775808 := by decide
  have h2 : IntKind.i64.max = 9223372036854775807 := by decide
  replace h : (decide (IntKind.i64.min ≤ n) && decide (n ≤ IntKind.i64.max)) = true := h
  rw [h1, h2] at h
  simpa [I64] using h

/-- What is borne: so many cells, how, and it stays so while blocks come up. -/
structure Rp (α : Type) where
  z : Nat
  R : Hp → List Value → α → Prop
  mono : ∀ {h h' : Hp} {cs : List Value} {x : α}, Ext h h' → R h cs x → R h' cs x

/-- A row bears a list. -/
def SL {α : Type} (T : Rp α) (h : Hp) (a : Option Addr) (l : List α) : Prop := ∀ j (hj : j < l.length), ∃ n o cs, a = some ⟨n, o, none⟩ ∧ n < h.next ∧ h.cells n (o + j * T.z) T.z = some cs ∧ T.R h cs l[j]
theorem SL.mono {α : Type} {T : Rp α} {h h' : Hp} {a : Option Addr} {l : List α} (e : Ext h h') (r : SL T h a l) : SL T h' a l := fun j hj => by
  obtain ⟨n, o, cs, h1, h2, h3, h4⟩ := r j hj
  exact ⟨n, o, cs, h1, Nat.lt_of_lt_of_le h2 e.1, by rw [ext_cells e n _ _ h2, h3], T.mono e h4⟩
def Rp.sl {α : Type} (T : Rp α) : Rp (List α) where
  z := 1
  R := fun h cs l => ∃ a c, cs = [.slice a l.length c] ∧ SL T h a l
  mono := fun e ⟨a, c, h1, h2⟩ => ⟨a, c, h1, h2.mono e⟩
/-- What is told by its cells alone. -/
def Rp.flat {α : Type} (z : Nat) (enc : α → List Value) : Rp α where
  z := z
  R := fun _ cs x => cs = enc x
  mono := fun _ h => h

theorem Ext.trans {a b c : Hp} (h : Ext a b) (k : Ext b c) : Ext a c := ⟨Nat.le_trans h.1 k.1, fun m hm => by rw [k.2 m (Nat.lt_of_lt_of_le hm h.1), h.2 m hm]⟩
theorem ext_to {h : Hp} {n : Nat} (hn : h.next ≤ n) : Ext h (h.to n) := ⟨hn, fun _ _ => rfl⟩

structure StepD where
  op : Int
  r : Int
  a : Int
  b : Int
  n : Int
  deriving DecidableEq
def StepD.enc (s : StepD) : List Value := [.int .i64 s.op, .int .i64 s.r, .int .i64 s.a, .int .i64 s.b, .int .i64 s.n]
def StepD.wf (s : StepD) : Prop := I64 s.op ∧ I64 s.r ∧ I64 s.a ∧ I64 s.b ∧ I64 s.n
def rStep : Rp StepD := .flat 5 StepD.enc
theorem rStep_z : rStep.z = 5 := nr rfl
theorem rStep_R {h : Hp} {cs : List Value} {x : StepD} : rStep.R h cs x = (cs = x.enc) := nr rfl

theorem cells_cell {h : Hp} {n o z : Nat} {cs : List Value} (hc : h.cells n o z = some cs) (k : Nat) (v : Value) (hk : cs[k]? = some v) : h.cell n (o + k) = some v := by
  unfold Hp.cells at hc
  unfold Hp.cell
  cases hb : h.blk n with
  | none => rw [hb] at hc; cases hc
  | some b =>
    rw [hb] at hc
    simp only [Option.bind_some] at hc ⊢
    split at hc
    · injection hc with hc
      subst hc
      rw [List.getElem?_take] at hk
      split at hk
      · rw [List.getElem?_drop] at hk; exact hk
      · cases hk
    · cases hc
theorem step_cells {h : Hp} {n o : Nat} {x : StepD} (hc : h.cells n o 5 = some x.enc) : h.cell n o = some (.int .i64 x.op) ∧ h.cell n (o + 1) = some (.int .i64 x.r) ∧ h.cell n (o + 2) = some (.int .i64 x.a) ∧ h.cell n (o + 3) = some (.int .i64 x.b) ∧ h.cell n (o + 4) = some (.int .i64 x.n) :=
  ⟨cells_cell hc 0 _ rfl, cells_cell hc 1 _ rfl, cells_cell hc 2 _ rfl, cells_cell hc 3 _ rfl, cells_cell hc 4 _ rfl⟩

/-- A row of one's own: a block that bears a list and nothing else. -/
def OF {α : Type} (enc : α → List Value) (h : Hp) (n : Nat) (l : List α) : Prop := h.blk n = some ⟨l.flatMap enc, true⟩
theorem flat_get {α : Type} {enc : α → List Value} {z : Nat} (hz : ∀ x, (enc x).length = z) : ∀ (l : List α) (j : Nat) (hj : j < l.length), ((l.flatMap enc).drop (j * z)).take z = enc l[j] ∧ (j + 1) * z ≤ (l.flatMap enc).length
  | x :: l, 0, _ => by
    have := hz x
    simp only [List.flatMap_cons, Nat.zero_mul, List.drop_zero, List.getElem_cons_zero, Nat.zero_add, Nat.one_mul, List.length_append]
    exact ⟨by rw [← this, List.take_left], by omega⟩
  | x :: l, j + 1, hj => by
    obtain ⟨h1, h2⟩ := flat_get hz l j (by simpa using hj)
    have hx := hz x
    simp only [List.flatMap_cons, List.getElem_cons_succ, List.length_append]
    refine ⟨?_, by rw [Nat.add_mul (j + 1), hx]; omega⟩
    have : (j + 1) * z = (enc x).length + j * z := by rw [hx, Nat.add_mul]; omega
    rw [this, ← List.drop_drop, List.drop_left]
    exact h1
theorem flat_len {α : Type} {enc : α → List Value} {z : Nat} (hz : ∀ x, (enc x).length = z) : ∀ (l : List α), (l.flatMap enc).length = l.length * z
  | [] => by simp
  | x :: l => by simp only [List.flatMap_cons, List.length_append, flat_len hz l, hz, List.length_cons, Nat.add_mul]; omega
theorem OF.sl {α : Type} {enc : α → List Value} {z : Nat} {h : Hp} {n : Nat} {l : List α} (hz : ∀ x, (enc x).length = z) (o : OF enc h n l) (hn : n < h.next) : SL (.flat z enc) h (some ⟨n, 0, none⟩) l := fun j hj => by
  obtain ⟨h1, h2⟩ := flat_get hz l j hj
  refine ⟨n, 0, enc l[j], rfl, hn, ?_, rfl⟩
  show h.cells n (0 + j * z) z = _
  unfold Hp.cells
  rw [o]
  simp only [Option.bind_some]
  rw [if_pos (by rw [Nat.add_mul, Nat.one_mul] at h2; omega), Nat.zero_add, h1]
theorem OF.mono {α : Type} {enc : α → List Value} {h h' : Hp} {n : Nat} {l : List α} (e : Ext h h') (hn : n < h.next) (o : OF enc h n l) : OF enc h' n l := by
  unfold OF at *
  rw [e.2 n hn, o]
theorem fill_len {α : Type} {enc : α → List Value} {z : Nat} {zero : List Value} (hz : ∀ x, (enc x).length = z) (hz0 : zero.length = z) (l : List α) (j : Nat) (hj : j < l.length) : j * z + z ≤ ((l.take j).flatMap enc ++ repZ zero (l.length - j)).length := by
  rw [List.length_append, flat_len hz, repZ_length, hz0, List.length_take, Nat.min_eq_left (by omega), ← Nat.add_mul]
  have : (j + 1) * z ≤ (j + (l.length - j)) * z := Nat.mul_le_mul_right z (by omega)
  rw [Nat.add_mul j 1, Nat.one_mul] at this
  exact this
/-- A row is filled from its beginning on. -/
theorem splice_fill {α : Type} {enc : α → List Value} {z : Nat} {zero : List Value} (hz : ∀ x, (enc x).length = z) (hz0 : zero.length = z) (l : List α) (j : Nat) (hj : j < l.length) :
    splice ((l.take j).flatMap enc ++ repZ zero (l.length - j)) (j * z) (enc l[j]) = (l.take (j + 1)).flatMap enc ++ repZ zero (l.length - (j + 1)) := by
  have h1 : ((l.take j).flatMap enc).length = j * z := by rw [flat_len hz, List.length_take, Nat.min_eq_left (by omega)]
  have h2 : l.length - j = (l.length - (j + 1)) + 1 := by omega
  have h4 : ((l.take j).flatMap enc ++ repZ zero (l.length - j)) = ((l.take j).flatMap enc ++ zero) ++ repZ zero (l.length - (j + 1)) := by
    rw [h2]; simp only [repZ, List.append_assoc]
  have h3 : ((l.take j).flatMap enc ++ zero).length = j * z + z := by rw [List.length_append, h1, hz0]
  unfold splice
  rw [hz, h4, ← h3, List.drop_left, List.append_assoc _ zero, ← h1, List.take_left, List.take_add_one, List.getElem?_eq_getElem hj]
  simp only [Option.toList_some, List.flatMap_append, List.flatMap_cons, List.flatMap_nil, List.append_nil]

section
variable {Γ : TypeId → Option TI} {E : TypeId → Nat} {C : Rel} {D : DrawR} {Q : Ex → S → Prop} {k : List Fr} {s : S} {base i : Nat} {l : List POp} {d : Option Nat}
@[go_sem] theorem gv_gv {b w : Bool} {v : Value} : gv b w (gv b w v) = gv b w v := by simp only [gv]; split <;> rfl
theorem bsO_eq {nm z len : Nat} {zero : List Value} {ps : List (Nat × Value)} (h : decide (len * z ≤ 16777216) = true) : bsO nm z zero len ps = (fillJ z (repZ zero len) ps).map fun cs => (.slice (some ⟨nm, 0, none⟩) len (U z), { cells := cs, rw := true }) := by
  rw [decide_eq_true_eq] at h
  unfold bsO
  rw [if_neg (by omega)]
theorem fillJ_nil {z : Nat} {cells : List Value} : fillJ z cells [] = some cells := nr rfl
theorem fillJ_cons {z j : Nat} {v : Value} {cells : List Value} {r : List (Nat × Value)} : fillJ z cells ((j, v) :: r) = if isVar v = true ∧ v.cells.size = z ∧ j * z + v.cells.size ≤ cells.length then fillJ z (splice cells (j * z) v.cells.toList) r else none := nr rfl
theorem repZ_zero {zero : List Value} : repZ zero 0 = [] := nr rfl
theorem repZ_succ {zero : List Value} {n : Nat} : repZ zero (n + 1) = zero ++ repZ zero n := nr rfl
attribute [go_sem] bsO_eq fillJ_nil fillJ_cons repZ_zero repZ_succ true_and and_true and_self Nat.zero_mul Nat.one_mul
/-- A guard that is itself guarded. -/
theorem op_gv2 {j : Nat} {w b w' y : Bool} {op : Op} {v : Value} (h : s.t j = gv b w' (.bool y)) (h1 : b = w' → y = w → OpG Γ E C D (isPut s d v) base i [⟨d, none, op⟩] [] s) (hn : OpG Γ E C D Q base (i + 1) l k (s.put d (gv b w' (gv y w v)))) :
    OpG Γ E C D Q base i (⟨d, some (j, w), op⟩ :: l) k s := by
  by_cases hb : b = w'
  · have e : ∀ u : Value, gv b w' u = u := fun u => by simp [gv, hb]
    rw [e] at h hn
    exact op_gv h (h1 hb) hn
  · have e : ∀ u : Value, gv b w' u = undef := fun u => by simp [gv, hb]
    rw [e] at h hn
    rw [op_guard_u h]
    exact hn
theorem op_sp2 {g : FuncId} {ags : Array Operand} {ts : Array TypeId} {args : List Value} {h0 : Hp} {P : Value → Hp → Prop} (ha : ags.toList.map s.ev = args) (hh : s.h = h0) (hc : ∃ v h', C g args h0 v h' ∧ P v h')
    (hn : ∀ v h', P v h' → OpG Γ E C D Q base (i + 1) l k ((s.hp h').put d v)) : OpG Γ E C D Q base i (⟨d, none, .call { callee := .value (.func g), args := ags, argTypes := ts }⟩ :: l) k s := op_sp hc ha hh hn
theorem op_spT2 {x : Bool} {bound : Nat} {g : FuncId} {ags : Array Operand} {ts : Array TypeId} {args : List Value} {h0 : Hp} {P : Value → Hp → Prop} (ha : ags.toList.map s.ev = args) (hh : s.h = h0) (hc : ∃ v h', C g args h0 v h' ∧ P v h') (hp : ∀ v h', P v h' → Ext h0 h') (hg : g ≠ PS)
    (hn : ∀ v h', P v h' → OpG Γ E (TC Γ C x bound) D Q base (i + 1) l k ((s.hp h').put d v)) : OpG Γ E (TC Γ C x bound) D Q base i (⟨d, none, .call { callee := .value (.func g), args := ags, argTypes := ts }⟩ :: l) k s := op_spT hc hp hg ha hh hn
theorem op_spN2 {bound : Nat} {g : FuncId} {ags : Array Operand} {ts : Array TypeId} {args : List Value} {h0 : Hp} {P : Value → Hp → Prop} (ha : ags.toList.map s.ev = args) (hh : s.h = h0) (hc : ∃ v h', C g args h0 v h' ∧ P v h') (hp : ∀ v h', P v h' → Nr h0 h')
    (hn : ∀ v h', P v h' → OpG Γ E (TC Γ C false bound) D Q base (i + 1) l k ((s.hp h').put d v)) : OpG Γ E (TC Γ C false bound) D Q base i (⟨d, none, .call { callee := .value (.func g), args := ags, argTypes := ts }⟩ :: l) k s := op_spN hc hp ha hh hn
end
/-- A row is laid anew. -/
def LaidF {α : Type} (enc : α → List Value) (z : Nat) (h : Hp) (l : List α) (v : Value) (h' : Hp) : Prop := Ext h h' ∧ ∃ n, v = .slice (some ⟨n, 0, none⟩) l.length (U z) ∧ h.next ≤ n ∧ n < h'.next ∧ OF enc h' n l
theorem laid_end {α : Type} {enc : α → List Value} {z : Nat} {zero : List Value} {h h' : Hp} {n : Nat} {l : List α} (e : Ext h h') (h1 : h.next ≤ n) (h2 : n < h'.next) (hb : h'.blk n = some ⟨(l.take l.length).flatMap enc ++ repZ zero (l.length - l.length), true⟩) :
    LaidF enc z h l (.slice (some ⟨n, 0, none⟩) l.length (U z)) h' := by
  refine ⟨e, n, rfl, h1, h2, ?_⟩
  unfold OF
  rw [hb, List.take_length, Nat.sub_self]
  simp [repZ]

end Go.Proofs.YtbgaljpilmmefaaM
