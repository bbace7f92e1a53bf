import Derived.Test.YtbgaljpilmmefaaV1MiQ
import Derived.Test.YtbgaljpilmmefaaV1MiH
import Derived.IntWalk
/- Regions of open order, walked. -/
namespace Go.Proofs.YtbgaljpilmmefaaM
open Go
set_option linter.unusedVariables false
set_option linter.unusedSimpArgs false

/-- A call that leaves all as it was, whatever else lies there. -/
def Quiet (C : Rel) (b : Nat) : Rel := fun g args h v h' => h' = h ∧ ∀ hh : Hp, hh.next = h.next → (∀ m, m < b → hh.blk m = h.blk m) → C g args hh v hh

theorem quiet_of {C : Rel} {b : Nat} {g : FuncId} {args : List Value} {h : Hp} {v : Value} (hc : ∀ hh, C g args hh v hh) : Quiet C b g args h v h := ⟨rfl, fun hh _ _ => hc hh⟩
theorem quiet_at {C : Rel} {b : Nat} {g : FuncId} {args : List Value} {h : Hp} {v : Value} (hc : ∀ hh : Hp, hh.next = h.next → (∀ m, m < b → hh.blk m = h.blk m) → C g args hh v hh) : Quiet C b g args h v h := ⟨rfl, hc⟩

def quietO : Op → Bool
  | .load _ _ | .alloc _ | .box _ _ | .buildSlice _ _ _ | .makeSlice _ _ _ => true
  | .call { callee := .value _, .. } | .call { callee := .builtin .len, .. } | .call { callee := .builtin .min, .. } | .call { callee := .builtin .max, .. } => true
  | op => isP op

section
variable {Γ : TypeId → Option TI} {E : TypeId → Nat} {C : Rel} {am : List Nat} {base : Nat}

theorem step_quiet {i : Nat} {s : S} {op : Op} {v : Value} {h' : Hp} (hq : quietO op = true) (hc : calleeV s op = none) (h : opV Γ E (base + i) s.ev op s.h = some (v, h')) :
    ∃ b, stepQ Γ E C am base i s op v b ∧ h' = (match b with | some b => s.h.put (base + i) (some b) | none => s.h) := by
  unfold stepQ
  simp only [hc]
  unfold opV at h
  cases hp : pureV Γ E s.ev op with
  | some w =>
    rw [hp] at h
    injection h with h; injection h with h1 h2
    exact ⟨none, ⟨h1.symm, rfl⟩, h2.symm⟩
  | none =>
    rw [hp] at h
    simp only at h ⊢
    have make : (match makeV Γ (base + i) s.ev op with | some (v, b) => some (v, s.h.put (base + i) (some b)) | none => match effV Γ (base + i) s.ev op s.h with | some r => some r | none => none) = some (v, h') → effV Γ (base + i) s.ev op s.h = none →
        ∃ b, (match makeV Γ (base + i) s.ev op with | some (w, c) => v = w ∧ b = some c | none => False) ∧ h' = (match b with | some b => s.h.put (base + i) (some b) | none => s.h) := by
      intro h he
      cases hm : makeV Γ (base + i) s.ev op with
      | none => rw [hm, he] at h; cases h
      | some r =>
        obtain ⟨w, c⟩ := r
        rw [hm] at h
        injection h with h; injection h with h1 h2
        exact ⟨some c, ⟨h1.symm, rfl⟩, h2.symm⟩
    cases op with
    | load t a =>
      simp only at h ⊢
      obtain ⟨w, h1, h2⟩ := Option.map_eq_some_iff.1 h
      injection h2 with h2 h3
      subst h2
      exact ⟨none, ⟨h1, rfl⟩, h3.symm⟩
    | alloc e => exact make h rfl
    | box t x => exact make h rfl
    | buildSlice t n ps => exact make h rfl
    | makeSlice t x y => exact make h rfl
    | call c =>
      exfalso
      obtain ⟨callee, args, ts⟩ := c
      cases callee with
      | builtin b =>
        cases b <;> first | (cases hq; done) | (change (none : Option (Value × Hp)) = some (v, h') at h; cases h)
      | value f => change (none : Option (Value × Hp)) = some (v, h') at h; cases h
      | _ => cases hq
    | _ => first | (exfalso; cases hq; done) | (exfalso; simp only [makeV, effV] at h; cases h)

theorem ops_quiet {Q : S → Prop} : ∀ (l : List POp) (i : Nat) (s : S), l.all (fun o => quietO o.op) = true → OpsP Γ E (Quiet C base) base i l s Q → (∀ j, ancB am j i = ancB am j i) → OpsQ Γ E C am base i l s Q
  | [], i, s, _, h, _ => h
  | o :: l, i, s, hl, h, _ => by
    simp only [List.all_cons, Bool.and_eq_true] at hl
    unfold OpsP at h
    unfold OpsQ
    split at h
    · exact h.elim
    · rename_i hg; simp only [hg]; exact ops_quiet l (i + 1) _ hl.2 h fun _ => rfl
    · rename_i hg
      simp only [hg]
      split at h
      · rename_i g args hc
        obtain ⟨v, h', ⟨rfl, h1⟩, h2⟩ := h
        refine ⟨v, none, ?_, ops_quiet l (i + 1) _ hl.2 h2 fun _ => rfl⟩
        unfold stepQ
        simp only [hc]
        exact ⟨fun hh ha => h1 hh ha.1 ha.2.1, trivial⟩
      · rename_i hc
        split at h
        · rename_i v h' hv
          obtain ⟨b, h1, h2⟩ := step_quiet (C := C) (am := am) hl.1 hc hv
          refine ⟨v, b, h1, ?_⟩
          subst h2
          have := ops_quiet l (i + 1) _ hl.2 h fun _ => rfl
          cases b <;> exact this
        · exact h.elim

variable {D : DrawR} {Q : Ex → S → Prop} {k : List Fr} {s : S}
theorem go_quiet {ops : Array Oper} (am : List Nat) (l : List POp) (hp : prepO ops ops.toList = some l) (ha : ancOk ops am = true) (hz : hazOk ops am = true) (hc : chainOk ops am = true) (hl : l.all (fun o => quietO o.op) = true)
    (h : OpG Γ E (Quiet C s.h.next) (Draw Γ E C 0) (Done Γ E C (Draw Γ E C 0) Q k) s.h.next 0 l [] (s.hp (s.h.cl ops.size))) : Go Γ E C (Draw Γ E C 0) Q (.draw ops) k s := by
  have h1 : OpsP Γ E (Quiet C s.h.next) s.h.next 0 l (s.hp (s.h.cl ops.size)) (fun s' => Done Γ E C (Draw Γ E C 0) Q k .norm s') := by
    have h2 := h
    unfold OpG at h2
    have e : (fun s' => Done Γ E (Quiet C s.h.next) (Draw Γ E C 0) (Done Γ E C (Draw Γ E C 0) Q k) [] .norm s') = (fun s' => Done Γ E C (Draw Γ E C 0) Q k .norm s') := by
      funext s'; exact done_nil
    rw [e] at h2
    exact h2
  obtain ⟨s', h2, h3⟩ := quiet_draw (n := 0) hp ha hz hc (ops_quiet (am := am) l 0 _ hl h1 fun _ => rfl)
  exact go_draw h2 h3
theorem cl_next {h : Hp} {n : Nat} : (h.cl n).next = h.next + n := nr rfl
theorem cl_blk {h : Hp} {n m : Nat} (hm : m < h.next) : (h.cl n).blk m = h.blk m := by simp [Hp.cl, hm]
theorem cl_cell {h : Hp} {n m o : Nat} (hm : m < h.next) : (h.cl n).cell m o = h.cell m o := by simp [Hp.cl, Hp.cell, hm]
theorem cl_cells {h : Hp} {n m o z : Nat} (hm : m < h.next) : (h.cl n).cells m o z = h.cells m o z := by simp [Hp.cl, Hp.cells, hm]

section
variable {D : DrawR} {Q : Ex → S → Prop} {k : List Fr} {s : S} {i : Nat} {l : List POp} {d : Option Nat}
def extO : Value → Nat → Option Value
  | .tuple vs, j => vs[j]?
  | _, _ => none
theorem extO_lit {vs : List Value} {j : Nat} : extO (.tuple vs.toArray) j = vs[j]? := by simp [extO]
theorem op_extract {x : Operand} {j : Nat} : OpG Γ E C D Q base i (⟨d, none, .extract x j⟩ :: l) k s = OpV Γ E C D Q base (i + 1) l k s d (extO (s.ev x) j) := by
  rw [op_pure rfl]
  congr 1
  simp only [pureV, extO]
  cases s.ev x <;> rfl
def nilO : Value → Option Value
  | .pointer (some a) => some (.pointer (some a))
  | .func (.func f) a b => some (.func (.func f) a b)
  | _ => none
theorem nilO_ptr {a : Addr} : nilO (.pointer (some a)) = some (.pointer (some a)) := nr rfl
theorem nilO_func {f : FuncId} {a b : Array Value} : nilO (.func (.func f) a b) = some (.func (.func f) a b) := nr rfl
theorem op_nilCheck {x : Operand} : OpG Γ E C D Q base i (⟨d, none, .nilCheck x⟩ :: l) k s = OpV Γ E C D Q base (i + 1) l k s d (nilO (s.ev x)) := op_pure rfl
def minO : Value → Value → Option Value
  | .int kk a, .int _ b => some (.int kk (if b < a then b else a))
  | _, _ => none
def maxO : Value → Value → Option Value
  | .int kk a, .int _ b => some (.int kk (if b > a then b else a))
  | _, _ => none
theorem minO_int {kk : IntKind} {a b : Int} : minO (.int kk a) (.int kk b) = some (.int kk (if b < a then b else a)) := nr rfl
theorem maxO_int {kk : IntKind} {a b : Int} : maxO (.int kk a) (.int kk b) = some (.int kk (if b > a then b else a)) := nr rfl
theorem op_min {x y : Operand} {ts : Array TypeId} : OpG Γ E C D Q base i (⟨d, none, .call { callee := .builtin .min, args := #[x, y], argTypes := ts }⟩ :: l) k s = OpV Γ E C D Q base (i + 1) l k s d (minO (s.ev x) (s.ev y)) := by
  refine opn_pure rfl ?_
  unfold opV
  have : pureV Γ E s.ev (.call { callee := .builtin .min, args := #[x, y], argTypes := ts }) = minO (s.ev x) (s.ev y) := by
    show (match s.ev x, s.ev y with
      | .int kk a, .int _ b => some (Value.int kk (if b < a then b else a))
      | _, _ => none) = _
    cases s.ev x <;> cases s.ev y <;> rfl
  rw [this]
  cases minO (s.ev x) (s.ev y) <;> rfl
theorem op_max {x y : Operand} {ts : Array TypeId} : OpG Γ E C D Q base i (⟨d, none, .call { callee := .builtin .max, args := #[x, y], argTypes := ts }⟩ :: l) k s = OpV Γ E C D Q base (i + 1) l k s d (maxO (s.ev x) (s.ev y)) := by
  refine opn_pure rfl ?_
  unfold opV
  have : pureV Γ E s.ev (.call { callee := .builtin .max, args := #[x, y], argTypes := ts }) = maxO (s.ev x) (s.ev y) := by
    show (match s.ev x, s.ev y with
      | .int kk a, .int _ b => some (Value.int kk (if b > a then b else a))
      | _, _ => none) = _
    cases s.ev x <;> cases s.ev y <;> rfl
  rw [this]
  cases maxO (s.ev x) (s.ev y) <;> rfl
/-- Conversions. -/
def cvI (kk : IntKind) : Value → Option Value
  | .int _ n => some (.int kk (kk.wrap n))
  | _ => none
theorem cvI_int {kk kk' : IntKind} {n : Int} : cvI kk (.int kk' n) = some (.int kk (kk.wrap n)) := nr rfl
theorem op_cvI {t u : TypeId} {x : Operand} {kk kk' : IntKind} {a b a' b' : Nat} {z z' : List Value} (ht : Γ t = some ⟨.int kk', a, b, z⟩) (hu : Γ u = some ⟨.int kk, a', b', z'⟩) :
    OpG Γ E C D Q base i (⟨d, none, .convert t u x⟩ :: l) k s = OpV Γ E C D Q base (i + 1) l k s d (cvI kk (s.ev x)) := by
  refine opn_pure rfl ?_
  unfold opV
  simp only [pureV, ht, hu, makeV, effV, textV]
  cases s.ev x <;> rfl
def cvB (nm : Nat) : Value → Option (Value × Blk)
  | .string b => some (.slice (some ⟨nm, 0, none⟩) b.size (U 1), { cells := b.data.toList.map fun x => .int .u8 x.toNat, rw := true })
  | _ => none
theorem cvB_str {nm : Nat} {b : ByteArray} : cvB nm (.string b) = some (.slice (some ⟨nm, 0, none⟩) b.size (U 1), { cells := b.data.toList.map fun x => .int .u8 x.toNat, rw := true }) := nr rfl
theorem op_cvB {t u e : TypeId} {x : Operand} {a b a' b' : Nat} {z z' z2 : List Value} (ht : Γ t = some ⟨.str, a, b, z⟩) (hu : Γ u = some ⟨.slice e, a', b', z'⟩) (he : Γ e = some ⟨.int .u8, 1, 1, z2⟩) :
    OpG Γ E C D Q base i (⟨d, none, .convert t u x⟩ :: l) k s = OpK Γ E C D Q base (i + 1) l k s d (base + i) (cvB (base + i) (s.ev x)) := by
  rw [op_cons rfl]
  unfold opV
  simp only [pureV, ht, hu, makeV, effV, textV, he]
  cases hx : s.ev x <;> first | rfl | (simp only [he, cvB]; rfl)
theorem op_cvT {t u e : TypeId} {x : Operand} {a b a' b' : Nat} {z z' : List Value} (ht : Γ t = some ⟨.slice e, a, b, z⟩) (hu : Γ u = some ⟨.str, a', b', z'⟩) :
    OpG Γ E C D Q base i (⟨d, none, .convert t u x⟩ :: l) k s = OpV Γ E C D Q base (i + 1) l k s d (textV Γ t u (s.ev x) s.h) := by
  refine opn_pure rfl ?_
  unfold opV
  simp only [pureV, ht, hu, makeV, effV]
end

/-- What was there is there. -/
def Ext (h h' : Hp) : Prop := h.next ≤ h'.next ∧ ∀ m, m < h.next → h'.blk m = h.blk m
theorem ext_refl (h : Hp) : Ext h h := ⟨Nat.le_refl _, fun _ _ => rfl⟩
theorem ext_cell {h h' : Hp} (e : Ext h h') : ∀ m o, m < h.next → h'.cell m o = h.cell m o := fun m o hm => by simp only [Hp.cell, e.2 m hm]
theorem ext_cells {h h' : Hp} (e : Ext h h') : ∀ m o z, m < h.next → h'.cells m o z = h.cells m o z := fun m o z hm => by simp only [Hp.cells, e.2 m hm]

theorem wrapI {n : Int} (h0 : -9223372036854775808 ≤ n) (h1 : n ≤ 9223372036854775807) : IntKind.wrap .i64 n = n := IntWalk.i64_in n ⟨h0, h1⟩

/-- What is walked behind a place is walked once, from whatever state it is come to in. -/
theorem done_cut {D : DrawR} {Q : Ex → S → Prop} {k : List Fr} {b : PC} {R : S → Prop} {s : S} (h : R s) (h2 : ∀ s', R s' → Go Γ E C D Q b k s') : Done Γ E C D Q (.then_ b :: k) .norm s := h2 s h
theorem go_cut {D : DrawR} {Q : Ex → S → Prop} {k : List Fr} {a b : PC} {s : S} (R : S → Prop) (h1 : Go Γ E C D Q a (.round R :: k) s) (h2 : ∀ s', R s' → Go Γ E C D Q b k s') : Go Γ E C D Q a (.then_ b :: k) s := by
  refine RunP.mono (p := a) (fun x s' hx => ?_) h1
  cases x with
  | norm => exact h2 s' hx
  | exit i => exact hx
  | ret => exact hx
end
end Go.Proofs.YtbgaljpilmmefaaM
