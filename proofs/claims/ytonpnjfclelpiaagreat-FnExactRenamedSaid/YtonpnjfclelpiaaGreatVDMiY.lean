import Derived.Test.YtonpnjfclelpiaaGreatVDMiX
namespace Go.Proofs.YtonpnjfclelpiaaGreatM
open Go
set_option linter.unusedVariables false
set_option linter.unusedSimpArgs false
section
variable {Γ : TypeId → Option TI} {E : TypeId → Nat} {F : FuncId → Option Func} {X : Rel}
end
section
variable {Γ : TypeId → Option TI} {E : TypeId → Nat} {C : Rel} {D : DrawR} {Q : Ex → S → Prop} {k : List Fr} {s : S} {base i : Nat} {l : List POp} {d : Option Nat}
def isP : Op → Bool
 | .move _ | .assign _ | .pick _ _ _ | .nilCheck _ | .binOp _ _ _ _ _ | .unOp _ _ _ | .fieldAddr _ _ _ | .field _ _ _ | .indexAddr _ _ _ | .index _ _ _ | .extract _ _ | .makeFunc _ _ _ | .build _ _ | .slice _ _ _ _ _ => true
 | _ => false
def addO : Value → Nat → Option Value
 | .pointer (some ⟨n, o, none⟩), d => some (.pointer (some ⟨n, o + d, none⟩))
 | _, _ => none
def fa (Γ : TypeId → Option TI) (t : TypeId) (f : Nat) : Option Nat := match Γ t with
 | some ⟨.struct fs, _, _, _⟩ => match fs[f]? with
  | some (d, t) => match Γ t with
   | some i => if i.size = 0 then none else some d
   | none => none
  | none => none
 | _ => none
def es (Γ : TypeId → Option TI) (t : TypeId) : Option Nat := match Γ t with
 | some ⟨.slice e, _, _, _⟩ => (Γ e).map (·.size)
 | _ => none
def ixO : Option Nat → Value → Value → Option Value
 | some z, .slice (some ⟨n, o, none⟩) len _, .int _ j => if 0 ≤ j ∧ j < len then some (.pointer (some ⟨n, o + j.toNat * z, none⟩)) else none
 | _, _, _ => none
def OpK (Γ : TypeId → Option TI) (E : TypeId → Nat) (C : Rel) (D : DrawR) (Q : Ex → S → Prop) (base i : Nat) (l : List POp) (k : List Fr) (s : S) (d : Option Nat) (nm : Nat) : Option (Value × Blk) → Prop
 | some (v, b) => OpG Γ E C D Q base i l k ((s.hp (s.h.put nm (some b))).put d v)
 | none => False
def isM : Op → Bool
 | .alloc _ | .box _ _ | .buildSlice _ _ _ | .makeSlice _ _ _ => true
 | _ => false
theorem op_make {op : Op} (h : isM op = true) : OpG Γ E C D Q base i (⟨d, none, op⟩ :: l) k s = OpK Γ E C D Q base (i + 1) l k s d (base + i) (makeV Γ (base + i) s.ev op) := by
 rw [op_cons (by unfold isM at h; split at h <;> first | rfl | cases h)]
 have hp : pureV Γ E s.ev op = none := by unfold isM at h; split at h <;> first | rfl | cases h
 have he : effV Γ (base + i) s.ev op s.h = none := by unfold isM at h; split at h <;> first | rfl | cases h
 unfold opV
 simp only [hp]
 unfold isM at h
 have key : ∀ o : Op, (match makeV Γ (base + i) s.ev o with | some (v, b) => some (v, s.h.put (base + i) (some b)) | none => match effV Γ (base + i) s.ev o s.h with | some r => some r | none => none) = (makeV Γ (base + i) s.ev o).map (fun r => (r.1, s.h.put (base + i) (some r.2))) ∨ effV Γ (base + i) s.ev o s.h ≠ none := by
  intro o
  cases hm : makeV Γ (base + i) s.ev o with
  | some r => exact .inl rfl
  | none => cases hx : effV Γ (base + i) s.ev o s.h with
   | none => exact .inl rfl
   | some r => exact .inr (by simp)
 have fin : ∀ o : Option (Value × Blk), OpN Γ E C D Q base (i + 1) l k s d (o.map (fun r => (r.1, s.h.put (base + i) (some r.2)))) = OpK Γ E C D Q base (i + 1) l k s d (base + i) o := by
  intro o; cases o with
  | none => rfl
  | some r => rfl
 rw [← fin]
 congr 1
 have k2 := (key op).resolve_right (by rw [he]; simp)
 rw [← k2]
 split at h
 all_goals first
  | rfl
  | cases h
theorem op_buildSlice {t : TypeId} {len : Nat} {parts : Array (Nat × Operand)} : OpG Γ E C D Q base i (⟨d, none, .buildSlice t len parts⟩ :: l) k s = OpK Γ E C D Q base (i + 1) l k s d (base + i) (makeV Γ (base + i) s.ev (.buildSlice t len parts)) := op_make rfl
def mkO (Γ : TypeId → Option TI) (nm : Nat) (t : TypeId) : Value → Value → Option (Value × Blk)
 | .int _ n, .int _ m => match Γ t with
  | some ⟨.slice e, _, _, _⟩ => match Γ e with
   | some i => if n = m ∧ 0 ≤ n ∧ n < 4294967296 ∧ i.bytes * n ≤ 281474976710656 ∧ i.size ≠ 0 ∧ i.zero.length = i.size then
     some (.slice (some ⟨nm, 0, none⟩) n.toNat (U i.size), { cells := repZ i.zero n.toNat, rw := true }) else none
   | none => none
  | _ => none
 | _, _ => none
def isStr (Γ : TypeId → Option TI) (t : TypeId) : Option Bool := match Γ t with
 | some ⟨.str, _, _, _⟩ => some true
 | some ⟨.slice _, _, _, _⟩ => some false
 | _ => none
def lenO : Option Bool → Value → Option Value
 | some true, .string s => some (.int .i64 s.size)
 | some false, .slice _ n _ => some (.int .i64 n)
 | _, _ => none
section
variable {t : TypeId} {kk : IntKind} {a b : Int}
theorem bin_add : binV Γ E .add t (.int kk a) (.int kk b) = some (.int kk (kk.wrap (a + b))) := by simp [binV, binI]
theorem bin_sub : binV Γ E .sub t (.int kk a) (.int kk b) = some (.int kk (kk.wrap (a - b))) := by simp [binV, binI]
theorem bin_eql : binV Γ E .eql t (.int kk a) (.int kk b) = some (.bool (a == b)) := by simp [binV, binI]
theorem bin_neq : binV Γ E .neq t (.int kk a) (.int kk b) = some (.bool (a != b)) := by simp [binV, binI]
theorem bin_lss : binV Γ E .lss t (.int kk a) (.int kk b) = some (.bool (decide (a < b))) := by simp [binV, binI]
theorem bin_leq : binV Γ E .leq t (.int kk a) (.int kk b) = some (.bool (decide (a ≤ b))) := by simp [binV, binI]
theorem bin_gtr : binV Γ E .gtr t (.int kk a) (.int kk b) = some (.bool (decide (a > b))) := by simp [binV, binI]
theorem bin_geq : binV Γ E .geq t (.int kk a) (.int kk b) = some (.bool (decide (a ≥ b))) := by simp [binV, binI]
theorem un_not {b : Bool} : unV .not (.bool b) = some (.bool (!b)) := nr rfl
end
theorem put_h {d : Option Nat} {v : Value} : (s.put d v).h = s.h := by cases d <;> rfl
theorem hput_blk_eq {h : Hp} {n : Nat} {b : Option Blk} : (h.put n b).blk n = b := by simp [Hp.put]
theorem hput_blk_ne {h : Hp} {n m : Nat} {b : Option Blk} (hne : m ≠ n) : (h.put n b).blk m = h.blk m := by simp [Hp.put, hne]
theorem hput_cells_ne {h : Hp} {n m o z : Nat} {b : Option Blk} (hne : m ≠ n) : (h.put n b).cells m o z = h.cells m o z := by simp [Hp.put, Hp.cells, hne]
def stC (n o z : Nat) (x : Value) (h : Hp) : Option Hp := (h.blk n).bind fun b => if b.rw && isVar x && x.cells.size == z && decide (o + z ≤ b.cells.length) then some (h.put n (some { b with cells := splice b.cells o x.cells.toList })) else none
end
end Go.Proofs.YtonpnjfclelpiaaGreatM
