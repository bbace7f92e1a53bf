import Derived.Test.YtbgaljpilmmefaaV1MiX
/- Rules by which code of the small machine is walked. -/
namespace Go.Proofs.YtbgaljpilmmefaaM
open Go
set_option linter.unusedVariables false
set_option linter.unusedSimpArgs false

section
variable {Γ : TypeId → Option TI} {E : TypeId → Nat} {F : FuncId → Option Func} {X : Rel}

def endQ (Γ : TypeId → Option TI) (rs : List ResultVar) (h : Hp) (v : Value) (h' : Hp) : Ex → S → Prop := fun x s => (x = .norm ∨ x = .ret) ∧ ∃ vs, resL Γ s rs = some vs ∧ v = tupV vs ∧ Tidy h v s.h h'

theorem call_go {f : FuncId} {fn : Func} {c : Code} {p : PC} {args : List Value} {h h' : Hp} {v : Value} (hF : F f = some fn) (hb : fn.body = some c) (hp : prep c = some p) (hn : args.length ≤ fn.ntmps)
    (hg : Go Γ E (Call Γ E F X (Draw Γ E)) (Draw Γ E (Call Γ E F X (Draw Γ E)) 0) (endQ Γ fn.results.toList h v h') p [] (initS args h)) : Call Γ E F X (Draw Γ E) f args h v h' := by
  refine Call.closed draw_mono (.inr ⟨fn, c, hF, hb, hn, run_prep c p _ _ hp ?_⟩)
  refine RunP.mono (p := p) (fun x s hx => ?_) hg
  rw [done_nil] at hx
  exact hx

theorem end_tmp1 {t : Tmp} {h : Hp} {v : Value} {h' : Hp} {s : S} {x : Ex} (hx : x = .norm ∨ x = .ret) (hv : s.t t = v) (hr : isRes v = true) (ht : Tidy h v s.h h') : endQ Γ [.tmp t] h v h' x s := by
  refine ⟨hx, [v], ?_, rfl, ht⟩
  unfold resL
  rw [hv, if_pos hr]
  rfl
theorem tidy_scal {h : Hp} {v : Value} {h0 : Hp} (hs : scal v = true) (hb : ∀ n b, n < h.next → h.blk n = some b → h0.blk n = some b) : Tidy h v h0 h := .inr ⟨hs, rfl, hb⟩
end

section
variable {Γ : TypeId → Option TI} {E : TypeId → Nat} {C : Rel} {D : DrawR} {Q : Ex → S → Prop} {k : List Fr} {s : S} {base i : Nat} {l : List POp} {d : Option Nat}

def OpV (Γ : TypeId → Option TI) (E : TypeId → Nat) (C : Rel) (D : DrawR) (Q : Ex → S → Prop) (base i : Nat) (l : List POp) (k : List Fr) (s : S) (d : Option Nat) : Option Value → Prop
  | some v => OpG Γ E C D Q base i l k (s.put d v)
  | none => False
theorem opv_some {v : Value} : OpV Γ E C D Q base i l k s d (some v) = OpG Γ E C D Q base i l k (s.put d v) := nr rfl

theorem opn_map (o : Option Value) : OpN Γ E C D Q base i l k s d (o.map fun v => (v, s.h)) = OpV Γ E C D Q base i l k s d o := by
  cases o <;> rfl

def isP : Op → Bool
  | .move _ | .assign _ | .pick _ _ _ | .nilCheck _ | .binOp _ _ _ _ _ | .unOp _ _ _ | .fieldAddr _ _ _ | .field _ _ _ | .indexAddr _ _ _ | .index _ _ _ | .extract _ _ | .makeFunc _ _ _ | .build _ _ => true
  | _ => false
theorem op_pure {op : Op} (h : isP op = true) : OpG Γ E C D Q base i (⟨d, none, op⟩ :: l) k s = OpV Γ E C D Q base (i + 1) l k s d (pureV Γ E s.ev op) := by
  rw [op_cons (by unfold isP at h; split at h <;> first | rfl | cases h), ← opn_map]
  congr 1
  unfold opV
  cases hp : pureV Γ E s.ev op with
  | some v => rfl
  | none => unfold isP at h; split at h <;> first | rfl | cases h

def pickO : Value → Value → Value → Option Value
  | .bool t, a, b => some (if t = true then a else b)
  | _, _, _ => none
theorem pickO_bool {t : Bool} {a b : Value} : pickO (.bool t) a b = some (if t = true then a else b) := nr rfl
def addO : Value → Nat → Option Value
  | .pointer (some ⟨n, o, none⟩), d => some (.pointer (some ⟨n, o + d, none⟩))
  | _, _ => none
theorem addO_ptr {n o d : Nat} : addO (.pointer (some ⟨n, o, none⟩)) d = some (.pointer (some ⟨n, o + d, none⟩)) := nr rfl
/-- A field's place. -/
def fa (Γ : TypeId → Option TI) (t : TypeId) (f : Nat) : Option Nat := match Γ t with
  | some ⟨.struct fs, _, _, _⟩ => match fs[f]? with
    | some (d, t) => match Γ t with
      | some i => if i.size = 0 then none else some d
      | none => none
    | none => none
  | _ => none
/-- A row's elements. -/
def es (Γ : TypeId → Option TI) (t : TypeId) : Option Nat := match Γ t with
  | some ⟨.slice e, _, _, _⟩ => (Γ e).map (·.size)
  | _ => none
def ixO : Option Nat → Value → Value → Option Value
  | some z, .slice (some ⟨n, o, none⟩) len _, .int _ j => if 0 ≤ j ∧ j < len then some (.pointer (some ⟨n, o + j.toNat * z, none⟩)) else none
  | _, _, _ => none
theorem ixO_ok {z n o len c : Nat} {kk : IntKind} {j : Int} (h0 : 0 ≤ j) (h1 : j < len) : ixO (some z) (.slice (some ⟨n, o, none⟩) len c) (.int kk j) = some (.pointer (some ⟨n, o + j.toNat * z, none⟩)) := by
  simp only [ixO]; rw [if_pos ⟨h0, h1⟩]
theorem ixO_nat {z n o len c : Nat} {kk : IntKind} {j : Nat} (h1 : j < len) : ixO (some z) (.slice (some ⟨n, o, none⟩) len c) (.int kk (j : Int)) = some (.pointer (some ⟨n, o + j * z, none⟩)) := by
  rw [ixO_ok (by omega) (by omega)]; rfl

theorem op_move {x : Operand} : OpG Γ E C D Q base i (⟨d, none, .move x⟩ :: l) k s = OpG Γ E C D Q base (i + 1) l k (s.put d (s.ev x)) := op_pure rfl
theorem op_assign {x : Operand} : OpG Γ E C D Q base i (⟨d, none, .assign x⟩ :: l) k s = OpG Γ E C D Q base (i + 1) l k (s.put d (s.ev x)) := op_pure rfl
theorem op_pick {c x y : Operand} : OpG Γ E C D Q base i (⟨d, none, .pick c x y⟩ :: l) k s = OpV Γ E C D Q base (i + 1) l k s d (pickO (s.ev c) (s.ev x) (s.ev y)) := by
  rw [op_pure rfl]
  congr 1
  simp only [pureV, pickO]
  cases s.ev c <;> first | rfl | (rename_i b; cases b <;> rfl)
theorem op_bin {o : BinOp} {t : TypeId} {x y : Operand} {z : TypeId} : OpG Γ E C D Q base i (⟨d, none, .binOp o t x y z⟩ :: l) k s = OpV Γ E C D Q base (i + 1) l k s d (binV Γ E o t (s.ev x) (s.ev y)) := op_pure rfl
theorem op_un {o : UnOp} {t : TypeId} {x : Operand} : OpG Γ E C D Q base i (⟨d, none, .unOp o t x⟩ :: l) k s = OpV Γ E C D Q base (i + 1) l k s d (unV o (s.ev x)) := op_pure rfl
theorem op_fa {t : TypeId} {x : Operand} {f : Nat} : OpG Γ E C D Q base i (⟨d, none, .fieldAddr t x f⟩ :: l) k s = OpV Γ E C D Q base (i + 1) l k s d ((fa Γ t f).bind (addO (s.ev x))) := by
  rw [op_pure rfl]
  congr 1
  simp only [pureV]
  unfold fa
  generalize s.ev x = v
  cases hg : Γ t with
  | none => rfl
  | some i =>
    obtain ⟨sh, _, _, _⟩ := i
    cases sh with
    | struct fs =>
      simp only
      have none_ : (∀ n o, v ≠ .pointer (some ⟨n, o, none⟩)) → ∀ dd, addO v dd = none := by
        intro h dd
        unfold addO
        split
        · exact absurd rfl (h _ _)
        · rfl
      by_cases hv : ∃ n o, v = .pointer (some ⟨n, o, none⟩)
      · obtain ⟨n, o, rfl⟩ := hv
        simp only
        cases hf : fs[f]? with
        | none => rfl
        | some p =>
          obtain ⟨dd, t'⟩ := p
          simp only
          cases Γ t' with
          | none => rfl
          | some i => simp only; split <;> rfl
      · have hn := none_ (fun n o h => hv ⟨n, o, h⟩)
        have : (match fs[f]? with
          | some (d, t) => match Γ t with
            | some i => if i.size = 0 then none else some d
            | none => none
          | none => none).bind (addO v) = none := by
          cases (match fs[f]? with
          | some (d, t) => match Γ t with
            | some i => if i.size = 0 then none else some d
            | none => none
          | none => (none : Option Nat)) with
          | none => rfl
          | some dd => exact hn dd
        rw [this]
        split
        · rename_i h1 _; exact absurd ⟨_, _, rfl⟩ hv
        · rfl
    | _ => rfl
theorem op_ix {t : TypeId} {x j : Operand} : OpG Γ E C D Q base i (⟨d, none, .indexAddr t x j⟩ :: l) k s = OpV Γ E C D Q base (i + 1) l k s d (ixO (es Γ t) (s.ev x) (s.ev j)) := by
  rw [op_pure rfl]
  congr 1
  simp only [pureV]
  unfold es
  generalize s.ev x = v
  generalize s.ev j = u
  cases hg : Γ t with
  | none => rfl
  | some i =>
    obtain ⟨sh, _, _, _⟩ := i
    cases sh with
    | slice e =>
      simp only
      split
      · rename_i h1
        injection h1 with h1; injection h1 with h1; injection h1 with h1; subst h1
        cases hge : Γ e with
        | none => rfl
        | some ie => rfl
      · rename_i hno
        cases hge : Γ e with
        | none => rfl
        | some ie =>
          simp only [Option.map_some]
          unfold ixO
          split
          · rename_i h1; exact absurd rfl (hno _ _ _ _ _ _ _ _ _ _ rfl rfl)
          · rfl
    | _ => rfl
theorem op_load {t : TypeId} {x : Operand} : OpG Γ E C D Q base i (⟨d, none, .load t x⟩ :: l) k s = OpV Γ E C D Q base (i + 1) l k s d (ldv Γ t (s.ev x) s.h) := by
  rw [op_cons rfl, ← opn_map]; rfl


/-- What lays a block. -/
def OpK (Γ : TypeId → Option TI) (E : TypeId → Nat) (C : Rel) (D : DrawR) (Q : Ex → S → Prop) (base i : Nat) (l : List POp) (k : List Fr) (s : S) (d : Option Nat) (nm : Nat) : Option (Value × Blk) → Prop
  | some (v, b) => OpG Γ E C D Q base i l k ((s.hp (s.h.put nm (some b))).put d v)
  | none => False
theorem opk_some {nm : Nat} {v : Value} {b : Blk} : OpK Γ E C D Q base i l k s d nm (some (v, b)) = OpG Γ E C D Q base i l k ((s.hp (s.h.put nm (some b))).put d v) := nr rfl
def isM : Op → Bool
  | .alloc _ | .box _ _ | .buildSlice _ _ _ | .makeSlice _ _ _ => true
  | _ => false
theorem op_make {op : Op} (h : isM op = true) : OpG Γ E C D Q base i (⟨d, none, op⟩ :: l) k s = OpK Γ E C D Q base (i + 1) l k s d (base + i) (makeV Γ (base + i) s.ev op) := by
  rw [op_cons (by unfold isM at h; split at h <;> first | rfl | cases h)]
  have hp : pureV Γ E s.ev op = none := by unfold isM at h; split at h <;> first | rfl | cases h
  have he : effV Γ (base + i) s.ev op s.h = none := by unfold isM at h; split at h <;> first | rfl | cases h
  unfold opV
  simp only [hp]
  unfold isM at h
  have key : ∀ o : Op, (match makeV Γ (base + i) s.ev o with | some (v, b) => some (v, s.h.put (base + i) (some b)) | none => match effV Γ (base + i) s.ev o s.h with | some r => some r | none => none) = (makeV Γ (base + i) s.ev o).map (fun r => (r.1, s.h.put (base + i) (some r.2))) ∨ effV Γ (base + i) s.ev o s.h ≠ none := by
    intro o
    cases hm : makeV Γ (base + i) s.ev o with
    | some r => exact .inl rfl
    | none => cases hx : effV Γ (base + i) s.ev o s.h with
      | none => exact .inl rfl
      | some r => exact .inr (by simp)
  have fin : ∀ o : Option (Value × Blk), OpN Γ E C D Q base (i + 1) l k s d (o.map (fun r => (r.1, s.h.put (base + i) (some r.2)))) = OpK Γ E C D Q base (i + 1) l k s d (base + i) o := by
    intro o; cases o with
    | none => rfl
    | some r => rfl
  rw [← fin]
  congr 1
  have k2 := (key op).resolve_right (by rw [he]; simp)
  rw [← k2]
  split at h
  all_goals first
    | rfl
    | cases h
theorem op_alloc {e : TypeId} : OpG Γ E C D Q base i (⟨d, none, .alloc e⟩ :: l) k s = OpK Γ E C D Q base (i + 1) l k s d (base + i) ((Γ e).map fun t => (.pointer (some ⟨base + i, 0, none⟩), { cells := t.zero, rw := true })) := op_make rfl
def boxO (nm : Nat) (v : Value) : Option (Value × Blk) := if isVar v = true then some (.pointer (some ⟨nm, 0, none⟩), { cells := v.cells.toList, rw := true }) else none
theorem boxO_int {nm : Nat} {kk : IntKind} {n : Int} : boxO nm (.int kk n) = some (.pointer (some ⟨nm, 0, none⟩), { cells := [.int kk n], rw := true }) := nr rfl
theorem boxO_bool {nm : Nat} {b : Bool} : boxO nm (.bool b) = some (.pointer (some ⟨nm, 0, none⟩), { cells := [.bool b], rw := true }) := nr rfl
theorem boxO_agg {nm : Nat} {cs : Array Value} : boxO nm (.agg cs) = some (.pointer (some ⟨nm, 0, none⟩), { cells := cs.toList, rw := true }) := nr rfl
theorem boxO_slice {nm : Nat} {a : Option Addr} {n c : Nat} : boxO nm (.slice a n c) = some (.pointer (some ⟨nm, 0, none⟩), { cells := [.slice a n c], rw := true }) := nr rfl
theorem boxO_ptr {nm : Nat} {a : Option Addr} : boxO nm (.pointer a) = some (.pointer (some ⟨nm, 0, none⟩), { cells := [.pointer a], rw := true }) := nr rfl
theorem op_box {t : TypeId} {x : Operand} : OpG Γ E C D Q base i (⟨d, none, .box t x⟩ :: l) k s = OpK Γ E C D Q base (i + 1) l k s d (base + i) (boxO (base + i) (s.ev x)) := op_make rfl
theorem op_buildSlice {t : TypeId} {len : Nat} {parts : Array (Nat × Operand)} : OpG Γ E C D Q base i (⟨d, none, .buildSlice t len parts⟩ :: l) k s = OpK Γ E C D Q base (i + 1) l k s d (base + i) (makeV Γ (base + i) s.ev (.buildSlice t len parts)) := op_make rfl
def mkO (Γ : TypeId → Option TI) (nm : Nat) (t : TypeId) : Value → Value → Option (Value × Blk)
  | .int _ n, .int _ m => match Γ t with
    | some ⟨.slice e, _, _, _⟩ => match Γ e with
      | some i => if n = m ∧ 0 ≤ n ∧ n < 4294967296 ∧ i.bytes * n ≤ 281474976710656 ∧ i.size ≠ 0 ∧ i.zero.length = i.size then
          some (.slice (some ⟨nm, 0, none⟩) n.toNat (U i.size), { cells := repZ i.zero n.toNat, rw := true }) else none
      | none => none
    | _ => none
  | _, _ => none
theorem op_mkSlice {t : TypeId} {x y : Operand} : OpG Γ E C D Q base i (⟨d, none, .makeSlice t x y⟩ :: l) k s = OpK Γ E C D Q base (i + 1) l k s d (base + i) (mkO Γ (base + i) t (s.ev x) (s.ev y)) := by
  rw [op_make rfl]
  congr 1
  simp only [makeV]
  unfold mkO
  generalize s.ev x = v
  generalize s.ev y = u
  cases hg : Γ t with
  | none => simp only; split <;> rfl
  | some i =>
    obtain ⟨sh, _, _, _⟩ := i
    cases sh with
    | slice e => simp only; cases v <;> cases u <;> rfl
    | _ => simp only; split <;> rfl

/-- What writes. -/
def OpH (Γ : TypeId → Option TI) (E : TypeId → Nat) (C : Rel) (D : DrawR) (Q : Ex → S → Prop) (base i : Nat) (l : List POp) (k : List Fr) (s : S) (d : Option Nat) (v : Value) : Option Hp → Prop
  | some h' => OpG Γ E C D Q base i l k ((s.hp h').put d v)
  | none => False
theorem oph_some {v : Value} {h' : Hp} : OpH Γ E C D Q base i l k s d v (some h') = OpG Γ E C D Q base i l k ((s.hp h').put d v) := nr rfl
theorem op_store {t : TypeId} {a x : Operand} : OpG Γ E C D Q base i (⟨d, none, .store t a x⟩ :: l) k s = OpH Γ E C D Q base (i + 1) l k s d undef (stv Γ t (s.ev a) (s.ev x) s.h) := by
  rw [op_cons rfl]
  have : opV Γ E (base + i) s.ev (.store t a x) s.h = (stv Γ t (s.ev a) (s.ev x) s.h).map fun h' => (undef, h') := by
    unfold opV
    simp only [pureV, makeV, effV]
    cases stv Γ t (s.ev a) (s.ev x) s.h <;> rfl
  rw [this]
  cases stv Γ t (s.ev a) (s.ev x) s.h <;> rfl
theorem op_slice {t : TypeId} {x : Operand} {lo hi mx : Option Operand} : OpG Γ E C D Q base i (⟨d, none, .slice t x lo hi mx⟩ :: l) k s = OpN Γ E C D Q base (i + 1) l k s d (opV Γ E (base + i) s.ev (.slice t x lo hi mx) s.h) := op_cons rfl
theorem op_append {t t2 : TypeId} {x y : Operand} : OpG Γ E C D Q base i (⟨d, none, .call { callee := .builtin .append, args := #[x, y], argTypes := #[t, t2] }⟩ :: l) k s = OpN Γ E C D Q base (i + 1) l k s d (appendV Γ (base + i) t t2 (s.ev x) (s.ev y) s.h) := by
  rw [op_cons rfl]
  congr 1
  unfold opV
  simp only [pureV, makeV, effV]
  show (match appendV Γ (base + i) t t2 (s.ev x) (s.ev y) s.h with | some r => some r | none => none) = _
  cases appendV Γ (base + i) t t2 (s.ev x) (s.ev y) s.h <;> rfl
def isStr (Γ : TypeId → Option TI) (t : TypeId) : Option Bool := match Γ t with
  | some ⟨.str, _, _, _⟩ => some true
  | some ⟨.slice _, _, _, _⟩ => some false
  | _ => none
def lenO : Option Bool → Value → Option Value
  | some true, .string s => some (.int .i64 s.size)
  | some false, .slice _ n _ => some (.int .i64 n)
  | _, _ => none
theorem lenO_slice {a : Option Addr} {n c : Nat} : lenO (some false) (.slice a n c) = some (.int .i64 (n : Int)) := nr rfl
theorem lenO_str {s : ByteArray} : lenO (some true) (.string s) = some (.int .i64 (s.size : Int)) := nr rfl
theorem opn_pure {op : Op} {v : Option Value} (h : calleeV s op = none) (hp : opV Γ E (base + i) s.ev op s.h = v.map fun v => (v, s.h)) : OpG Γ E C D Q base i (⟨d, none, op⟩ :: l) k s = OpV Γ E C D Q base (i + 1) l k s d v := by
  rw [op_cons h, hp, opn_map]
theorem op_len {t : TypeId} {x : Operand} : OpG Γ E C D Q base i (⟨d, none, .call { callee := .builtin .len, args := #[x], argTypes := #[t] }⟩ :: l) k s = OpV Γ E C D Q base (i + 1) l k s d (lenO (isStr Γ t) (s.ev x)) := by
  refine opn_pure rfl ?_
  unfold opV
  have : pureV Γ E s.ev (.call { callee := .builtin .len, args := #[x], argTypes := #[t] }) = lenO (isStr Γ t) (s.ev x) := by
    show (match Γ t, s.ev x with
      | some ⟨.str, _, _, _⟩, .string s => some (Value.int .i64 s.size)
      | some ⟨.slice _, _, _, _⟩, .slice _ n _ => some (Value.int .i64 n)
      | _, _ => none) = _
    unfold isStr
    cases Γ t with
    | none => rfl
    | some i =>
      obtain ⟨sh, _, _, _⟩ := i
      cases sh <;> (try rfl) <;> (simp only; cases s.ev x <;> rfl)
  rw [this]
  cases lenO (isStr Γ t) (s.ev x) <;> rfl

/- Integers. -/
section
variable {t : TypeId} {kk : IntKind} {a b : Int}
theorem bin_add : binV Γ E .add t (.int kk a) (.int kk b) = some (.int kk (kk.wrap (a + b))) := by simp [binV, binI]
theorem bin_sub : binV Γ E .sub t (.int kk a) (.int kk b) = some (.int kk (kk.wrap (a - b))) := by simp [binV, binI]
theorem bin_mul : binV Γ E .mul t (.int kk a) (.int kk b) = some (.int kk (kk.wrap (a * b))) := by simp [binV, binI]
theorem bin_quo (h : b ≠ 0) : binV Γ E .quo t (.int kk a) (.int kk b) = some (.int kk (kk.wrap (a.tdiv b))) := by simp [binV, binI, h]
theorem bin_rem (h : b ≠ 0) : binV Γ E .rem t (.int kk a) (.int kk b) = some (.int kk (a.tmod b)) := by simp [binV, binI, h]
theorem bin_and : binV Γ E .and t (.int kk a) (.int kk b) = some (.int kk (bits .and kk a b)) := by simp [binV, binI]
theorem bin_or : binV Γ E .or t (.int kk a) (.int kk b) = some (.int kk (bits .or kk a b)) := by simp [binV, binI]
theorem bin_xor : binV Γ E .xor t (.int kk a) (.int kk b) = some (.int kk (bits .xor kk a b)) := by simp [binV, binI]
theorem bin_eql : binV Γ E .eql t (.int kk a) (.int kk b) = some (.bool (a == b)) := by simp [binV, binI]
theorem bin_neq : binV Γ E .neq t (.int kk a) (.int kk b) = some (.bool (a != b)) := by simp [binV, binI]
theorem bin_lss : binV Γ E .lss t (.int kk a) (.int kk b) = some (.bool (decide (a < b))) := by simp [binV, binI]
theorem bin_leq : binV Γ E .leq t (.int kk a) (.int kk b) = some (.bool (decide (a ≤ b))) := by simp [binV, binI]
theorem bin_gtr : binV Γ E .gtr t (.int kk a) (.int kk b) = some (.bool (decide (a > b))) := by simp [binV, binI]
theorem bin_geq : binV Γ E .geq t (.int kk a) (.int kk b) = some (.bool (decide (a ≥ b))) := by simp [binV, binI]
theorem un_not {b : Bool} : unV .not (.bool b) = some (.bool (!b)) := nr rfl
theorem un_neg : unV .neg (.int kk a) = some (.int kk (kk.wrap (0 - a))) := nr rfl
end

/- Reading states. -/
theorem ev_tmp {j : Nat} : s.ev (.tmp j) = s.t j := nr rfl
theorem ev_const {v : Value} : s.ev (.const v) = v := nr rfl
theorem ev_func {f : FuncId} : s.ev (.func f) = .func (.func f) #[] #[] := nr rfl
theorem put_t {j : Nat} {v : Value} {m : Nat} : (s.put (some j) v).t m = if m = j then v else s.t m := nr rfl
theorem put_h {d : Option Nat} {v : Value} : (s.put d v).h = s.h := by cases d <;> rfl
theorem put_none {v : Value} : s.put none v = s := nr rfl
theorem hp_t {h : Hp} {m : Nat} : (s.hp h).t m = s.t m := nr rfl
theorem hp_h {h : Hp} : (s.hp h).h = h := nr rfl
theorem init_t {args : List Value} {h : Hp} {m : Nat} : (initS args h).t m = args.getD m undef := nr rfl
theorem init_h {args : List Value} {h : Hp} : (initS args h).h = h := nr rfl
theorem hput_next {h : Hp} {n : Nat} {b : Option Blk} : (h.put n b).next = h.next := nr rfl
theorem hto_next {h : Hp} {n : Nat} : (h.to n).next = n := nr rfl
theorem hto_blk {h : Hp} {n m : Nat} : (h.to n).blk m = h.blk m := nr rfl
theorem hto_cell {h : Hp} {n m o : Nat} : (h.to n).cell m o = h.cell m o := nr rfl
theorem hto_cells {h : Hp} {n m o z : Nat} : (h.to n).cells m o z = h.cells m o z := nr rfl
theorem hput_blk_eq {h : Hp} {n : Nat} {b : Option Blk} : (h.put n b).blk n = b := by simp [Hp.put]
theorem hput_blk_ne {h : Hp} {n m : Nat} {b : Option Blk} (hne : m ≠ n) : (h.put n b).blk m = h.blk m := by simp [Hp.put, hne]
theorem hput_cell_eq {h : Hp} {n o : Nat} {b : Blk} : (h.put n (some b)).cell n o = b.cells[o]? := by simp [Hp.put, Hp.cell]
theorem hput_cell_ne {h : Hp} {n m o : Nat} {b : Option Blk} (hne : m ≠ n) : (h.put n b).cell m o = h.cell m o := by simp [Hp.put, Hp.cell, hne]
theorem hput_cells_eq {h : Hp} {n o z : Nat} {b : Blk} : (h.put n (some b)).cells n o z = if o + z ≤ b.cells.length then some ((b.cells.drop o).take z) else none := by simp [Hp.put, Hp.cells]
theorem hput_cells_ne {h : Hp} {n m o z : Nat} {b : Option Blk} (hne : m ≠ n) : (h.put n b).cells m o z = h.cells m o z := by simp [Hp.put, Hp.cells, hne]

def stB (n o z : Nat) (x : Value) (h : Hp) : Option Blk → Option Hp
  | some b => if b.rw && isVar x && x.cells.size == z && decide (o + z ≤ b.cells.length) then some (h.put n (some { b with cells := splice b.cells o x.cells.toList })) else none
  | none => none
def stC (n o z : Nat) (x : Value) (h : Hp) : Option Hp := (h.blk n).bind fun b => if b.rw && isVar x && x.cells.size == z && decide (o + z ≤ b.cells.length) then some (h.put n (some { b with cells := splice b.cells o x.cells.toList })) else none
theorem stC_eq {n o z : Nat} {x : Value} {h : Hp} : stC n o z x h = stB n o z x h (h.blk n) := by unfold stC; cases h.blk n <;> rfl
/-- A value of one cell is written. -/
theorem splice_one {cs : List Value} {o : Nat} {v : Value} (h : o < cs.length) : splice cs o [v] = cs.set o v := by
  unfold splice
  rw [List.set_eq_take_append_cons_drop, if_pos h]; simp
theorem stB_int {n o : Nat} {kk : IntKind} {z : Int} {h : Hp} {cs : List Value} (hl : o < cs.length) : stB n o 1 (.int kk z) h (some ⟨cs, true⟩) = some (h.put n (some ⟨cs.set o (.int kk z), true⟩)) := by
  simp only [stB]
  rw [if_pos (by simp [isVar, Value.cells]; omega)]
  simp only [Value.cells]
  rw [splice_one hl]
theorem stB_bool {n o : Nat} {z : Bool} {h : Hp} {cs : List Value} (hl : o < cs.length) : stB n o 1 (.bool z) h (some ⟨cs, true⟩) = some (h.put n (some ⟨cs.set o (.bool z), true⟩)) := by
  simp only [stB]
  rw [if_pos (by simp [isVar, Value.cells]; omega)]
  simp only [Value.cells]
  rw [splice_one hl]
theorem stB_slice {n o : Nat} {a : Option Addr} {m c : Nat} {h : Hp} {cs : List Value} (hl : o < cs.length) : stB n o 1 (.slice a m c) h (some ⟨cs, true⟩) = some (h.put n (some ⟨cs.set o (.slice a m c), true⟩)) := by
  simp only [stB]
  rw [if_pos (by simp [isVar, Value.cells]; omega)]
  simp only [Value.cells]
  rw [splice_one hl]
theorem stB_agg {n o z : Nat} {xs : Array Value} {h : Hp} {cs : List Value} (hz : xs.size = z) (hl : o + z ≤ cs.length) : stB n o z (.agg xs) h (some ⟨cs, true⟩) = some (h.put n (some ⟨splice cs o xs.toList, true⟩)) := by
  simp only [stB]
  rw [if_pos (by simp [isVar, Value.cells]; omega)]
  simp only [Value.cells]
theorem hput_put {h : Hp} {n : Nat} {a b : Option Blk} : (h.put n a).put n b = h.put n b := by
  refine hp_ext rfl fun m => ?_
  simp only [Hp.put]
  split <;> rfl
theorem hto_put {h : Hp} {n m : Nat} {b : Option Blk} : (h.put n b).to m = (h.to m).put n b := nr rfl
theorem hto_to {h : Hp} {n m : Nat} : (h.to n).to m = h.to m := nr rfl
theorem shp_put {h : Hp} {j : Option Nat} {v : Value} : (s.put j v).hp h = (s.hp h).put j v := by cases j <;> rfl
theorem shp_hp {h h' : Hp} : (s.hp h).hp h' = s.hp h' := nr rfl

theorem op_guard_t {j : Nat} {want : Bool} {op : Op} (h : s.t j = .bool want) : OpG Γ E C D Q base i (⟨d, some (j, want), op⟩ :: l) k s = OpG Γ E C D Q base i (⟨d, none, op⟩ :: l) k s := by
  unfold OpG
  rw [OpsP, OpsP]
  have hg : gdV s (some (j, want)) = some true := by simp only [gdV, h]; cases want <;> rfl
  simp only [hg]
  rfl
theorem op_guard_f {j : Nat} {want : Bool} {op : Op} (h : s.t j = .bool (!want)) : OpG Γ E C D Q base i (⟨d, some (j, want), op⟩ :: l) k s = OpG Γ E C D Q base (i + 1) l k (s.put d undef) := by
  unfold OpG
  rw [OpsP]
  have hg : gdV s (some (j, want)) = some false := by simp only [gdV, h]; cases want <;> rfl
  simp only [hg]
theorem go_cond_t {c : Operand} {a b : PC} (h : s.ev c = .bool true) : Go Γ E C D Q (.cond c a b) k s = Go Γ E C D Q a k s := by
  unfold Go; rw [show RunP Γ E C D (.cond c a b) s (Done Γ E C D Q k) = (match s.ev c with | .bool true => RunP Γ E C D a s (Done Γ E C D Q k) | .bool false => RunP Γ E C D b s (Done Γ E C D Q k) | _ => False) from rfl, h]
theorem go_cond_f {c : Operand} {a b : PC} (h : s.ev c = .bool false) : Go Γ E C D Q (.cond c a b) k s = Go Γ E C D Q b k s := by
  unfold Go; rw [show RunP Γ E C D (.cond c a b) s (Done Γ E C D Q k) = (match s.ev c with | .bool true => RunP Γ E C D a s (Done Γ E C D Q k) | .bool false => RunP Γ E C D b s (Done Γ E C D Q k) | _ => False) from rfl, h]
/-- What was there, and one block more. -/
def Hp.plus (h : Hp) (m nm : Nat) (b : Blk) : Hp := { next := m, blk := fun x => if x = nm then some b else if x < h.next then h.blk x else none }
theorem tidy_plus {h h0 : Hp} {v : Value} {m nm : Nat} {b : Blk} (hm : h0.next ≤ m) (hb : h0.blk nm = some b) (hk : ∀ n b, n < h.next → h.blk n = some b → h0.blk n = some b) : Tidy h v h0 (h.plus m nm b) := by
  refine .inl ⟨hm, fun x bx hx => ?_⟩
  simp only [Hp.plus] at hx
  split at hx
  · rename_i he; subst he; injection hx with hx; subst hx; exact hb
  · split at hx
    · rename_i hlt; exact hk x bx hlt hx
    · cases hx
theorem plus_next {h : Hp} {m nm : Nat} {b : Blk} : (h.plus m nm b).next = m := nr rfl
theorem plus_blk_eq {h : Hp} {m nm : Nat} {b : Blk} : (h.plus m nm b).blk nm = some b := by simp [Hp.plus]
theorem plus_blk_ne {h : Hp} {m nm x : Nat} {b : Blk} (h1 : x < h.next) (h2 : x ≠ nm) : (h.plus m nm b).blk x = h.blk x := by simp [Hp.plus, h1, h2]
theorem plus_cell_eq {h : Hp} {m nm o : Nat} {b : Blk} : (h.plus m nm b).cell nm o = b.cells[o]? := by simp [Hp.plus, Hp.cell]
theorem plus_cell_ne {h : Hp} {m nm x o : Nat} {b : Blk} (h1 : x < h.next) (h2 : x ≠ nm) : (h.plus m nm b).cell x o = h.cell x o := by simp [Hp.plus, Hp.cell, h1, h2]
theorem plus_cells_eq {h : Hp} {m nm o z : Nat} {b : Blk} : (h.plus m nm b).cells nm o z = if o + z ≤ b.cells.length then some ((b.cells.drop o).take z) else none := by simp [Hp.plus, Hp.cells]
theorem plus_cells_ne {h : Hp} {m nm x o z : Nat} {b : Blk} (h1 : x < h.next) (h2 : x ≠ nm) : (h.plus m nm b).cells x o z = h.cells x o z := by simp [Hp.plus, Hp.cells, h1, h2]

theorem op_callF {g : FuncId} {as : Array Operand} {ts : Array TypeId} {args : List Value} {h0 : Hp} {v : Value} {h' : Hp} (ha : as.toList.map s.ev = args) (hh : s.h = h0) (hc : C g args h0 v h') (hn : OpG Γ E C D Q base (i + 1) l k ((s.hp h').put d v)) :
    OpG Γ E C D Q base i (⟨d, none, .call { callee := .value (.func g), args := as, argTypes := ts }⟩ :: l) k s := by
  refine op_call (a := #[]) (b := #[]) rfl ?_ hn
  subst ha; subst hh
  simpa using hc
theorem end_of1 {Γ : TypeId → Option TI} {t : Tmp} {h : Hp} {v : Value} {h' : Hp} {s : S} {x : Ex} (hx : x = .norm ∨ x = .ret) (hr : isRes v = true) (ht : Tidy h v s.h h') (hv : s.t t = v) : endQ Γ [.tmp t] h v h' x s := end_tmp1 hx hv hr ht

theorem op_guardT {j : Nat} {op : Op} {t : Bool} (h : s.t j = .bool t) (h1 : t = true → OpG Γ E C D Q base i (⟨d, none, op⟩ :: l) k s) (h2 : t = false → OpG Γ E C D Q base (i + 1) l k (s.put d undef)) :
    OpG Γ E C D Q base i (⟨d, some (j, true), op⟩ :: l) k s := op_guard h h1 h2
theorem op_guardF {j : Nat} {op : Op} {t : Bool} (h : s.t j = .bool t) (h1 : t = false → OpG Γ E C D Q base i (⟨d, none, op⟩ :: l) k s) (h2 : t = true → OpG Γ E C D Q base (i + 1) l k (s.put d undef)) :
    OpG Γ E C D Q base i (⟨d, some (j, false), op⟩ :: l) k s := op_guard h h1 h2

theorem op_guard_u {j : Nat} {want : Bool} {op : Op} (h : s.t j = undef) : OpG Γ E C D Q base i (⟨d, some (j, want), op⟩ :: l) k s = OpG Γ E C D Q base (i + 1) l k (s.put d undef) := by
  unfold OpG
  rw [OpsP]
  have hg : gdV s (some (j, want)) = some false := by simp only [gdV, h]; rfl
  simp only [hg]

theorem end_gen {Γ : TypeId → Option TI} {rs : List ResultVar} {h : Hp} {v : Value} {h' : Hp} {s : S} {x : Ex} (hx : x = .norm ∨ x = .ret) (ht : Tidy h v s.h h') (hv : (resL Γ s rs).map tupV = some v) : endQ Γ rs h v h' x s := by
  obtain ⟨vs, h1, h2⟩ := Option.map_eq_some_iff.1 hv
  exact ⟨hx, vs, h1, h2.symm, ht⟩
def resC : Value → Option (List Value) → Option (List Value)
  | v, o => if isRes v then o.map fun l => v :: l else none
def resD : Option Value → Option (List Value) → Option (List Value)
  | some v, o => o.map fun l => v :: l
  | none, _ => none
theorem resL_nil {Γ : TypeId → Option TI} : resL Γ s [] = some [] := nr rfl
theorem resL_tmp {Γ : TypeId → Option TI} {t : Tmp} {r : List ResultVar} : resL Γ s (.tmp t :: r) = resC (s.t t) (resL Γ s r) := nr rfl
theorem resL_cell {Γ : TypeId → Option TI} {a : Tmp} {t : TypeId} {r : List ResultVar} : resL Γ s (.cell a t :: r) = resD (ldv Γ t (s.t a) s.h) (resL Γ s r) := by
  conv => lhs; unfold resL
  cases ldv Γ t (s.t a) s.h <;> rfl
theorem resC_int {kk : IntKind} {n : Int} {l : List Value} : resC (.int kk n) (some l) = some (.int kk n :: l) := nr rfl
theorem resC_bool {b : Bool} {l : List Value} : resC (.bool b) (some l) = some (.bool b :: l) := nr rfl
theorem resC_str {b : ByteArray} {l : List Value} : resC (.string b) (some l) = some (.string b :: l) := nr rfl
theorem resC_slice {a : Option Addr} {n c : Nat} {l : List Value} : resC (.slice a n c) (some l) = some (.slice a n c :: l) := nr rfl
theorem resC_agg {cs : Array Value} {l : List Value} : resC (.agg cs) (some l) = some (.agg cs :: l) := nr rfl
theorem resC_ptr {a : Option Addr} {l : List Value} : resC (.pointer a) (some l) = some (.pointer a :: l) := nr rfl
theorem resC_func {f : Fn} {a b : Array Value} {l : List Value} : resC (.func f a b) (some l) = some (.func f a b :: l) := nr rfl
theorem resD_some {v : Value} {l : List Value} : resD (some v) (some l) = some (v :: l) := nr rfl
theorem tupV_one {v : Value} : tupV [v] = v := nr rfl
theorem tupV_nil : tupV [] = .tuple #[] := nr rfl
theorem tupV_two {v w : Value} {l : List Value} : tupV (v :: w :: l) = .tuple (v :: w :: l).toArray := nr rfl

end
end Go.Proofs.YtbgaljpilmmefaaM
