import Derived.Test.YtbgaljpilmmefaaV1MiT
import Derived.Attr
/- The rules by which code is walked, in one set. -/
namespace Go.Proofs.YtbgaljpilmmefaaM
open Go
set_option linter.unusedVariables false
set_option linter.unusedSimpArgs false

section
variable {Γ : TypeId → Option TI} {E : TypeId → Nat} {C : Rel} {D : DrawR} {Q : Ex → S → Prop} {k : List Fr} {s : S} {base i : Nat} {l : List POp} {d : Option Nat}

/- Tests on whole numbers, told so that no name is turned into another. -/
theorem beqT {a b : Int} : ((a == b) = true) = (a ≤ b ∧ b ≤ a) := by simp only [beq_iff_eq, eq_iff_iff]; omega
theorem beqF {a b : Int} : ((a == b) = false) = (a < b ∨ b < a) := by simp only [beq_eq_false_iff_ne, eq_iff_iff]; omega
theorem bneT {a b : Int} : ((a != b) = true) = (a < b ∨ b < a) := by simp only [bne_iff_ne, eq_iff_iff]; omega
theorem bneF {a b : Int} : ((a != b) = false) = (a ≤ b ∧ b ≤ a) := by simp only [bne_eq_false_iff_eq, eq_iff_iff]; omega

/- A function's regions. -/
def opsOf : PC → List (List POp)
  | .ops _ l => [l]
  | .seq a b => opsOf a ++ opsOf b
  | .cond _ a b => opsOf a ++ opsOf b
  | .block _ b => opsOf b
  | .loop b => opsOf b
  | _ => []
def drawsOf : PC → List (Array Oper)
  | .draw o => [o]
  | .seq a b => drawsOf a ++ drawsOf b
  | .cond _ a b => drawsOf a ++ drawsOf b
  | .block _ b => drawsOf b
  | .loop b => drawsOf b
  | _ => []
def codeOf (f : Func) : PC := (prep (f.body.getD .skip)).getD .skip
def regAt (f : Func) (i : Nat) : List POp := (opsOf (codeOf f)).getD i []
def drawAt (f : Func) (i : Nat) : Array Oper := (drawsOf (codeOf f)).getD i #[]

/-- What a guarded operation makes: nothing where it is not wanted. -/
def gv (b w : Bool) (v : Value) : Value := if b = w then v else undef
theorem gv_tt {v : Value} : gv true true v = v := nr rfl
theorem gv_ff {v : Value} : gv false false v = v := nr rfl
theorem gv_tf {v : Value} : gv true false v = undef := nr rfl
theorem gv_ft {v : Value} : gv false true v = undef := nr rfl
theorem pick_and {b c : Bool} : pickO (.bool b) (gv b true (.bool c)) (.bool false) = some (.bool (b && c)) := by cases b <;> rfl
theorem pick_or {b c : Bool} : pickO (.bool b) (.bool true) (gv b false (.bool c)) = some (.bool (b || c)) := by cases b <;> rfl
def isPut (s : S) (d : Option Nat) (v : Value) : Ex → S → Prop := fun x s' => x = .norm ∧ s' = s.put d v
theorem isPut_ok {s : S} {d : Option Nat} {v : Value} : isPut s d v .norm (s.put d v) := ⟨rfl, rfl⟩
/-- A guarded operation that leaves the blocks as they are: both ways at once. -/
theorem op_gv {j : Nat} {w b : Bool} {op : Op} {v : Value} (h : s.t j = .bool b) (h1 : b = w → OpG Γ E C D (isPut s d v) base i [⟨d, none, op⟩] [] s) (hn : OpG Γ E C D Q base (i + 1) l k (s.put d (gv b w v))) :
    OpG Γ E C D Q base i (⟨d, some (j, w), op⟩ :: l) k s := by
  by_cases hb : b = w
  · have h2 := h1 hb
    subst hb
    rw [op_guard_t h]
    have hv : gv b b v = v := by simp [gv]
    rw [hv] at hn
    unfold OpG OpsP at h2 ⊢
    simp only [gdV] at h2 ⊢
    split at h2
    · rename_i g args hc
      obtain ⟨v', h', h3, h4⟩ := h2
      have h5 : (s.hp h').put d v' = s.put d v := by
        unfold OpsP at h4; rw [done_nil] at h4; exact h4.2
      exact ⟨v', h', h3, by rw [h5]; exact hn⟩
    · split at h2
      · rename_i v' h' _
        have h5 : (s.hp h').put d v' = s.put d v := by
          unfold OpsP at h2; rw [done_nil] at h2; exact h2.2
        rw [h5]; exact hn
      · exact h2.elim
  · have hv : gv b w v = undef := by simp [gv, hb]
    rw [hv] at hn
    have hb' : b = !w := by cases b <;> cases w <;> simp_all
    subst hb'
    rw [op_guard_f h]
    exact hn
theorem splice_s {a : Value} {l xs : List Value} {o : Nat} : splice (a :: l) (o + 1) xs = a :: splice l o xs := by
  unfold splice
  rw [Nat.add_right_comm]; rfl
theorem splice_z {a x : Value} {l xs : List Value} : splice (a :: l) 0 (x :: xs) = x :: splice l 0 xs := by
  unfold splice
  simp
theorem splice_e {l : List Value} : splice l 0 [] = l := by unfold splice; simp
theorem round_i {R : S → Prop} (h : R s) : Done Γ E C D Q (.round R :: k) .norm s := by rw [done_round]; exact h
theorem hp_self {s : S} : s.hp s.h = s := nr rfl

/-- A call, by what it is said to do. -/
theorem op_sp {g : FuncId} {as : Array Operand} {ts : Array TypeId} {args : List Value} {h0 : Hp} {P : Value → Hp → Prop} (hc : ∃ v h', C g args h0 v h' ∧ P v h') (ha : as.toList.map s.ev = args) (hh : s.h = h0)
    (hn : ∀ v h', P v h' → OpG Γ E C D Q base (i + 1) l k ((s.hp h').put d v)) : OpG Γ E C D Q base i (⟨d, none, .call { callee := .value (.func g), args := as, argTypes := ts }⟩ :: l) k s := by
  obtain ⟨v, h', h1, h2⟩ := hc
  exact op_callF ha hh h1 (hn v h' h2)
/-- A call of a function value. -/
theorem op_spV {f : Operand} {as : Array Operand} {ts : Array TypeId} {g : FuncId} {a b : Array Value} {args : List Value} {h0 : Hp} {P : Value → Hp → Prop} (hf : s.ev f = .func (.func g) a b) (hc : ∃ v h', C g args h0 v h' ∧ P v h')
    (ha : a.toList ++ as.toList.map s.ev ++ b.toList = args) (hh : s.h = h0) (hn : ∀ v h', P v h' → OpG Γ E C D Q base (i + 1) l k ((s.hp h').put d v)) :
    OpG Γ E C D Q base i (⟨d, none, .call { callee := .value f, args := as, argTypes := ts }⟩ :: l) k s := by
  obtain ⟨v, h', h1, h2⟩ := hc
  refine op_call hf ?_ (hn v h' h2)
  rw [ha, hh]; exact h1
theorem op_callV {f : Operand} {as : Array Operand} {ts : Array TypeId} {g : FuncId} {a b : Array Value} {args : List Value} {h0 : Hp} {v : Value} {h' : Hp} (hf : s.ev f = .func (.func g) a b)
    (ha : a.toList ++ as.toList.map s.ev ++ b.toList = args) (hh : s.h = h0) (hc : C g args h0 v h') (hn : OpG Γ E C D Q base (i + 1) l k ((s.hp h').put d v)) :
    OpG Γ E C D Q base i (⟨d, none, .call { callee := .value f, args := as, argTypes := ts }⟩ :: l) k s := by
  refine op_call hf ?_ hn
  rw [ha, hh]; exact hc
/-- Calls in regions of open order. -/
theorem tc_ext {x : Bool} {bound : Nat} {g : FuncId} {args : List Value} {h h' : Hp} {v : Value} (hg : g ≠ PS) (hc : C g args h v h') (he : Ext h h') : TC Γ C x bound g args h v h' := .inr ⟨.inr hg, hc, nr_ext he, fun _ => he⟩
theorem tc_quiet {x : Bool} {bound : Nat} {g : FuncId} {args : List Value} {h : Hp} {v : Value} (hg : g ≠ PS) (hc : C g args h v h) : TC Γ C x bound g args h v h := tc_ext hg hc (ext_refl h)
theorem tc_nr {bound : Nat} {g : FuncId} {args : List Value} {h h' : Hp} {v : Value} (hc : C g args h v h') (he : Nr h h') : TC Γ C false bound g args h v h' := .inr ⟨.inl rfl, hc, he, fun h => by cases h⟩
theorem op_spT {x : Bool} {bound : Nat} {g : FuncId} {as : Array Operand} {ts : Array TypeId} {args : List Value} {h0 : Hp} {P : Value → Hp → Prop} (hc : ∃ v h', C g args h0 v h' ∧ P v h') (hp : ∀ v h', P v h' → Ext h0 h') (hg : g ≠ PS) (ha : as.toList.map s.ev = args) (hh : s.h = h0)
    (hn : ∀ v h', P v h' → OpG Γ E (TC Γ C x bound) D Q base (i + 1) l k ((s.hp h').put d v)) : OpG Γ E (TC Γ C x bound) D Q base i (⟨d, none, .call { callee := .value (.func g), args := as, argTypes := ts }⟩ :: l) k s := by
  obtain ⟨v, h', h1, h2⟩ := hc
  exact op_callF ha hh (tc_ext hg h1 (hp v h' h2)) (hn v h' h2)
theorem op_spN {bound : Nat} {g : FuncId} {as : Array Operand} {ts : Array TypeId} {args : List Value} {h0 : Hp} {P : Value → Hp → Prop} (hc : ∃ v h', C g args h0 v h' ∧ P v h') (hp : ∀ v h', P v h' → Nr h0 h') (ha : as.toList.map s.ev = args) (hh : s.h = h0)
    (hn : ∀ v h', P v h' → OpG Γ E (TC Γ C false bound) D Q base (i + 1) l k ((s.hp h').put d v)) : OpG Γ E (TC Γ C false bound) D Q base i (⟨d, none, .call { callee := .value (.func g), args := as, argTypes := ts }⟩ :: l) k s := by
  obtain ⟨v, h', h1, h2⟩ := hc
  exact op_callF ha hh (tc_nr h1 (hp v h' h2)) (hn v h' h2)
/-- Readings that calls may overtake. -/
def ltO (b : Nat) : Value → Bool
  | .pointer (some ⟨n, _, _⟩) => decide (n < b)
  | .slice (some ⟨n, _, _⟩) _ _ => decide (n < b)
  | _ => true
theorem ltO_ptr {b n o : Nat} {x : Option _} : ltO b (.pointer (some ⟨n, o, x⟩)) = decide (n < b) := nr rfl
theorem ltO_slice {b n o a c : Nat} {x : Option _} : ltO b (.slice (some ⟨n, o, x⟩) a c) = decide (n < b) := nr rfl
theorem ltO_nil {b a c : Nat} : ltO b (.slice none a c) = true := nr rfl
theorem ltO_ok {b : Nat} {v : Value} (h : ltO b v = true) : okAt b v := by
  unfold okAt
  split
  · simpa [ltO] using h
  · simpa [ltO] using h
  · trivial
def OpL (Γ : TypeId → Option TI) (E : TypeId → Nat) (C : Rel) (D : DrawR) (Q : Ex → S → Prop) (base i : Nat) (l : List POp) (k : List Fr) (s : S) (d : Option Nat) : Bool → Option Value → Prop
  | true, some v => OpG Γ E C D Q base i l k (s.put d v)
  | _, _ => False
theorem opl_ok {v : Value} : OpL Γ E C D Q base i l k s d true (some v) = OpG Γ E C D Q base i l k (s.put d v) := nr rfl
theorem op_ldQ {bound : Nat} {t : TypeId} {a : Operand} (h : OpL Γ E (TC Γ C true bound) D Q base (i + 1) l k s d (ltO bound (s.ev a)) (ldv Γ t (s.ev a) s.h)) : OpG Γ E (TC Γ C true bound) D Q base i (⟨d, none, ldQ t a⟩ :: l) k s := by
  unfold OpL at h
  split at h
  · rename_i v h1 h2
    refine op_callF (g := PS) (args := [s.ev a, .int .i64 (t : Int)]) rfl rfl (h' := s.h) (v := v) (.inl ⟨rfl, rfl, rfl, .inl ⟨_, t, rfl, ltO_ok h1, h2⟩⟩) h
  · exact h.elim
theorem op_cvQ {bound : Nat} {q t : TypeId} {a : Operand} (h : OpL Γ E (TC Γ C true bound) D Q base (i + 1) l k s d (ltO bound (s.ev a)) (textV Γ q t (s.ev a) s.h)) : OpG Γ E (TC Γ C true bound) D Q base i (⟨d, none, cvQ q t a⟩ :: l) k s := by
  unfold OpL at h
  split at h
  · rename_i v h1 h2
    refine op_callF (g := PS) (args := [s.ev a, .int .i64 (q : Int), .int .i64 (t : Int)]) rfl rfl (h' := s.h) (v := v) (.inl ⟨rfl, rfl, rfl, .inr ⟨_, q, t, rfl, ltO_ok h1, h2⟩⟩) h
  · exact h.elim
end

/-- What is known in the end, of the result and the blocks. -/
def exQ (Γ : TypeId → Option TI) (rs : List ResultVar) (P : Value → Hp → Prop) : Ex → S → Prop := fun x s => (x = .norm ∨ x = .ret) ∧ ∃ vs, resL Γ s rs = some vs ∧ P (tupV vs) s.h
theorem call_ex {Γ : TypeId → Option TI} {E : TypeId → Nat} {F : FuncId → Option Func} {X : Rel} {f : FuncId} {fn : Func} {c : Code} {p : PC} {args : List Value} {h : Hp} {P : Value → Hp → Prop} (hF : F f = some fn) (hb : fn.body = some c) (hp : prep c = some p) (hn : args.length ≤ fn.ntmps)
    (hg : Go Γ E (Call Γ E F X (Draw Γ E)) (Draw Γ E (Call Γ E F X (Draw Γ E)) 0) (exQ Γ fn.results.toList P) p [] (initS args h)) : ∃ v h', Call Γ E F X (Draw Γ E) f args h v h' ∧ P v h' := by
  obtain ⟨x, s, h1, h2⟩ := RunP.out (p := p) hg
  rw [done_nil] at h2
  obtain ⟨hx, vs, h3, h4⟩ := h2
  refine ⟨tupV vs, s.h, Call.closed draw_mono (.inr ⟨fn, c, hF, hb, hn, run_prep c p _ _ hp (RunP.mono (p := p) (fun y t ht => ?_) h1)⟩), h4⟩
  obtain ⟨rfl, rfl⟩ := ht
  exact ⟨hx, vs, h3, rfl, .inl ⟨Nat.le_refl _, fun _ _ hh => hh⟩⟩
theorem end_ex {Γ : TypeId → Option TI} {rs : List ResultVar} {P : Value → Hp → Prop} {s : S} {x : Ex} {v : Value} (hx : x = .norm ∨ x = .ret) (hv : (resL Γ s rs).map tupV = some v) (hP : P v s.h) : exQ Γ rs P x s := by
  obtain ⟨vs, h1, rfl⟩ := Option.map_eq_some_iff.1 hv
  exact ⟨hx, vs, h1, hP⟩

section
variable {Γ : TypeId → Option TI} {E : TypeId → Nat} {C : Rel} {D : DrawR} {Q : Ex → S → Prop} {k : List Fr} {s : S} {base i : Nat} {l : List POp} {d : Option Nat}
/- Rows that are laid with what they hold. -/
theorem isVar_int {kk : IntKind} {n : Int} : isVar (.int kk n) = true := nr rfl
theorem isVar_bool {b : Bool} : isVar (.bool b) = true := nr rfl
theorem isVar_str {b : ByteArray} : isVar (.string b) = true := nr rfl
theorem isVar_slice {a : Option Addr} {n c : Nat} : isVar (.slice a n c) = true := nr rfl
theorem isVar_agg {cs : Array Value} : isVar (.agg cs) = true := nr rfl
theorem isVar_ptr {a : Option Addr} : isVar (.pointer a) = true := nr rfl
theorem cells_int {kk : IntKind} {n : Int} : (Value.int kk n).cells = #[.int kk n] := nr rfl
theorem cells_bool {b : Bool} : (Value.bool b).cells = #[.bool b] := nr rfl
theorem cells_str {b : ByteArray} : (Value.string b).cells = #[.string b] := nr rfl
theorem cells_slice {a : Option Addr} {n c : Nat} : (Value.slice a n c).cells = #[.slice a n c] := nr rfl
theorem cells_ptr {a : Option Addr} : (Value.pointer a).cells = #[.pointer a] := nr rfl
theorem cells_agg {cs : Array Value} : (Value.agg cs).cells = cs := nr rfl
def fillJ (z : Nat) (cells : List Value) : List (Nat × Value) → Option (List Value)
  | [] => some cells
  | (j, v) :: r => if isVar v = true ∧ v.cells.size = z ∧ j * z + v.cells.size ≤ cells.length then fillJ z (splice cells (j * z) v.cells.toList) r else none
theorem fillJ_eq (z : Nat) : ∀ (ps : List (Nat × Value)) (cells : List Value), fillL (fun j => some (j * z, z)) cells ps = fillJ z cells ps
  | [], _ => rfl
  | (j, v) :: r, cells => by
    unfold fillL fillJ
    simp only
    split
    · exact fillJ_eq z r _
    · rfl
def bsO (nm z : Nat) (zero : List Value) (len : Nat) (ps : List (Nat × Value)) : Option (Value × Blk) :=
  if len * z > 16777216 then none else (fillJ z (repZ zero len) ps).map fun cs => (.slice (some ⟨nm, 0, none⟩) len (U z), { cells := cs, rw := true })
theorem op_bs {t e : TypeId} {len b1 b2 sz : Nat} {z1 : List Value} {i1 : TI} {parts : Array (Nat × Operand)} (h1 : Γ t = some ⟨.slice e, b1, b2, z1⟩) (h2 : Γ e = some i1) (h3 : i1.size = sz) (h4 : sz ≠ 0) (h5 : i1.zero.length = sz) :
    OpG Γ E C D Q base i (⟨d, none, .buildSlice t len parts⟩ :: l) k s = OpK Γ E C D Q base (i + 1) l k s d (base + i) (bsO (base + i) sz i1.zero len (parts.toList.map fun p => (p.1, s.ev p.2))) := by
  rw [op_buildSlice]
  congr 1
  subst h3
  simp only [makeV, h1, h2, bsO]
  by_cases hb : len * i1.size > 16777216
  · rw [if_pos (.inr (.inr hb)), if_pos hb]
  · rw [if_neg (by rintro (q | q | q); exact h4 q; exact q h5; exact hb q), if_neg hb, fillJ_eq]
theorem mkO_ok {t e : TypeId} {nm n b1 b2 : Nat} {z1 : List Value} {i1 : TI} {kk k' : IntKind} (h1 : Γ t = some ⟨.slice e, b1, b2, z1⟩) (h2 : Γ e = some i1) (h3 : i1.size ≠ 0) (h4 : i1.zero.length = i1.size) (h5 : i1.bytes ≤ 65536) (hn : n < 4294967296) :
    mkO Γ nm t (.int kk (n : Int)) (.int k' (n : Int)) = some (.slice (some ⟨nm, 0, none⟩) n (U i1.size), { cells := repZ i1.zero n, rw := true }) := by
  simp only [mkO, h1, h2]
  have q1 : i1.bytes * n ≤ 65536 * n := Nat.mul_le_mul_right n h5
  have q2 : (i1.bytes : Int) * (n : Int) ≤ 281474976710656 := by
    rw [show (i1.bytes : Int) * (n : Int) = ((i1.bytes * n : Nat) : Int) from (Int.natCast_mul _ _).symm]
    omega
  rw [if_pos ⟨trivial, by omega, by omega, q2, h3, h4⟩]
  rfl
def mfO (f : FuncId) (fs cs : List Value) : Option Value := if (fs.all isVar && cs.all isVar) = true then some (.func (.func f) fs.toArray cs.toArray) else none
theorem op_mf {f : FuncId} {fs cs : Array Operand} : OpG Γ E C D Q base i (⟨d, none, .makeFunc (.func f) fs cs⟩ :: l) k s = OpV Γ E C D Q base (i + 1) l k s d (mfO f (fs.toList.map s.ev) (cs.toList.map s.ev)) := by
  rw [op_pure rfl]
  congr 1
  have e1 : ∀ as : Array Operand, as.map s.ev = (as.toList.map s.ev).toArray := fun as => by rw [← Array.toList_map]
  have e2 : ∀ as : Array Operand, (as.toList.map s.ev).all isVar = as.toList.all fun x => isVar (s.ev x) := fun as => by rw [List.all_map]; rfl
  simp only [pureV, mfO, e1, e2]
theorem mfO_eq {f : FuncId} {fs cs : List Value} : mfO f fs cs = if (fs.all isVar && cs.all isVar) = true then some (.func (.func f) fs.toArray cs.toArray) else none := nr rfl
/- append -/
def apT (z : Nat) (x : Value) (h : Hp) : Option (List Value × Nat) :=
  match x with
  | .slice none 0 0 => some ([], 0)
  | .slice (some ⟨n, o, none⟩) k _ => if k = 0 then some ([], 0) else (h.cells n o (k * z)).map fun cs => (cs, k)
  | _ => none
theorem apT_nil {z : Nat} {h : Hp} : apT z (.slice none 0 0) h = some ([], 0) := nr rfl
theorem apT_some {z n o k' c : Nat} {h : Hp} : apT z (.slice (some ⟨n, o, none⟩) k' c) h = if k' = 0 then some ([], 0) else (h.cells n o (k' * z)).map fun cs => (cs, k') := nr rfl
def apB (z nm n o len c : Nat) (h : Hp) (cs : List Value) (k : Nat) : Option Blk → Option (Value × Hp)
  | some b =>
    if len + k > 1073741824 ∨ o + len * z > b.cells.length then none else
    if c = U z then
      if !b.rw then none else
      if o + (len + k) * z ≤ b.cells.length then some (.slice (some ⟨n, o, none⟩) (len + k) (U z), h.put n (some { b with cells := splice b.cells (o + len * z) cs }))
      else if o + len * z = b.cells.length then some (.slice (some ⟨nm, 0, none⟩) (len + k) (U z), (h.put n none).put nm (some { cells := b.cells.drop o ++ cs, rw := true }))
      else none
    else if len + k ≤ c ∨ c ≥ 18446744073709551616 then none
    else some (.slice (some ⟨nm, 0, none⟩) (len + k) (U z), h.put nm (some { cells := (b.cells.drop o).take (len * z) ++ cs, rw := true }))
  | none => none
def apO (z nm : Nat) (s : Value) (h : Hp) : Option (List Value × Nat) → Option (Value × Hp)
  | some (cs, k) => match s with
    | .slice none 0 0 => if k = 0 then some (.slice none 0 0, h) else if k > 1073741824 then none else some (.slice (some ⟨nm, 0, none⟩) k (U z), h.put nm (some { cells := cs, rw := true }))
    | .slice (some ⟨n, o, none⟩) len c => if k = 0 then some (.slice (some ⟨n, o, none⟩) len c, h) else apB z nm n o len c h cs k (h.blk n)
    | _ => none
  | none => none
theorem append_eq {t t2 e e2 : TypeId} {nm b1 b2 b3 b4 : Nat} {z1 z2 : List Value} {i1 : TI} {s x : Value} {h : Hp} (h1 : Γ t = some ⟨.slice e, b1, b2, z1⟩) (h2 : Γ e = some i1) (h3 : i1.size ≠ 0) (h4 : i1.zero.length = i1.size) (h5 : i1.bytes ≤ 65536) (h6 : i1.bytes ≠ 0)
    (h7 : Γ t2 = some ⟨.slice e2, b3, b4, z2⟩) : appendV Γ nm t t2 s x h = apO i1.size nm s h (apT i1.size x h) := by
  have ht : tailV i1 (Γ t2) x h = apT i1.size x h := by
    rw [h7]
    cases x with
    | slice a k c =>
      cases a with
      | none => cases k <;> cases c <;> rfl
      | some a => obtain ⟨n, o, sp⟩ := a; cases sp <;> rfl
    | _ => rfl
  unfold appendV
  simp only [h1, h2, ht]
  cases hx : apT i1.size x h with
  | none => rfl
  | some r =>
    obtain ⟨cs, kk⟩ := r
    simp only [apO]
    rw [if_neg (by rintro (q | q | q | q); exact h3 q; exact h6 q; omega; exact q h4)]
    cases s with
    | slice a len c =>
      cases a with
      | none => cases len <;> cases c <;> rfl
      | some a =>
        obtain ⟨n, o, sp⟩ := a
        cases sp with
        | none =>
          simp only
          split
          · rfl
          · cases h.blk n <;> rfl
        | some _ => rfl
    | _ => rfl
theorem apO_nil {z nm k' : Nat} {h : Hp} {cs : List Value} (h1 : k' ≠ 0) (h2 : k' ≤ 1073741824) : apO z nm (.slice none 0 0) h (some (cs, k')) = some (.slice (some ⟨nm, 0, none⟩) k' (U z), h.put nm (some { cells := cs, rw := true })) := by
  simp only [apO]; rw [if_neg h1, if_neg (by omega)]
theorem apO_zero {z nm : Nat} {s : Value} {h : Hp} {cs : List Value} {n o len c : Nat} : apO z nm (.slice (some ⟨n, o, none⟩) len c) h (some (cs, 0)) = some (.slice (some ⟨n, o, none⟩) len c, h) := nr rfl
theorem apO_zero_nil {z nm : Nat} {s : Value} {h : Hp} {cs : List Value} : apO z nm (.slice none 0 0) h (some (cs, 0)) = some (.slice none 0 0, h) := nr rfl
theorem apO_some {z nm n o len c k' : Nat} {h : Hp} {cs : List Value} (h1 : k' ≠ 0) : apO z nm (.slice (some ⟨n, o, none⟩) len c) h (some (cs, k')) = apB z nm n o len c h cs k' (h.blk n) := by
  simp only [apO]; rw [if_neg h1]
/-- What was there goes on in a new block. -/
theorem apB_own {z nm n len k' : Nat} {h : Hp} {cs cells : List Value} (hl : cells.length = len * z) (hk : len + k' ≤ 1073741824) (h0 : k' ≠ 0) (hz : z ≠ 0) :
    apB z nm n 0 len (U z) h cs k' (some ⟨cells, true⟩) = some (.slice (some ⟨nm, 0, none⟩) (len + k') (U z), (h.put n none).put nm (some { cells := cells ++ cs, rw := true })) := by
  simp only [apB]
  rw [if_neg (by omega), if_pos trivial]
  have h2 : 0 < k' * z := Nat.mul_pos (by omega) (by omega)
  have : ¬ (0 + (len + k') * z ≤ cells.length) := by rw [Nat.add_mul]; omega
  rw [if_neg (by simp), if_neg this, if_pos (by omega), List.drop_zero]
end

attribute [go_sem] go_skip go_ops go_seq go_block go_exit go_ret done_nil done_then done_then_exit done_then_ret done_blk done_blk_exit done_blk_ret done_round_exit done_round_ret op_nil opn_some opv_some opk_some oph_some op_move op_assign op_pick op_bin op_un op_fa op_ix op_load op_alloc op_box op_mkSlice op_store op_append op_len addO_ptr lenO_slice lenO_str bin_add bin_sub bin_mul bin_and bin_or bin_xor bin_eql bin_neq bin_lss bin_leq bin_gtr bin_geq un_not un_neg boxO_int boxO_bool boxO_agg boxO_slice boxO_ptr ev_tmp ev_const ev_func put_t put_h put_none hp_t hp_h init_t init_h hput_next hto_next hto_blk hto_cell hto_cells hput_blk_eq hput_cell_eq hput_cells_eq hput_put hto_put hto_to shp_put shp_hp stC_eq op_guard_t op_guard_f op_guard_u go_cond_t go_cond_f plus_next plus_blk_eq plus_cell_eq plus_cells_eq stB_int stB_bool stB_slice stB_agg splice_s splice_z splice_e resL_nil resL_tmp resL_cell resC_int resC_bool resC_str resC_slice resC_agg resC_ptr resC_func resD_some tupV_one tupV_nil tupV_two cl_next op_extract extO_lit op_nilCheck nilO_ptr nilO_func op_min op_max minO_int maxO_int cvI_int cvB_str Int.toNat_natCast
attribute [go_sem] op_mf mfO_eq List.all_cons List.all_nil isVar_int isVar_bool isVar_str isVar_slice isVar_agg isVar_ptr cells_int cells_bool cells_str cells_slice cells_ptr cells_agg apT_nil apT_some apO_zero apO_zero_nil
attribute [go_sem] gv_tt gv_ff gv_tf gv_ft pick_and pick_or ltO_ptr ltO_slice ltO_nil opl_ok
attribute [go_sem] Nat.add_zero Nat.mul_one Nat.zero_add Nat.add_assoc Option.map_some Option.bind_some List.getElem?_cons_zero List.getElem?_cons_succ List.getD_cons_zero List.getD_cons_succ List.getD_nil List.drop_zero List.drop_succ_cons List.take_zero List.take_succ_cons List.length_cons List.length_nil List.set_cons_zero List.set_cons_succ beq_self_eq_true if_true if_false Bool.true_eq_false Bool.false_eq_true Bool.not_true Bool.not_false Bool.true_or Bool.false_or Bool.or_true Bool.or_false Bool.true_and Bool.false_and Bool.and_true Bool.and_false decide_true decide_false List.size_toArray List.toList_toArray List.cons_append List.nil_append List.append_nil Nat.zero_lt_succ Nat.le_refl List.map_cons List.map_nil

end Go.Proofs.YtbgaljpilmmefaaM
