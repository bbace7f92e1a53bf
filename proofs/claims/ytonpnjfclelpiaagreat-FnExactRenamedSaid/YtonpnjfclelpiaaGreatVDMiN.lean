import Derived.Test.YtonpnjfclelpiaaGreatVDMiT
import Derived.Attr
namespace Go.Proofs.YtonpnjfclelpiaaGreatM
open Go
set_option linter.unusedVariables false
set_option linter.unusedSimpArgs false
section
variable {Γ : TypeId → Option TI} {E : TypeId → Nat} {C : Rel} {D : DrawR} {Q : Ex → S → Prop} {k : List Fr} {s : S} {base i : Nat} {l : List POp} {d : Option Nat}
theorem beqT {a b : Int} : ((a == b) = true) = (a ≤ b ∧ b ≤ a) := by simp only [beq_iff_eq, eq_iff_iff]; omega
theorem beqF {a b : Int} : ((a == b) = false) = (a < b ∨ b < a) := by simp only [beq_eq_false_iff_ne, eq_iff_iff]; omega
theorem bneT {a b : Int} : ((a != b) = true) = (a < b ∨ b < a) := by simp only [bne_iff_ne, eq_iff_iff]; omega
theorem bneF {a b : Int} : ((a != b) = false) = (a ≤ b ∧ b ≤ a) := by simp only [bne_eq_false_iff_eq, eq_iff_iff]; omega
end
def exQ (Γ : TypeId → Option TI) (rs : List ResultVar) (P : Value → Hp → Prop) : Ex → S → Prop := fun x s => (x = .norm ∨ x = .ret) ∧ ∃ vs, resL Γ s rs = some vs ∧ P (tupV vs) s.h
theorem call_ex {Γ : TypeId → Option TI} {E : TypeId → Nat} {F : FuncId → Option Func} {X : Rel} {f : FuncId} {fn : Func} {c : Code} {p : PC} {args : List Value} {h : Hp} {P : Value → Hp → Prop} (hF : F f = some fn) (hb : fn.body = some c) (hp : prep c = some p) (hn : args.length ≤ fn.ntmps)
  (hg : Go Γ E (Call Γ E F X (Draw Γ E)) (Draw Γ E (Call Γ E F X (Draw Γ E)) 0) (exQ Γ fn.results.toList P) p [] (initS args h)) : ∃ v h', Call Γ E F X (Draw Γ E) f args h v h' ∧ P v h' := by
 obtain ⟨x, s, h1, h2⟩ := RunP.out (p := p) hg
 rw [done_nil] at h2
 obtain ⟨hx, vs, h3, h4⟩ := h2
 refine ⟨tupV vs, s.h, Call.closed draw_mono (.inr ⟨fn, c, hF, hb, hn, run_prep c p _ _ hp (RunP.mono (p := p) (fun y t ht => ?_) h1)⟩), h4⟩
 obtain ⟨rfl, rfl⟩ := ht
 exact ⟨hx, vs, h3, rfl, .inl ⟨Nat.le_refl _, fun _ _ hh => hh⟩⟩
section
variable {Γ : TypeId → Option TI} {E : TypeId → Nat} {C : Rel} {D : DrawR} {Q : Ex → S → Prop} {k : List Fr} {s : S} {base i : Nat} {l : List POp} {d : Option Nat}
def fillJ (z : Nat) (cells : List Value) : List (Nat × Value) → Option (List Value)
 | [] => some cells
 | (j, v) :: r => if isVar v = true ∧ v.cells.size = z ∧ j * z + v.cells.size ≤ cells.length then fillJ z (splice cells (j * z) v.cells.toList) r else none
theorem fillJ_eq (z : Nat) : ∀ (ps : List (Nat × Value)) (cells : List Value), fillL (fun j => some (j * z, z)) cells ps = fillJ z cells ps
 | [], _ => rfl
 | (j, v) :: r, cells => by
  unfold fillL fillJ
  simp only
  split
  ·exact fillJ_eq z r _
  ·rfl
def bsO (nm z : Nat) (zero : List Value) (len : Nat) (ps : List (Nat × Value)) : Option (Value × Blk) :=
 if len * z > 16777216 then none else (fillJ z (repZ zero len) ps).map fun cs => (.slice (some ⟨nm, 0, none⟩) len (U z), { cells := cs, rw := true })
theorem op_bs {t e : TypeId} {len b1 b2 sz : Nat} {z1 : List Value} {i1 : TI} {parts : Array (Nat × Operand)} (h1 : Γ t = some ⟨.slice e, b1, b2, z1⟩) (h2 : Γ e = some i1) (h3 : i1.size = sz) (h4 : sz ≠ 0) (h5 : i1.zero.length = sz) :
  OpG Γ E C D Q base i (⟨d, none, .buildSlice t len parts⟩ :: l) k s = OpK Γ E C D Q base (i + 1) l k s d (base + i) (bsO (base + i) sz i1.zero len (parts.toList.map fun p => (p.1, s.ev p.2))) := by
 rw [op_buildSlice]
 congr 1
 subst h3
 simp only [makeV, h1, h2, bsO]
 by_cases hb : len * i1.size > 16777216
 ·rw [if_pos (.inr (.inr hb)), if_pos hb]
 ·rw [if_neg (by rintro (q | q | q); exact h4 q; exact q h5; exact hb q), if_neg hb, fillJ_eq]
theorem mkO_ok {t e : TypeId} {nm n b1 b2 : Nat} {z1 : List Value} {i1 : TI} {kk k' : IntKind} (h1 : Γ t = some ⟨.slice e, b1, b2, z1⟩) (h2 : Γ e = some i1) (h3 : i1.size ≠ 0) (h4 : i1.zero.length = i1.size) (h5 : i1.bytes ≤ 65536) (hn : n < 4294967296) :
  mkO Γ nm t (.int kk (n : Int)) (.int k' (n : Int)) = some (.slice (some ⟨nm, 0, none⟩) n (U i1.size), { cells := repZ i1.zero n, rw := true }) := by
 simp only [mkO, h1, h2]
 have q1 : i1.bytes * n ≤ 65536 * n := Nat.mul_le_mul_right n h5
 have q2 : (i1.bytes : Int) * (n : Int) ≤ 281474976710656 := by
  rw [show (i1.bytes : Int) * (n : Int) = ((i1.bytes * n : Nat) : Int) from (Int.natCast_mul _ _).symm]
  omega
 rw [if_pos ⟨trivial, by omega, by omega, q2, h3, h4⟩]
 rfl
def apT (z : Nat) (x : Value) (h : Hp) : Option (List Value × Nat) :=
 match x with
 | .slice none 0 0 => some ([], 0)
 | .slice (some ⟨n, o, none⟩) k _ => if k = 0 then some ([], 0) else (h.cells n o (k * z)).map fun cs => (cs, k)
 | _ => none
theorem apT_some {z n o k' c : Nat} {h : Hp} : apT z (.slice (some ⟨n, o, none⟩) k' c) h = if k' = 0 then some ([], 0) else (h.cells n o (k' * z)).map fun cs => (cs, k') := nr rfl
def apB (z nm n o len c : Nat) (h : Hp) (cs : List Value) (k : Nat) : Option Blk → Option (Value × Hp)
 | some b =>
  if len + k > 1073741824 ∨ o + len * z > b.cells.length then none else
  if c = U z then
   if !b.rw then none else
   if o + (len + k) * z ≤ b.cells.length then some (.slice (some ⟨n, o, none⟩) (len + k) (U z), h.put n (some { b with cells := splice b.cells (o + len * z) cs }))
   else if o + len * z = b.cells.length then some (.slice (some ⟨nm, 0, none⟩) (len + k) (U z), (h.put n none).put nm (some { cells := b.cells.drop o ++ cs, rw := true }))
   else none
  else if len + k ≤ c ∨ c ≥ 18446744073709551616 then none
  else some (.slice (some ⟨nm, 0, none⟩) (len + k) (U z), h.put nm (some { cells := (b.cells.drop o).take (len * z) ++ cs, rw := true }))
 | none => none
def apO (z nm : Nat) (s : Value) (h : Hp) : Option (List Value × Nat) → Option (Value × Hp)
 | some (cs, k) => match s with
  | .slice none 0 0 => if k = 0 then some (.slice none 0 0, h) else if k > 1073741824 then none else some (.slice (some ⟨nm, 0, none⟩) k (U z), h.put nm (some { cells := cs, rw := true }))
  | .slice (some ⟨n, o, none⟩) len c => if k = 0 then some (.slice (some ⟨n, o, none⟩) len c, h) else apB z nm n o len c h cs k (h.blk n)
  | _ => none
 | none => none
theorem append_eq {t t2 e e2 : TypeId} {nm b1 b2 b3 b4 : Nat} {z1 z2 : List Value} {i1 : TI} {s x : Value} {h : Hp} (h1 : Γ t = some ⟨.slice e, b1, b2, z1⟩) (h2 : Γ e = some i1) (h3 : i1.size ≠ 0) (h4 : i1.zero.length = i1.size) (h5 : i1.bytes ≤ 65536) (h6 : i1.bytes ≠ 0)
  (h7 : Γ t2 = some ⟨.slice e2, b3, b4, z2⟩) : appendV Γ nm t t2 s x h = apO i1.size nm s h (apT i1.size x h) := by
 have ht : tailV i1 (Γ t2) x h = apT i1.size x h := by
  rw [h7]
  cases x with
  | slice a k c =>
   cases a with
   | none => cases k <;> cases c <;> rfl
   | some a => obtain ⟨n, o, sp⟩ := a; cases sp <;> rfl
  | _ => rfl
 unfold appendV
 simp only [h1, h2, ht]
 cases hx : apT i1.size x h with
 | none => rfl
 | some r =>
  obtain ⟨cs, kk⟩ := r
  simp only [apO]
  rw [if_neg (by rintro (q | q | q | q); exact h3 q; exact h6 q; omega; exact q h4)]
  cases s with
  | slice a len c =>
   cases a with
   | none => cases len <;> cases c <;> rfl
   | some a =>
    obtain ⟨n, o, sp⟩ := a
    cases sp with
    | none =>
     simp only
     split
     ·rfl
     ·cases h.blk n <;> rfl
    | some _ => rfl
  | _ => rfl
theorem apO_nil {z nm k' : Nat} {h : Hp} {cs : List Value} (h1 : k' ≠ 0) (h2 : k' ≤ 1073741824) : apO z nm (.slice none 0 0) h (some (cs, k')) = some (.slice (some ⟨nm, 0, none⟩) k' (U z), h.put nm (some { cells := cs, rw := true })) := by
 simp only [apO]; rw [if_neg h1, if_neg (by omega)]
theorem apO_some {z nm n o len c k' : Nat} {h : Hp} {cs : List Value} (h1 : k' ≠ 0) : apO z nm (.slice (some ⟨n, o, none⟩) len c) h (some (cs, k')) = apB z nm n o len c h cs k' (h.blk n) := by
 simp only [apO]; rw [if_neg h1]
theorem apB_own {z nm n len k' : Nat} {h : Hp} {cs cells : List Value} (hl : cells.length = len * z) (hk : len + k' ≤ 1073741824) (h0 : k' ≠ 0) (hz : z ≠ 0) :
  apB z nm n 0 len (U z) h cs k' (some ⟨cells, true⟩) = some (.slice (some ⟨nm, 0, none⟩) (len + k') (U z), (h.put n none).put nm (some { cells := cells ++ cs, rw := true })) := by
 simp only [apB]
 rw [if_neg (by omega), if_pos trivial]
 have h2 : 0 < k' * z := Nat.mul_pos (by omega) (by omega)
 have : ¬ (0 + (len + k') * z ≤ cells.length) := by rw [Nat.add_mul]; omega
 rw [if_neg (by simp), if_neg this, if_pos (by omega), List.drop_zero]
end
attribute [go_sem] done_nil bin_add bin_sub bin_eql bin_neq bin_lss bin_leq bin_gtr bin_geq un_not put_h hput_blk_eq Int.toNat_natCast
attribute [go_sem] List.all_cons List.all_nil apT_some
attribute [go_sem] Nat.add_zero Nat.mul_one Nat.zero_add Nat.add_assoc Option.map_some Option.bind_some List.getElem?_cons_zero List.getElem?_cons_succ List.getD_cons_zero List.getD_cons_succ List.getD_nil List.drop_zero List.drop_succ_cons List.take_zero List.take_succ_cons List.length_cons List.length_nil List.set_cons_zero List.set_cons_succ beq_self_eq_true if_true if_false Bool.true_eq_false Bool.false_eq_true Bool.not_true Bool.not_false Bool.true_or Bool.false_or Bool.or_true Bool.or_false Bool.true_and Bool.false_and Bool.and_true Bool.and_false decide_true decide_false List.size_toArray List.toList_toArray List.cons_append List.nil_append List.append_nil Nat.zero_lt_succ Nat.le_refl List.map_cons List.map_nil
end Go.Proofs.YtonpnjfclelpiaaGreatM
