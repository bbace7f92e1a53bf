/- The rules by which code is walked, in one set. -/
import Derived.Test.YtbgaljpilmmefaaMiT
import Derived.Attr
namespace Go.Proofs.YtbgaljpilmmefaaM
open Go
set_option linter.unusedVariables false
set_option linter.unusedSimpArgs false

section
variable {Γ : TypeId → Option TI} {E : TypeId → Nat} {C : Rel} {D : DrawR} {Q : Ex → S → Prop} {k : List Fr} {s : S} {base i : Nat} {l : List POp} {d : Option Nat}

/- Tests on whole numbers, told so that no name is turned into another. -/
theorem beqT {a b : Int} : ((a == b) = true) = (a ≤ b ∧ b ≤ a) := by simp only [beq_iff_eq, eq_iff_iff]; omega
theorem beqF {a b : Int} : ((a == b) = false) = (a < b ∨ b < a) := by simp only [beq_eq_false_iff_ne, eq_iff_iff]; omega
theorem bneT {a b : Int} : ((a != b) = true) = (a < b ∨ b < a) := by simp only [bne_iff_ne, eq_iff_iff]; omega
theorem bneF {a b : Int} : ((a != b) = false) = (a ≤ b ∧ b ≤ a) := by simp only [bne_eq_false_iff_eq, eq_iff_iff]; omega

/- A function's regions. -/
def opsOf : PC → List (List POp)
  | .ops _ l => [l]
  | .seq a b => opsOf a ++ opsOf b
  | .cond _ a b => opsOf a ++ opsOf b
  | .block _ b => opsOf b
  | .loop b => opsOf b
  | _ => []
def drawsOf : PC → List (Array Oper)
  | .draw o => [o]
  | .seq a b => drawsOf a ++ drawsOf b
  | .cond _ a b => drawsOf a ++ drawsOf b
  | .block _ b => drawsOf b
  | .loop b => drawsOf b
  | _ => []
def codeOf (f : Func) : PC := (prep (f.body.getD .skip)).getD .skip
def regAt (f : Func) (i : Nat) : List POp := (opsOf (codeOf f)).getD i []
def drawAt (f : Func) (i : Nat) : Array Oper := (drawsOf (codeOf f)).getD i #[]

/-- What a guarded operation makes: nothing where it is not wanted. -/
def gv (b w : Bool) (v : Value) : Value := if b = w then v else undef
theorem gv_tt {v : Value} : gv true true v = v := nr rfl
theorem gv_ff {v : Value} : gv false false v = v := nr rfl
theorem gv_tf {v : Value} : gv true false v = undef := nr rfl
theorem gv_ft {v : Value} : gv false true v = undef := nr rfl
theorem pick_and {b c : Bool} : pickO (.bool b) (gv b true (.bool c)) (.bool false) = some (.bool (b && c)) := by cases b <;> rfl
theorem pick_or {b c : Bool} : pickO (.bool b) (.bool true) (gv b false (.bool c)) = some (.bool (b || c)) := by cases b <;> rfl
def isPut (s : S) (d : Option Nat) (v : Value) : Ex → S → Prop := fun x s' => x = .norm ∧ s' = s.put d v
theorem isPut_ok {s : S} {d : Option Nat} {v : Value} : isPut s d v .norm (s.put d v) := ⟨rfl, rfl⟩
/-- A guarded operation that leaves the blocks as they are: both ways at once. -/
theorem op_gv {j : Nat} {w b : Bool} {op : Op} {v : Value} (h : s.t j = .bool b) (h1 : b = w → OpG Γ E C D (isPut s d v) base i [⟨d, none, op⟩] [] s) (hn : OpG Γ E C D Q base (i + 1) l k (s.put d (gv b w v))) :
    OpG Γ E C D Q base i (⟨d, some (j, w), op⟩ :: l) k s := by
  by_cases hb : b = w
  · have h2 := h1 hb
    subst hb
    rw [op_guard_t h]
    have hv : gv b b v = v := by simp [gv]
    rw [hv] at hn
    unfold OpG OpsP at h2 ⊢
    simp only [gdV] at h2 ⊢
    split at h2
    · rename_i g args hc
      obtain ⟨v', h', h3, h4⟩ := h2
      have h5 : (s.hp h').put d v' = s.put d v := by
        unfold OpsP at h4; rw [done_nil] at h4; exact h4.2
      exact ⟨v', h', h3, by rw [h5]; exact hn⟩
    · split at h2
      · rename_i v' h' _
        have h5 : (s.hp h').put d v' = s.put d v := by
          unfold OpsP at h2; rw [done_nil] at h2; exact h2.2
        rw [h5]; exact hn
      · exact h2.elim
  · have hv : gv b w v = undef := by simp [gv, hb]
    rw [hv] at hn
    have hb' : b = !w := by cases b <;> cases w <;> simp_all
    subst hb'
    rw [op_guard_f h]
    exact hn
theorem hp_self {s : S} : s.hp s.h = s := nr rfl

/-- A call, by what it is said to do. -/
theorem op_sp {g : FuncId} {as : Array Operand} {ts : Array TypeId} {args : List Value} {h0 : Hp} {P : Value → Hp → Prop} (hc : ∃ v h', C g args h0 v h' ∧ P v h') (ha : as.toList.map s.ev = args) (hh : s.h = h0)
    (hn : ∀ v h', P v h' → OpG Γ E C D Q base (i + 1) l k ((s.hp h').put d v)) : OpG Γ E C D Q base i (⟨d, none, .call { callee := .value (.func g), args := as, argTypes := ts }⟩ :: l) k s := by
  obtain ⟨v, h', h1, h2⟩ := hc
  exact op_callF ha hh h1 (hn v h' h2)
/-- A call of a function value. -/
theorem op_spV {f : Operand} {as : Array Operand} {ts : Array TypeId} {g : FuncId} {a b : Array Value} {args : List Value} {h0 : Hp} {P : Value → Hp → Prop} (hf : s.ev f = .func (.func g) a b) (hc : ∃ v h', C g args h0 v h' ∧ P v h')
    (ha : a.toList ++ as.toList.map s.ev ++ b.toList = args) (hh : s.h = h0) (hn : ∀ v h', P v h' → OpG Γ E C D Q base (i + 1) l k ((s.hp h').put d v)) :
    OpG Γ E C D Q base i (⟨d, none, .call { callee := .value f, args := as, argTypes := ts }⟩ :: l) k s := by
  obtain ⟨v, h', h1, h2⟩ := hc
  refine op_call hf ?_ (hn v h' h2)
  rw [ha, hh]; exact h1
/-- Calls in regions of open order. -/
theorem tc_ext {x : Bool} {bound : Nat} {g : FuncId} {args : List Value} {h h' : Hp} {v : Value} (hg : g ≠ PS) (hc : C g args h v h') (he : Ext h h') : TC Γ C x bound g args h v h' := .inr ⟨.inr hg, hc, nr_ext he, fun _ => he⟩
theorem tc_quiet {x : Bool} {bound : Nat} {g : FuncId} {args : List Value} {h : Hp} {v : Value} (hg : g ≠ PS) (hc : C g args h v h) : TC Γ C x bound g args h v h := tc_ext hg hc (ext_refl h)
theorem tc_nr {bound : Nat} {g : FuncId} {args : List Value} {h h' : Hp} {v : Value} (hc : C g args h v h') (he : Nr h h') : TC Γ C false bound g args h v h' := .inr ⟨.inl rfl, hc, he, fun h => by cases h⟩
theorem op_spT {x : Bool} {bound : Nat} {g : FuncId} {as : Array Operand} {ts : Array TypeId} {args : List Value} {h0 : Hp} {P : Value → Hp → Prop} (hc : ∃ v h', C g args h0 v h' ∧ P v h') (hp : ∀ v h', P v h' → Ext h0 h') (hg : g ≠ PS) (ha : as.toList.map s.ev = args) (hh : s.h = h0)
    (hn : ∀ v h', P v h' → OpG Γ E (TC Γ C x bound) D Q base (i + 1) l k ((s.hp h').put d v)) : OpG Γ E (TC Γ C x bound) D Q base i (⟨d, none, .call { callee := .value (.func g), args := as, argTypes := ts }⟩ :: l) k s := by
  obtain ⟨v, h', h1, h2⟩ := hc
  exact op_callF ha hh (tc_ext hg h1 (hp v h' h2)) (hn v h' h2)
theorem op_spN {bound : Nat} {g : FuncId} {as : Array Operand} {ts : Array TypeId} {args : List Value} {h0 : Hp} {P : Value → Hp → Prop} (hc : ∃ v h', C g args h0 v h' ∧ P v h') (hp : ∀ v h', P v h' → Nr h0 h') (ha : as.toList.map s.ev = args) (hh : s.h = h0)
    (hn : ∀ v h', P v h' → OpG Γ E (TC Γ C false bound) D Q base (i + 1) l k ((s.hp h').put d v)) : OpG Γ E (TC Γ C false bound) D Q base i (⟨d, none, .call { callee := .value (.func g), args := as, argTypes := ts }⟩ :: l) k s := by
  obtain ⟨v, h', h1, h2⟩ := hc
  exact op_callF ha hh (tc_nr h1 (hp v h' h2)) (hn v h' h2)
/-- Readings that calls may overtake. -/
def ltO (b : Nat) : Value → Bool
  | .pointer (some ⟨n, _, _⟩) => decide (n < b)
  | .slice (some ⟨n, _, _⟩) _ _ => decide (n < b)
  | _ => true
theorem ltO_ptr {b n o : Nat} {x : Option _} : ltO b (.pointer (some ⟨n, o, x⟩)) = decide (n < b) := nr rfl
theorem ltO_slice {b n o a c : Nat} {x : Option _} : ltO b (.slice (some ⟨n, o, x⟩) a c) = decide (n < b) := nr rfl
theorem ltO_nil {b a c : Nat} : ltO b (.slice none a c) = true := nr rfl
theorem ltO_ok {b : Nat} {v : Value} (h : ltO b v = true) : okAt b v := by
  unfold okAt
  split
  · simpa [ltO] using h
  · simpa [ltO] using h
  · trivial
def OpL (Γ : TypeId → Option TI) (E : TypeId → Nat) (C : Rel) (D : DrawR) (Q : Ex → S → Prop) (base i : Nat) (l : List POp) (k : List Fr) (s : S) (d : Option Nat) : Bool → Option Value → Prop
  | true, some v => OpG Γ E C D Q base i l k (s.put d v)
  | _, _ => False
theorem opl_ok {v : Value} : OpL Γ E C D Q base i l k s d true (some v) = OpG Γ E C D Q base i l k (s.put d v) := nr rfl
theorem op_ldQ {bound : Nat} {t : TypeId} {a : Operand} (h : OpL Γ E (TC Γ C true bound) D Q base (i + 1) l k s d (ltO bound (s.ev a)) (ldv Γ t (s.ev a) s.h)) : OpG Γ E (TC Γ C true bound) D Q base i (⟨d, none, ldQ t a⟩ :: l) k s := by
  unfold OpL at h
  split at h
  · rename_i v h1 h2
    refine op_callF (g := PS) (args := [s.ev a, .int .i64 (t : Int)]) rfl rfl (h' := s.h) (v := v) (.inl ⟨rfl, rfl, rfl, .inl ⟨_, t, rfl, ltO_ok h1, h2⟩⟩) h
  · exact h.elim
theorem op_cvQ {bound : Nat} {q t : TypeId} {a : Operand} (h : OpL Γ E (TC Γ C true bound) D Q base (i + 1) l k s d (ltO bound (s.ev a)) (textV Γ q t (s.ev a) s.h)) : OpG Γ E (TC Γ C true bound) D Q base i (⟨d, none, cvQ q t a⟩ :: l) k s := by
  unfold OpL at h
  split at h
  · rename_i v h1 h2
    refine op_callF (g := PS) (args := [s.ev a, .int .i64 (q : Int), .int .i64 (t : Int)]) rfl rfl (h' := s.h) (v := v) (.inl ⟨rfl, rfl, rfl, .inr ⟨_, q, t, rfl, ltO_ok h1, h2⟩⟩) h
  · exact h.elim
end

attribute [go_sem] go_skip go_ops go_seq go_block go_exit go_ret done_nil done_then done_then_exit done_then_ret done_blk done_blk_exit done_blk_ret done_round done_round_exit done_round_ret op_nil opn_some opv_some opk_some oph_some op_move op_assign op_pick op_bin op_un op_fa op_ix op_load op_alloc op_box op_mkSlice op_store op_append op_len addO_ptr lenO_slice lenO_str bin_add bin_sub bin_mul bin_and bin_or bin_xor bin_eql bin_neq bin_lss bin_leq bin_gtr bin_geq un_not un_neg boxO_int boxO_bool boxO_agg boxO_slice boxO_ptr ev_tmp ev_const ev_func put_t put_h put_none hp_t hp_h init_t init_h hput_next hto_next hto_blk hto_cell hto_cells hput_blk_eq hput_cell_eq hput_cells_eq hput_put hto_put hto_to shp_put shp_hp stC_eq op_guard_t op_guard_f op_guard_u go_cond_t go_cond_f plus_next plus_blk_eq plus_cell_eq plus_cells_eq stB_int stB_bool stB_slice stB_agg splice resL_nil resL_tmp resL_cell resC_int resC_bool resC_str resC_slice resC_agg resC_ptr resC_func resD_some tupV_one tupV_nil tupV_two cl_next op_extract extO_lit op_nilCheck nilO_ptr nilO_func op_min op_max minO_int maxO_int cvI_int cvB_str Int.toNat_natCast
attribute [go_sem] gv_tt gv_ff gv_tf gv_ft pick_and pick_or ltO_ptr ltO_slice ltO_nil opl_ok
attribute [go_sem] Nat.add_zero Nat.mul_one Nat.zero_add Nat.add_assoc Option.map_some Option.bind_some List.getElem?_cons_zero List.getElem?_cons_succ List.getD_cons_zero List.getD_cons_succ List.getD_nil List.drop_zero List.drop_succ_cons List.take_zero List.take_succ_cons List.length_cons List.length_nil List.set_cons_zero List.set_cons_succ beq_self_eq_true if_true if_false Bool.true_eq_false Bool.false_eq_true Bool.not_true Bool.not_false Bool.true_or Bool.false_or Bool.or_true Bool.or_false Bool.true_and Bool.false_and Bool.and_true Bool.and_false decide_true decide_false List.size_toArray List.toList_toArray List.cons_append List.nil_append List.append_nil Nat.zero_lt_succ Nat.le_refl List.map_cons List.map_nil

end Go.Proofs.YtbgaljpilmmefaaM
