import Derived.Test.YtgbaininmgdnoaaVAMiV
import Derived.Test.YtgbaininmgdnoaaChecked
import Derived.KernelRfl
/- The tables of the small machine for this program: its types and its functions, and that the program has them so. -/
namespace Go.Proofs.YtgbaininmgdnoaaM
open Go
set_option linter.unusedVariables false
set_option maxRecDepth 100000
noncomputable def ti3 : TI := ⟨.int .i64, 1, 8, [Value.int IntKind.i64 0]⟩
noncomputable def ti4 : TI := ⟨.bool, 1, 1, [Value.bool false]⟩
noncomputable def ti5 : TI := ⟨.int .u8, 1, 1, [Value.int IntKind.u8 0]⟩
noncomputable def ti9 : TI := ⟨.str, 1, 16, [Value.string ByteArray.empty]⟩
noncomputable def ti22 : TI := ⟨.slice 5, 1, 24, [Value.slice none 0 0]⟩
noncomputable def ti31 : TI := ⟨.struct [(0, 3), (1, 3), (2, 3), (3, 3), (4, 3)], 5, 40, [Value.int IntKind.i64 0, Value.int IntKind.i64 0, Value.int IntKind.i64 0, Value.int IntKind.i64 0, Value.int IntKind.i64 0]⟩
noncomputable def ti33 : TI := ⟨.slice 38, 1, 24, [Value.slice none 0 0]⟩
noncomputable def ti38 : TI := ⟨.struct [(0, 3), (1, 3), (2, 3), (3, 3), (4, 3)], 5, 40, [Value.int IntKind.i64 0, Value.int IntKind.i64 0, Value.int IntKind.i64 0, Value.int IntKind.i64 0, Value.int IntKind.i64 0]⟩
noncomputable def ti41 : TI := ⟨.slice 3, 1, 24, [Value.slice none 0 0]⟩
noncomputable def ti75 : TI := ⟨.ptr, 1, 8, [Value.pointer none]⟩
noncomputable def ti161 : TI := ⟨.struct [(0, 22), (1, 3), (2, 3)], 3, 40, [Value.slice none 0 0, Value.int IntKind.i64 0, Value.int IntKind.i64 0]⟩
noncomputable def Γ : TypeId → Option TI
  | 3 => some ti3
  | 4 => some ti4
  | 5 => some ti5
  | 9 => some ti9
  | 22 => some ti22
  | 31 => some ti31
  | 33 => some ti33
  | 38 => some ti38
  | 41 => some ti41
  | 75 => some ti75
  | 161 => some ti161
  | _ => none
def E : TypeId → Nat
  | 38 => 5
  | _ => 0
theorem Γ_cases {t : TypeId} {i : TI} (h : Γ t = some i) : (t = 3 ∧ i = ti3) ∨ (t = 4 ∧ i = ti4) ∨ (t = 5 ∧ i = ti5) ∨ (t = 9 ∧ i = ti9) ∨ (t = 22 ∧ i = ti22) ∨ (t = 31 ∧ i = ti31) ∨ (t = 33 ∧ i = ti33) ∨ (t = 38 ∧ i = ti38) ∨ (t = 41 ∧ i = ti41) ∨ (t = 75 ∧ i = ti75) ∨ (t = 161 ∧ i = ti161) := by
  unfold Γ at h
  split at h <;> first | (injection h with h; subst h; simp) | cases h
/-- One row of the table. -/
theorem row_ok {t : TypeId} {i : TI} {d : TypeDesc} (h : (Try.prog.info? t).map (fun x => (x.size, x.bytes, x.zero.map fun z => z.cells)) = some (i.size, i.bytes, some i.zero.toArray)) (hp : i.zero.all plainV = true) (hu : Try.prog.underlying t = some d) (hs : ShOk d i.sh) :
    ∃ inf, Try.prog.info? t = some inf ∧ inf.size = i.size ∧ inf.bytes = i.bytes ∧ (∃ z, inf.zero = some z ∧ z.cells = i.zero.toArray) ∧ (∀ v ∈ i.zero, plainV v = true) ∧ ∃ d, Try.prog.underlying t = some d ∧ ShOk d i.sh := by
  obtain ⟨inf, h1, h2⟩ := Option.map_eq_some_iff.1 h
  injection h2 with h2 h3
  injection h3 with h3 h4
  obtain ⟨z, h5, h6⟩ := Option.map_eq_some_iff.1 h4
  exact ⟨inf, h1, h2, h3, ⟨z, h5, h6⟩, fun v hv => List.all_eq_true.1 hp v hv, d, hu, hs⟩
theorem row3 : ∃ inf, Try.prog.info? 3 = some inf ∧ inf.size = ti3.size ∧ inf.bytes = ti3.bytes ∧ (∃ z, inf.zero = some z ∧ z.cells = ti3.zero.toArray) ∧ (∀ v ∈ ti3.zero, plainV v = true) ∧ ∃ d, Try.prog.underlying 3 = some d ∧ ShOk d ti3.sh :=
  row_ok (by kernel_rfl) rfl Try.underlying3 rfl
theorem row4 : ∃ inf, Try.prog.info? 4 = some inf ∧ inf.size = ti4.size ∧ inf.bytes = ti4.bytes ∧ (∃ z, inf.zero = some z ∧ z.cells = ti4.zero.toArray) ∧ (∀ v ∈ ti4.zero, plainV v = true) ∧ ∃ d, Try.prog.underlying 4 = some d ∧ ShOk d ti4.sh :=
  row_ok (by kernel_rfl) rfl Try.underlying4 rfl
theorem row5 : ∃ inf, Try.prog.info? 5 = some inf ∧ inf.size = ti5.size ∧ inf.bytes = ti5.bytes ∧ (∃ z, inf.zero = some z ∧ z.cells = ti5.zero.toArray) ∧ (∀ v ∈ ti5.zero, plainV v = true) ∧ ∃ d, Try.prog.underlying 5 = some d ∧ ShOk d ti5.sh :=
  row_ok (by kernel_rfl) rfl Try.underlying5 rfl
theorem row9 : ∃ inf, Try.prog.info? 9 = some inf ∧ inf.size = ti9.size ∧ inf.bytes = ti9.bytes ∧ (∃ z, inf.zero = some z ∧ z.cells = ti9.zero.toArray) ∧ (∀ v ∈ ti9.zero, plainV v = true) ∧ ∃ d, Try.prog.underlying 9 = some d ∧ ShOk d ti9.sh :=
  row_ok (by kernel_rfl) rfl Try.underlying9 rfl
theorem row22 : ∃ inf, Try.prog.info? 22 = some inf ∧ inf.size = ti22.size ∧ inf.bytes = ti22.bytes ∧ (∃ z, inf.zero = some z ∧ z.cells = ti22.zero.toArray) ∧ (∀ v ∈ ti22.zero, plainV v = true) ∧ ∃ d, Try.prog.underlying 22 = some d ∧ ShOk d ti22.sh :=
  row_ok (by kernel_rfl) rfl Try.underlying22 rfl
theorem row31 : ∃ inf, Try.prog.info? 31 = some inf ∧ inf.size = ti31.size ∧ inf.bytes = ti31.bytes ∧ (∃ z, inf.zero = some z ∧ z.cells = ti31.zero.toArray) ∧ (∀ v ∈ ti31.zero, plainV v = true) ∧ ∃ d, Try.prog.underlying 31 = some d ∧ ShOk d ti31.sh :=
  row_ok (by kernel_rfl) rfl Try.underlying31 ⟨_, rfl, rfl⟩
theorem row33 : ∃ inf, Try.prog.info? 33 = some inf ∧ inf.size = ti33.size ∧ inf.bytes = ti33.bytes ∧ (∃ z, inf.zero = some z ∧ z.cells = ti33.zero.toArray) ∧ (∀ v ∈ ti33.zero, plainV v = true) ∧ ∃ d, Try.prog.underlying 33 = some d ∧ ShOk d ti33.sh :=
  row_ok (by kernel_rfl) rfl Try.underlying33 rfl
theorem row38 : ∃ inf, Try.prog.info? 38 = some inf ∧ inf.size = ti38.size ∧ inf.bytes = ti38.bytes ∧ (∃ z, inf.zero = some z ∧ z.cells = ti38.zero.toArray) ∧ (∀ v ∈ ti38.zero, plainV v = true) ∧ ∃ d, Try.prog.underlying 38 = some d ∧ ShOk d ti38.sh :=
  row_ok (by kernel_rfl) rfl Try.underlying38 ⟨_, rfl, rfl⟩
theorem row41 : ∃ inf, Try.prog.info? 41 = some inf ∧ inf.size = ti41.size ∧ inf.bytes = ti41.bytes ∧ (∃ z, inf.zero = some z ∧ z.cells = ti41.zero.toArray) ∧ (∀ v ∈ ti41.zero, plainV v = true) ∧ ∃ d, Try.prog.underlying 41 = some d ∧ ShOk d ti41.sh :=
  row_ok (by kernel_rfl) rfl Try.underlying41 rfl
theorem row75 : ∃ inf, Try.prog.info? 75 = some inf ∧ inf.size = ti75.size ∧ inf.bytes = ti75.bytes ∧ (∃ z, inf.zero = some z ∧ z.cells = ti75.zero.toArray) ∧ (∀ v ∈ ti75.zero, plainV v = true) ∧ ∃ d, Try.prog.underlying 75 = some d ∧ ShOk d ti75.sh :=
  row_ok (by kernel_rfl) rfl Try.underlying75 ⟨_, rfl⟩
theorem row161 : ∃ inf, Try.prog.info? 161 = some inf ∧ inf.size = ti161.size ∧ inf.bytes = ti161.bytes ∧ (∃ z, inf.zero = some z ∧ z.cells = ti161.zero.toArray) ∧ (∀ v ∈ ti161.zero, plainV v = true) ∧ ∃ d, Try.prog.underlying 161 = some d ∧ ShOk d ti161.sh :=
  row_ok (by kernel_rfl) rfl Try.underlying161 ⟨_, rfl, rfl⟩
theorem know_ty : ∀ t i, Γ t = some i → ∃ inf, Try.prog.info? t = some inf ∧ inf.size = i.size ∧ inf.bytes = i.bytes ∧ (∃ z, inf.zero = some z ∧ z.cells = i.zero.toArray) ∧ (∀ v ∈ i.zero, plainV v = true) ∧ ∃ d, Try.prog.underlying t = some d ∧ ShOk d i.sh := by
  intro t i h
  unfold Γ at h
  split at h
  · injection h with h; subst h; exact row3
  · injection h with h; subst h; exact row4
  · injection h with h; subst h; exact row5
  · injection h with h; subst h; exact row9
  · injection h with h; subst h; exact row22
  · injection h with h; subst h; exact row31
  · injection h with h; subst h; exact row33
  · injection h with h; subst h; exact row38
  · injection h with h; subst h; exact row41
  · injection h with h; subst h; exact row75
  · injection h with h; subst h; exact row161
  · cases h
theorem eqok38 : EqOk Try.prog 38 5 := ⟨⟨3, _, Try.underlying3, Try.underlying38, by kernel_rfl, rfl⟩, by kernel_rfl, by kernel_rfl⟩
theorem know_eql : ∀ t, E t ≠ 0 → ∀ (x y : Operand) (xs ys : Array Value), xs.size = E t → ys.size = E t → allI xs.toList = true → allI ys.toList = true → ∀ w,
    ((do eqGuard .eql t x y (.agg xs) (.agg ys); binOp .eql t (.agg xs) (.agg ys) : Sem Value)).run Try.prog w = .ok (.bool (decide (xs.toList.map numI = ys.toList.map numI))) w := by
  intro t h
  unfold E at h ⊢
  split at h
  · exact eqok38.eql
  · exact absurd rfl h
theorem know_neq : ∀ t, E t ≠ 0 → ∀ (x y : Operand) (xs ys : Array Value), xs.size = E t → ys.size = E t → allI xs.toList = true → allI ys.toList = true → ∀ w,
    ((do eqGuard .neq t x y (.agg xs) (.agg ys); binOp .neq t (.agg xs) (.agg ys) : Sem Value)).run Try.prog w = .ok (.bool (!decide (xs.toList.map numI = ys.toList.map numI))) w := by
  intro t h
  unfold E at h ⊢
  split at h
  · exact eqok38.neq
  · exact absurd rfl h
theorem know : Know Try.prog Γ E := ⟨know_ty, know_eql, know_neq, by kernel_rfl⟩
@[go_sem] theorem fa_31_0 : fa Γ 31 0 = some 0 := nr rfl
@[go_sem] theorem fa_31_1 : fa Γ 31 1 = some 1 := nr rfl
@[go_sem] theorem fa_31_2 : fa Γ 31 2 = some 2 := nr rfl
@[go_sem] theorem fa_31_3 : fa Γ 31 3 = some 3 := nr rfl
@[go_sem] theorem fa_31_4 : fa Γ 31 4 = some 4 := nr rfl
@[go_sem] theorem fa_38_0 : fa Γ 38 0 = some 0 := nr rfl
@[go_sem] theorem fa_38_1 : fa Γ 38 1 = some 1 := nr rfl
@[go_sem] theorem fa_38_2 : fa Γ 38 2 = some 2 := nr rfl
@[go_sem] theorem fa_38_3 : fa Γ 38 3 = some 3 := nr rfl
@[go_sem] theorem fa_38_4 : fa Γ 38 4 = some 4 := nr rfl
@[go_sem] theorem fa_161_0 : fa Γ 161 0 = some 0 := nr rfl
@[go_sem] theorem fa_161_1 : fa Γ 161 1 = some 1 := nr rfl
@[go_sem] theorem fa_161_2 : fa Γ 161 2 = some 2 := nr rfl
@[go_sem] theorem ld_3 {n o : Nat} {h : Hp} : ldv Γ 3 (.pointer (some ⟨n, o, none⟩)) h = h.cell n o := nr rfl
@[go_sem] theorem sv_3 {n o : Nat} {x : Value} {h : Hp} : stv Γ 3 (.pointer (some ⟨n, o, none⟩)) x h = stC n o 1 x h := nr rfl
@[go_sem] theorem za_3 {nm : Nat} : (Γ 3).map (fun t => (Value.pointer (some ⟨nm, 0, none⟩), ({ cells := t.zero, rw := true } : Blk))) = some (.pointer (some ⟨nm, 0, none⟩), { cells := [Value.int IntKind.i64 0], rw := true }) := nr rfl
@[go_sem] theorem nb_4 {a b : Bool} : binV Γ E .neq 4 (.bool a) (.bool b) = some (.bool (!(a == b))) := nr rfl
@[go_sem] theorem eb_4 {a b : Bool} : binV Γ E .eql 4 (.bool a) (.bool b) = some (.bool (a == b)) := nr rfl
@[go_sem] theorem ld_4 {n o : Nat} {h : Hp} : ldv Γ 4 (.pointer (some ⟨n, o, none⟩)) h = h.cell n o := nr rfl
@[go_sem] theorem sv_4 {n o : Nat} {x : Value} {h : Hp} : stv Γ 4 (.pointer (some ⟨n, o, none⟩)) x h = stC n o 1 x h := nr rfl
@[go_sem] theorem za_4 {nm : Nat} : (Γ 4).map (fun t => (Value.pointer (some ⟨nm, 0, none⟩), ({ cells := t.zero, rw := true } : Blk))) = some (.pointer (some ⟨nm, 0, none⟩), { cells := [Value.bool false], rw := true }) := nr rfl
@[go_sem] theorem ld_5 {n o : Nat} {h : Hp} : ldv Γ 5 (.pointer (some ⟨n, o, none⟩)) h = h.cell n o := nr rfl
@[go_sem] theorem sv_5 {n o : Nat} {x : Value} {h : Hp} : stv Γ 5 (.pointer (some ⟨n, o, none⟩)) x h = stC n o 1 x h := nr rfl
@[go_sem] theorem za_5 {nm : Nat} : (Γ 5).map (fun t => (Value.pointer (some ⟨nm, 0, none⟩), ({ cells := t.zero, rw := true } : Blk))) = some (.pointer (some ⟨nm, 0, none⟩), { cells := [Value.int IntKind.u8 0], rw := true }) := nr rfl
@[go_sem] theorem st_9 : isStr Γ 9 = some true := nr rfl
@[go_sem] theorem ld_9 {n o : Nat} {h : Hp} : ldv Γ 9 (.pointer (some ⟨n, o, none⟩)) h = h.cell n o := nr rfl
@[go_sem] theorem sv_9 {n o : Nat} {x : Value} {h : Hp} : stv Γ 9 (.pointer (some ⟨n, o, none⟩)) x h = stC n o 1 x h := nr rfl
@[go_sem] theorem za_9 {nm : Nat} : (Γ 9).map (fun t => (Value.pointer (some ⟨nm, 0, none⟩), ({ cells := t.zero, rw := true } : Blk))) = some (.pointer (some ⟨nm, 0, none⟩), { cells := [Value.string ByteArray.empty], rw := true }) := nr rfl
@[go_sem] theorem es_22 : es Γ 22 = some 1 := nr rfl
@[go_sem] theorem st_22 : isStr Γ 22 = some false := nr rfl
theorem mk_22 {nm n : Nat} {kk k' : IntKind} (hn : n < 4294967296) : mkO Γ nm 22 (.int kk (n : Int)) (.int k' (n : Int)) = some (.slice (some ⟨nm, 0, none⟩) n (U 1), { cells := repZ [Value.int IntKind.u8 0] n, rw := true }) := mkO_ok (i1 := ti5) rfl rfl (by decide) rfl (by decide) hn
theorem bs_22 {C : Rel} {D : DrawR} {Q : Ex → S → Prop} {k : List Fr} {s : S} {base i : Nat} {l : List POp} {d : Option Nat} {len : Nat} {parts : Array (Nat × Operand)} : OpG Γ E C D Q base i (⟨d, none, .buildSlice 22 len parts⟩ :: l) k s = OpK Γ E C D Q base (i + 1) l k s d (base + i) (bsO (base + i) 1 [Value.int IntKind.u8 0] len (parts.toList.map fun p => (p.1, s.ev p.2))) := op_bs (i1 := ti5) rfl rfl rfl (by decide) rfl
theorem ap_22 {nm : Nat} {x y : Value} {h : Hp} : appendV Γ nm 22 22 x y h = apO 1 nm x h (apT 1 y h) := append_eq (i1 := ti5) rfl rfl (by decide) rfl (by decide) (by decide) rfl
attribute [go_sem] mk_22 bs_22 ap_22
@[go_sem] theorem nn_22 {a : Option Addr} {n c : Nat} : binV Γ E .neq 22 (.slice a n c) (.slice none 0 0) = some (.bool (!a.isNone)) := nr rfl
@[go_sem] theorem en_22 {a : Option Addr} {n c : Nat} : binV Γ E .eql 22 (.slice a n c) (.slice none 0 0) = some (.bool a.isNone) := nr rfl
@[go_sem] theorem ld_22 {n o : Nat} {h : Hp} : ldv Γ 22 (.pointer (some ⟨n, o, none⟩)) h = h.cell n o := nr rfl
@[go_sem] theorem sv_22 {n o : Nat} {x : Value} {h : Hp} : stv Γ 22 (.pointer (some ⟨n, o, none⟩)) x h = stC n o 1 x h := nr rfl
@[go_sem] theorem za_22 {nm : Nat} : (Γ 22).map (fun t => (Value.pointer (some ⟨nm, 0, none⟩), ({ cells := t.zero, rw := true } : Blk))) = some (.pointer (some ⟨nm, 0, none⟩), { cells := [Value.slice none 0 0], rw := true }) := nr rfl
@[go_sem] theorem ld_31 {n o : Nat} {h : Hp} : ldv Γ 31 (.pointer (some ⟨n, o, none⟩)) h = (h.cells n o 5).map fun cs => .agg cs.toArray := nr rfl
@[go_sem] theorem sv_31 {n o : Nat} {x : Value} {h : Hp} : stv Γ 31 (.pointer (some ⟨n, o, none⟩)) x h = stC n o 5 x h := nr rfl
@[go_sem] theorem za_31 {nm : Nat} : (Γ 31).map (fun t => (Value.pointer (some ⟨nm, 0, none⟩), ({ cells := t.zero, rw := true } : Blk))) = some (.pointer (some ⟨nm, 0, none⟩), { cells := [Value.int IntKind.i64 0, Value.int IntKind.i64 0, Value.int IntKind.i64 0, Value.int IntKind.i64 0, Value.int IntKind.i64 0], rw := true }) := nr rfl
@[go_sem] theorem es_33 : es Γ 33 = some 5 := nr rfl
@[go_sem] theorem st_33 : isStr Γ 33 = some false := nr rfl
theorem mk_33 {nm n : Nat} {kk k' : IntKind} (hn : n < 4294967296) : mkO Γ nm 33 (.int kk (n : Int)) (.int k' (n : Int)) = some (.slice (some ⟨nm, 0, none⟩) n (U 5), { cells := repZ [Value.int IntKind.i64 0, Value.int IntKind.i64 0, Value.int IntKind.i64 0, Value.int IntKind.i64 0, Value.int IntKind.i64 0] n, rw := true }) := mkO_ok (i1 := ti38) rfl rfl (by decide) rfl (by decide) hn
theorem bs_33 {C : Rel} {D : DrawR} {Q : Ex → S → Prop} {k : List Fr} {s : S} {base i : Nat} {l : List POp} {d : Option Nat} {len : Nat} {parts : Array (Nat × Operand)} : OpG Γ E C D Q base i (⟨d, none, .buildSlice 33 len parts⟩ :: l) k s = OpK Γ E C D Q base (i + 1) l k s d (base + i) (bsO (base + i) 5 [Value.int IntKind.i64 0, Value.int IntKind.i64 0, Value.int IntKind.i64 0, Value.int IntKind.i64 0, Value.int IntKind.i64 0] len (parts.toList.map fun p => (p.1, s.ev p.2))) := op_bs (i1 := ti38) rfl rfl rfl (by decide) rfl
theorem ap_33 {nm : Nat} {x y : Value} {h : Hp} : appendV Γ nm 33 33 x y h = apO 5 nm x h (apT 5 y h) := append_eq (i1 := ti38) rfl rfl (by decide) rfl (by decide) (by decide) rfl
attribute [go_sem] mk_33 bs_33 ap_33
@[go_sem] theorem nn_33 {a : Option Addr} {n c : Nat} : binV Γ E .neq 33 (.slice a n c) (.slice none 0 0) = some (.bool (!a.isNone)) := nr rfl
@[go_sem] theorem en_33 {a : Option Addr} {n c : Nat} : binV Γ E .eql 33 (.slice a n c) (.slice none 0 0) = some (.bool a.isNone) := nr rfl
@[go_sem] theorem ld_33 {n o : Nat} {h : Hp} : ldv Γ 33 (.pointer (some ⟨n, o, none⟩)) h = h.cell n o := nr rfl
@[go_sem] theorem sv_33 {n o : Nat} {x : Value} {h : Hp} : stv Γ 33 (.pointer (some ⟨n, o, none⟩)) x h = stC n o 1 x h := nr rfl
@[go_sem] theorem za_33 {nm : Nat} : (Γ 33).map (fun t => (Value.pointer (some ⟨nm, 0, none⟩), ({ cells := t.zero, rw := true } : Blk))) = some (.pointer (some ⟨nm, 0, none⟩), { cells := [Value.slice none 0 0], rw := true }) := nr rfl
@[go_sem] theorem ld_38 {n o : Nat} {h : Hp} : ldv Γ 38 (.pointer (some ⟨n, o, none⟩)) h = (h.cells n o 5).map fun cs => .agg cs.toArray := nr rfl
@[go_sem] theorem sv_38 {n o : Nat} {x : Value} {h : Hp} : stv Γ 38 (.pointer (some ⟨n, o, none⟩)) x h = stC n o 5 x h := nr rfl
@[go_sem] theorem za_38 {nm : Nat} : (Γ 38).map (fun t => (Value.pointer (some ⟨nm, 0, none⟩), ({ cells := t.zero, rw := true } : Blk))) = some (.pointer (some ⟨nm, 0, none⟩), { cells := [Value.int IntKind.i64 0, Value.int IntKind.i64 0, Value.int IntKind.i64 0, Value.int IntKind.i64 0, Value.int IntKind.i64 0], rw := true }) := nr rfl
@[go_sem] theorem es_41 : es Γ 41 = some 1 := nr rfl
@[go_sem] theorem st_41 : isStr Γ 41 = some false := nr rfl
theorem mk_41 {nm n : Nat} {kk k' : IntKind} (hn : n < 4294967296) : mkO Γ nm 41 (.int kk (n : Int)) (.int k' (n : Int)) = some (.slice (some ⟨nm, 0, none⟩) n (U 1), { cells := repZ [Value.int IntKind.i64 0] n, rw := true }) := mkO_ok (i1 := ti3) rfl rfl (by decide) rfl (by decide) hn
theorem bs_41 {C : Rel} {D : DrawR} {Q : Ex → S → Prop} {k : List Fr} {s : S} {base i : Nat} {l : List POp} {d : Option Nat} {len : Nat} {parts : Array (Nat × Operand)} : OpG Γ E C D Q base i (⟨d, none, .buildSlice 41 len parts⟩ :: l) k s = OpK Γ E C D Q base (i + 1) l k s d (base + i) (bsO (base + i) 1 [Value.int IntKind.i64 0] len (parts.toList.map fun p => (p.1, s.ev p.2))) := op_bs (i1 := ti3) rfl rfl rfl (by decide) rfl
theorem ap_41 {nm : Nat} {x y : Value} {h : Hp} : appendV Γ nm 41 41 x y h = apO 1 nm x h (apT 1 y h) := append_eq (i1 := ti3) rfl rfl (by decide) rfl (by decide) (by decide) rfl
attribute [go_sem] mk_41 bs_41 ap_41
@[go_sem] theorem nn_41 {a : Option Addr} {n c : Nat} : binV Γ E .neq 41 (.slice a n c) (.slice none 0 0) = some (.bool (!a.isNone)) := nr rfl
@[go_sem] theorem en_41 {a : Option Addr} {n c : Nat} : binV Γ E .eql 41 (.slice a n c) (.slice none 0 0) = some (.bool a.isNone) := nr rfl
@[go_sem] theorem ld_41 {n o : Nat} {h : Hp} : ldv Γ 41 (.pointer (some ⟨n, o, none⟩)) h = h.cell n o := nr rfl
@[go_sem] theorem sv_41 {n o : Nat} {x : Value} {h : Hp} : stv Γ 41 (.pointer (some ⟨n, o, none⟩)) x h = stC n o 1 x h := nr rfl
@[go_sem] theorem za_41 {nm : Nat} : (Γ 41).map (fun t => (Value.pointer (some ⟨nm, 0, none⟩), ({ cells := t.zero, rw := true } : Blk))) = some (.pointer (some ⟨nm, 0, none⟩), { cells := [Value.slice none 0 0], rw := true }) := nr rfl
@[go_sem] theorem ld_75 {n o : Nat} {h : Hp} : ldv Γ 75 (.pointer (some ⟨n, o, none⟩)) h = h.cell n o := nr rfl
@[go_sem] theorem sv_75 {n o : Nat} {x : Value} {h : Hp} : stv Γ 75 (.pointer (some ⟨n, o, none⟩)) x h = stC n o 1 x h := nr rfl
@[go_sem] theorem za_75 {nm : Nat} : (Γ 75).map (fun t => (Value.pointer (some ⟨nm, 0, none⟩), ({ cells := t.zero, rw := true } : Blk))) = some (.pointer (some ⟨nm, 0, none⟩), { cells := [Value.pointer none], rw := true }) := nr rfl
@[go_sem] theorem ld_161 {n o : Nat} {h : Hp} : ldv Γ 161 (.pointer (some ⟨n, o, none⟩)) h = (h.cells n o 3).map fun cs => .agg cs.toArray := nr rfl
@[go_sem] theorem sv_161 {n o : Nat} {x : Value} {h : Hp} : stv Γ 161 (.pointer (some ⟨n, o, none⟩)) x h = stC n o 3 x h := nr rfl
@[go_sem] theorem za_161 {nm : Nat} : (Γ 161).map (fun t => (Value.pointer (some ⟨nm, 0, none⟩), ({ cells := t.zero, rw := true } : Blk))) = some (.pointer (some ⟨nm, 0, none⟩), { cells := [Value.slice none 0 0, Value.int IntKind.i64 0, Value.int IntKind.i64 0], rw := true }) := nr rfl
@[go_sem] theorem cv_5_3 {C : Rel} {D : DrawR} {Q : Ex → S → Prop} {k : List Fr} {s : S} {base i : Nat} {l : List POp} {d : Option Nat} {x : Operand} : OpG Γ E C D Q base i (⟨d, none, .convert 5 3 x⟩ :: l) k s = OpV Γ E C D Q base (i + 1) l k s d (cvI .i64 (s.ev x)) := op_cvI rfl rfl
@[go_sem] theorem cv_9_22 {C : Rel} {D : DrawR} {Q : Ex → S → Prop} {k : List Fr} {s : S} {base i : Nat} {l : List POp} {d : Option Nat} {x : Operand} : OpG Γ E C D Q base i (⟨d, none, .convert 9 22 x⟩ :: l) k s = OpK Γ E C D Q base (i + 1) l k s d (base + i) (cvB (base + i) (s.ev x)) := op_cvB rfl rfl rfl
def F_laws_FnEmitIns : FuncId := 4
def F_laws_big : FuncId := 12
def F_spec_DrawEmitIns : FuncId := 19
def F_impl_EmitIns : FuncId := 20
def F_laws_sameSteps : FuncId := 21
def F_spec_EmitIns : FuncId := 22
def F_impl_StepOk : FuncId := 23
def F_impl_InsDef : FuncId := 24
def F_spec_l1New : FuncId := 57
def F_spec_l1Once : FuncId := 58
def F_spec_l1PickInt : FuncId := 59
def F_spec_l1In : FuncId := 61
def F_impl_in : FuncId := 62
def F_spec_l1Below : FuncId := 63
def F_spec_l1Byte : FuncId := 64
def F_spec_l2DrawIns : FuncId := 65
def F_impl_homed : FuncId := 66
def F_impl_emitCopy : FuncId := 67
def F_impl_has : FuncId := 68
def F_impl_taken : FuncId := 69
def F_impl_stepOf : FuncId := 70
def F_spec_InsUses : FuncId := 71
def F_spec_l15Home : FuncId := 72
def F_spec_l2Makes : FuncId := 73
def F_spec_l15Take : FuncId := 74
def F_spec_l15Give : FuncId := 75
def F_spec_l15Copy : FuncId := 76
def F_spec_WordOk : FuncId := 77
def F_impl_stepForm : FuncId := 78
def F_impl_stepPart : FuncId := 79
def F_slices_Contains_byte : FuncId := 80
def F_impl_formOf : FuncId := 114
def F_impl_isHome : FuncId := 115
def F_impl_WordOk : FuncId := 116
def F_slices_Index_byte : FuncId := 117
noncomputable def F : FuncId → Option Func
  | 4 => some Try.f4
  | 12 => some Try.f12
  | 19 => some Try.f19
  | 20 => some Try.f20
  | 21 => some Try.f21
  | 22 => some Try.f22
  | 23 => some Try.f23
  | 24 => some Try.f24
  | 57 => some Try.f57
  | 58 => some Try.f58
  | 59 => some Try.f59
  | 61 => some Try.f61
  | 62 => some Try.f62
  | 63 => some Try.f63
  | 64 => some Try.f64
  | 65 => some Try.f65
  | 66 => some Try.f66
  | 67 => some Try.f67
  | 68 => some Try.f68
  | 69 => some Try.f69
  | 70 => some Try.f70
  | 71 => some Try.f71
  | 72 => some Try.f72
  | 73 => some Try.f73
  | 74 => some Try.f74
  | 75 => some Try.f75
  | 76 => some Try.f76
  | 77 => some Try.f77
  | 78 => some Try.f78
  | 79 => some Try.f79
  | 80 => some Try.f80
  | 114 => some Try.f114
  | 115 => some Try.f115
  | 116 => some Try.f116
  | 117 => some Try.f117
  | _ => none
theorem fok : FOk Try.prog F := by
  intro f fn h
  unfold F at h
  split at h
  · injection h with h; subst h; exact ⟨Try.func4, by kernel_rfl, _, rfl, by kernel_rfl, by kernel_rfl⟩
  · injection h with h; subst h; exact ⟨Try.func12, by kernel_rfl, _, rfl, by kernel_rfl, by kernel_rfl⟩
  · injection h with h; subst h; exact ⟨Try.func19, by kernel_rfl, _, rfl, by kernel_rfl, by kernel_rfl⟩
  · injection h with h; subst h; exact ⟨Try.func20, by kernel_rfl, _, rfl, by kernel_rfl, by kernel_rfl⟩
  · injection h with h; subst h; exact ⟨Try.func21, by kernel_rfl, _, rfl, by kernel_rfl, by kernel_rfl⟩
  · injection h with h; subst h; exact ⟨Try.func22, by kernel_rfl, _, rfl, by kernel_rfl, by kernel_rfl⟩
  · injection h with h; subst h; exact ⟨Try.func23, by kernel_rfl, _, rfl, by kernel_rfl, by kernel_rfl⟩
  · injection h with h; subst h; exact ⟨Try.func24, by kernel_rfl, _, rfl, by kernel_rfl, by kernel_rfl⟩
  · injection h with h; subst h; exact ⟨Try.func57, by kernel_rfl, _, rfl, by kernel_rfl, by kernel_rfl⟩
  · injection h with h; subst h; exact ⟨Try.func58, by kernel_rfl, _, rfl, by kernel_rfl, by kernel_rfl⟩
  · injection h with h; subst h; exact ⟨Try.func59, by kernel_rfl, _, rfl, by kernel_rfl, by kernel_rfl⟩
  · injection h with h; subst h; exact ⟨Try.func61, by kernel_rfl, _, rfl, by kernel_rfl, by kernel_rfl⟩
  · injection h with h; subst h; exact ⟨Try.func62, by kernel_rfl, _, rfl, by kernel_rfl, by kernel_rfl⟩
  · injection h with h; subst h; exact ⟨Try.func63, by kernel_rfl, _, rfl, by kernel_rfl, by kernel_rfl⟩
  · injection h with h; subst h; exact ⟨Try.func64, by kernel_rfl, _, rfl, by kernel_rfl, by kernel_rfl⟩
  · injection h with h; subst h; exact ⟨Try.func65, by kernel_rfl, _, rfl, by kernel_rfl, by kernel_rfl⟩
  · injection h with h; subst h; exact ⟨Try.func66, by kernel_rfl, _, rfl, by kernel_rfl, by kernel_rfl⟩
  · injection h with h; subst h; exact ⟨Try.func67, by kernel_rfl, _, rfl, by kernel_rfl, by kernel_rfl⟩
  · injection h with h; subst h; exact ⟨Try.func68, by kernel_rfl, _, rfl, by kernel_rfl, by kernel_rfl⟩
  · injection h with h; subst h; exact ⟨Try.func69, by kernel_rfl, _, rfl, by kernel_rfl, by kernel_rfl⟩
  · injection h with h; subst h; exact ⟨Try.func70, by kernel_rfl, _, rfl, by kernel_rfl, by kernel_rfl⟩
  · injection h with h; subst h; exact ⟨Try.func71, by kernel_rfl, _, rfl, by kernel_rfl, by kernel_rfl⟩
  · injection h with h; subst h; exact ⟨Try.func72, by kernel_rfl, _, rfl, by kernel_rfl, by kernel_rfl⟩
  · injection h with h; subst h; exact ⟨Try.func73, by kernel_rfl, _, rfl, by kernel_rfl, by kernel_rfl⟩
  · injection h with h; subst h; exact ⟨Try.func74, by kernel_rfl, _, rfl, by kernel_rfl, by kernel_rfl⟩
  · injection h with h; subst h; exact ⟨Try.func75, by kernel_rfl, _, rfl, by kernel_rfl, by kernel_rfl⟩
  · injection h with h; subst h; exact ⟨Try.func76, by kernel_rfl, _, rfl, by kernel_rfl, by kernel_rfl⟩
  · injection h with h; subst h; exact ⟨Try.func77, by kernel_rfl, _, rfl, by kernel_rfl, by kernel_rfl⟩
  · injection h with h; subst h; exact ⟨Try.func78, by kernel_rfl, _, rfl, by kernel_rfl, by kernel_rfl⟩
  · injection h with h; subst h; exact ⟨Try.func79, by kernel_rfl, _, rfl, by kernel_rfl, by kernel_rfl⟩
  · injection h with h; subst h; exact ⟨Try.func80, by kernel_rfl, _, rfl, by kernel_rfl, by kernel_rfl⟩
  · injection h with h; subst h; exact ⟨Try.func114, by kernel_rfl, _, rfl, by kernel_rfl, by kernel_rfl⟩
  · injection h with h; subst h; exact ⟨Try.func115, by kernel_rfl, _, rfl, by kernel_rfl, by kernel_rfl⟩
  · injection h with h; subst h; exact ⟨Try.func116, by kernel_rfl, _, rfl, by kernel_rfl, by kernel_rfl⟩
  · injection h with h; subst h; exact ⟨Try.func117, by kernel_rfl, _, rfl, by kernel_rfl, by kernel_rfl⟩
  · cases h
noncomputable def X0 : Rel := fun _ _ _ _ _ => False
abbrev CC : Rel := Call Γ E F X0 (Draw Γ E)
/-- What region of open order is meant. -/
abbrev DD : DrawR := Draw Γ E CC 0
abbrev OpEq (C : Rel) (D : DrawR) (l l' : List POp) : Prop := ∀ (Q : Ex → S → Prop) (b i : Nat) (k : List Fr) (s : S), OpG Γ E C D Q b i l k s = OpG Γ E C D Q b i l' k s
theorem opEq {C : Rel} {D : DrawR} {l l' : List POp} (h : l = l') : OpEq C D l l' := fun _ _ _ _ _ => by rw [h]
abbrev GoEq (C : Rel) (D : DrawR) (c c' : PC) : Prop := ∀ (Q : Ex → S → Prop) (k : List Fr) (s : S), Go Γ E C D Q c k s = Go Γ E C D Q c' k s
theorem goEq {C : Rel} {D : DrawR} {c c' : PC} (h : c = c') : GoEq C D c c' := fun _ _ _ => by rw [h]
end Go.Proofs.YtgbaininmgdnoaaM
