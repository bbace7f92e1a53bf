import Derived.Test.YtbgaljpilmmefaaV1MiN
import Derived.Test.YtbgaljpilmmefaaChecked
import Derived.KernelRfl
/- The tables of the small machine for this program: its types and its functions, and that the program has them so. -/
namespace Go.Proofs.YtbgaljpilmmefaaM
open Go
set_option linter.unusedVariables false
set_option maxRecDepth 100000
noncomputable def ti3 : TI := ⟨.int .i64, 1, 8, [Value.int IntKind.i64 0]⟩
noncomputable def ti4 : TI := ⟨.bool, 1, 1, [Value.bool false]⟩
noncomputable def ti5 : TI := ⟨.int .u8, 1, 1, [Value.int IntKind.u8 0]⟩
noncomputable def ti9 : TI := ⟨.str, 1, 16, [Value.string ByteArray.empty]⟩
noncomputable def ti25 : TI := ⟨.struct [(0, 3), (1, 3), (2, 3), (3, 3), (4, 3)], 5, 40, [Value.int IntKind.i64 0, Value.int IntKind.i64 0, Value.int IntKind.i64 0, Value.int IntKind.i64 0, Value.int IntKind.i64 0]⟩
noncomputable def ti28 : TI := ⟨.slice 5, 1, 24, [Value.slice none 0 0]⟩
noncomputable def ti39 : TI := ⟨.slice 25, 1, 24, [Value.slice none 0 0]⟩
noncomputable def ti47 : TI := ⟨.struct [(0, 3), (1, 3), (2, 3), (3, 3), (4, 3)], 5, 40, [Value.int IntKind.i64 0, Value.int IntKind.i64 0, Value.int IntKind.i64 0, Value.int IntKind.i64 0, Value.int IntKind.i64 0]⟩
noncomputable def ti49 : TI := ⟨.struct [(0, 3), (1, 3), (2, 3), (3, 3), (4, 3)], 5, 40, [Value.int IntKind.i64 0, Value.int IntKind.i64 0, Value.int IntKind.i64 0, Value.int IntKind.i64 0, Value.int IntKind.i64 0]⟩
noncomputable def ti56 : TI := ⟨.slice 3, 1, 24, [Value.slice none 0 0]⟩
noncomputable def Γ : TypeId → Option TI
  | 3 => some ti3
  | 4 => some ti4
  | 5 => some ti5
  | 9 => some ti9
  | 25 => some ti25
  | 28 => some ti28
  | 39 => some ti39
  | 47 => some ti47
  | 49 => some ti49
  | 56 => some ti56
  | _ => none
def E : TypeId → Nat
  | _ => 0
theorem Γ_cases {t : TypeId} {i : TI} (h : Γ t = some i) : (t = 3 ∧ i = ti3) ∨ (t = 4 ∧ i = ti4) ∨ (t = 5 ∧ i = ti5) ∨ (t = 9 ∧ i = ti9) ∨ (t = 25 ∧ i = ti25) ∨ (t = 28 ∧ i = ti28) ∨ (t = 39 ∧ i = ti39) ∨ (t = 47 ∧ i = ti47) ∨ (t = 49 ∧ i = ti49) ∨ (t = 56 ∧ i = ti56) := by
  unfold Γ at h
  split at h <;> first | (injection h with h; subst h; simp) | cases h
/-- One row of the table. -/
theorem row_ok {t : TypeId} {i : TI} {d : TypeDesc} (h : (Try.prog.info? t).map (fun x => (x.size, x.bytes, x.zero.map fun z => z.cells)) = some (i.size, i.bytes, some i.zero.toArray)) (hp : i.zero.all plainV = true) (hu : Try.prog.underlying t = some d) (hs : ShOk d i.sh) :
    ∃ inf, Try.prog.info? t = some inf ∧ inf.size = i.size ∧ inf.bytes = i.bytes ∧ (∃ z, inf.zero = some z ∧ z.cells = i.zero.toArray) ∧ (∀ v ∈ i.zero, plainV v = true) ∧ ∃ d, Try.prog.underlying t = some d ∧ ShOk d i.sh := by
  obtain ⟨inf, h1, h2⟩ := Option.map_eq_some_iff.1 h
  injection h2 with h2 h3
  injection h3 with h3 h4
  obtain ⟨z, h5, h6⟩ := Option.map_eq_some_iff.1 h4
  exact ⟨inf, h1, h2, h3, ⟨z, h5, h6⟩, fun v hv => List.all_eq_true.1 hp v hv, d, hu, hs⟩
theorem row3 : ∃ inf, Try.prog.info? 3 = some inf ∧ inf.size = ti3.size ∧ inf.bytes = ti3.bytes ∧ (∃ z, inf.zero = some z ∧ z.cells = ti3.zero.toArray) ∧ (∀ v ∈ ti3.zero, plainV v = true) ∧ ∃ d, Try.prog.underlying 3 = some d ∧ ShOk d ti3.sh :=
  row_ok (by kernel_rfl) rfl Try.underlying3 rfl
theorem row4 : ∃ inf, Try.prog.info? 4 = some inf ∧ inf.size = ti4.size ∧ inf.bytes = ti4.bytes ∧ (∃ z, inf.zero = some z ∧ z.cells = ti4.zero.toArray) ∧ (∀ v ∈ ti4.zero, plainV v = true) ∧ ∃ d, Try.prog.underlying 4 = some d ∧ ShOk d ti4.sh :=
  row_ok (by kernel_rfl) rfl Try.underlying4 rfl
theorem row5 : ∃ inf, Try.prog.info? 5 = some inf ∧ inf.size = ti5.size ∧ inf.bytes = ti5.bytes ∧ (∃ z, inf.zero = some z ∧ z.cells = ti5.zero.toArray) ∧ (∀ v ∈ ti5.zero, plainV v = true) ∧ ∃ d, Try.prog.underlying 5 = some d ∧ ShOk d ti5.sh :=
  row_ok (by kernel_rfl) rfl Try.underlying5 rfl
theorem row9 : ∃ inf, Try.prog.info? 9 = some inf ∧ inf.size = ti9.size ∧ inf.bytes = ti9.bytes ∧ (∃ z, inf.zero = some z ∧ z.cells = ti9.zero.toArray) ∧ (∀ v ∈ ti9.zero, plainV v = true) ∧ ∃ d, Try.prog.underlying 9 = some d ∧ ShOk d ti9.sh :=
  row_ok (by kernel_rfl) rfl Try.underlying9 rfl
theorem row25 : ∃ inf, Try.prog.info? 25 = some inf ∧ inf.size = ti25.size ∧ inf.bytes = ti25.bytes ∧ (∃ z, inf.zero = some z ∧ z.cells = ti25.zero.toArray) ∧ (∀ v ∈ ti25.zero, plainV v = true) ∧ ∃ d, Try.prog.underlying 25 = some d ∧ ShOk d ti25.sh :=
  row_ok (by kernel_rfl) rfl Try.underlying25 ⟨_, rfl, rfl⟩
theorem row28 : ∃ inf, Try.prog.info? 28 = some inf ∧ inf.size = ti28.size ∧ inf.bytes = ti28.bytes ∧ (∃ z, inf.zero = some z ∧ z.cells = ti28.zero.toArray) ∧ (∀ v ∈ ti28.zero, plainV v = true) ∧ ∃ d, Try.prog.underlying 28 = some d ∧ ShOk d ti28.sh :=
  row_ok (by kernel_rfl) rfl Try.underlying28 rfl
theorem row39 : ∃ inf, Try.prog.info? 39 = some inf ∧ inf.size = ti39.size ∧ inf.bytes = ti39.bytes ∧ (∃ z, inf.zero = some z ∧ z.cells = ti39.zero.toArray) ∧ (∀ v ∈ ti39.zero, plainV v = true) ∧ ∃ d, Try.prog.underlying 39 = some d ∧ ShOk d ti39.sh :=
  row_ok (by kernel_rfl) rfl Try.underlying39 rfl
theorem row47 : ∃ inf, Try.prog.info? 47 = some inf ∧ inf.size = ti47.size ∧ inf.bytes = ti47.bytes ∧ (∃ z, inf.zero = some z ∧ z.cells = ti47.zero.toArray) ∧ (∀ v ∈ ti47.zero, plainV v = true) ∧ ∃ d, Try.prog.underlying 47 = some d ∧ ShOk d ti47.sh :=
  row_ok (by kernel_rfl) rfl Try.underlying47 ⟨_, rfl, rfl⟩
theorem row49 : ∃ inf, Try.prog.info? 49 = some inf ∧ inf.size = ti49.size ∧ inf.bytes = ti49.bytes ∧ (∃ z, inf.zero = some z ∧ z.cells = ti49.zero.toArray) ∧ (∀ v ∈ ti49.zero, plainV v = true) ∧ ∃ d, Try.prog.underlying 49 = some d ∧ ShOk d ti49.sh :=
  row_ok (by kernel_rfl) rfl Try.underlying49 ⟨_, rfl, rfl⟩
theorem row56 : ∃ inf, Try.prog.info? 56 = some inf ∧ inf.size = ti56.size ∧ inf.bytes = ti56.bytes ∧ (∃ z, inf.zero = some z ∧ z.cells = ti56.zero.toArray) ∧ (∀ v ∈ ti56.zero, plainV v = true) ∧ ∃ d, Try.prog.underlying 56 = some d ∧ ShOk d ti56.sh :=
  row_ok (by kernel_rfl) rfl Try.underlying56 rfl
theorem know_ty : ∀ t i, Γ t = some i → ∃ inf, Try.prog.info? t = some inf ∧ inf.size = i.size ∧ inf.bytes = i.bytes ∧ (∃ z, inf.zero = some z ∧ z.cells = i.zero.toArray) ∧ (∀ v ∈ i.zero, plainV v = true) ∧ ∃ d, Try.prog.underlying t = some d ∧ ShOk d i.sh := by
  intro t i h
  unfold Γ at h
  split at h
  · injection h with h; subst h; exact row3
  · injection h with h; subst h; exact row4
  · injection h with h; subst h; exact row5
  · injection h with h; subst h; exact row9
  · injection h with h; subst h; exact row25
  · injection h with h; subst h; exact row28
  · injection h with h; subst h; exact row39
  · injection h with h; subst h; exact row47
  · injection h with h; subst h; exact row49
  · injection h with h; subst h; exact row56
  · cases h
theorem know : Know Try.prog Γ E := ⟨know_ty, fun t h => absurd rfl h, fun t h => absurd rfl h, by kernel_rfl⟩
@[go_sem] theorem fa_25_0 : fa Γ 25 0 = some 0 := nr rfl
@[go_sem] theorem fa_25_1 : fa Γ 25 1 = some 1 := nr rfl
@[go_sem] theorem fa_25_2 : fa Γ 25 2 = some 2 := nr rfl
@[go_sem] theorem fa_25_3 : fa Γ 25 3 = some 3 := nr rfl
@[go_sem] theorem fa_25_4 : fa Γ 25 4 = some 4 := nr rfl
@[go_sem] theorem fa_47_0 : fa Γ 47 0 = some 0 := nr rfl
@[go_sem] theorem fa_47_1 : fa Γ 47 1 = some 1 := nr rfl
@[go_sem] theorem fa_47_2 : fa Γ 47 2 = some 2 := nr rfl
@[go_sem] theorem fa_47_3 : fa Γ 47 3 = some 3 := nr rfl
@[go_sem] theorem fa_47_4 : fa Γ 47 4 = some 4 := nr rfl
@[go_sem] theorem fa_49_0 : fa Γ 49 0 = some 0 := nr rfl
@[go_sem] theorem fa_49_1 : fa Γ 49 1 = some 1 := nr rfl
@[go_sem] theorem fa_49_2 : fa Γ 49 2 = some 2 := nr rfl
@[go_sem] theorem fa_49_3 : fa Γ 49 3 = some 3 := nr rfl
@[go_sem] theorem fa_49_4 : fa Γ 49 4 = some 4 := nr rfl
@[go_sem] theorem ld_3 {n o : Nat} {h : Hp} : ldv Γ 3 (.pointer (some ⟨n, o, none⟩)) h = h.cell n o := nr rfl
@[go_sem] theorem sv_3 {n o : Nat} {x : Value} {h : Hp} : stv Γ 3 (.pointer (some ⟨n, o, none⟩)) x h = stC n o 1 x h := nr rfl
@[go_sem] theorem za_3 {nm : Nat} : (Γ 3).map (fun t => (Value.pointer (some ⟨nm, 0, none⟩), ({ cells := t.zero, rw := true } : Blk))) = some (.pointer (some ⟨nm, 0, none⟩), { cells := [Value.int IntKind.i64 0], rw := true }) := nr rfl
@[go_sem] theorem nb_4 {a b : Bool} : binV Γ E .neq 4 (.bool a) (.bool b) = some (.bool (!(a == b))) := nr rfl
@[go_sem] theorem eb_4 {a b : Bool} : binV Γ E .eql 4 (.bool a) (.bool b) = some (.bool (a == b)) := nr rfl
@[go_sem] theorem ld_4 {n o : Nat} {h : Hp} : ldv Γ 4 (.pointer (some ⟨n, o, none⟩)) h = h.cell n o := nr rfl
@[go_sem] theorem sv_4 {n o : Nat} {x : Value} {h : Hp} : stv Γ 4 (.pointer (some ⟨n, o, none⟩)) x h = stC n o 1 x h := nr rfl
@[go_sem] theorem za_4 {nm : Nat} : (Γ 4).map (fun t => (Value.pointer (some ⟨nm, 0, none⟩), ({ cells := t.zero, rw := true } : Blk))) = some (.pointer (some ⟨nm, 0, none⟩), { cells := [Value.bool false], rw := true }) := nr rfl
@[go_sem] theorem ld_5 {n o : Nat} {h : Hp} : ldv Γ 5 (.pointer (some ⟨n, o, none⟩)) h = h.cell n o := nr rfl
@[go_sem] theorem sv_5 {n o : Nat} {x : Value} {h : Hp} : stv Γ 5 (.pointer (some ⟨n, o, none⟩)) x h = stC n o 1 x h := nr rfl
@[go_sem] theorem za_5 {nm : Nat} : (Γ 5).map (fun t => (Value.pointer (some ⟨nm, 0, none⟩), ({ cells := t.zero, rw := true } : Blk))) = some (.pointer (some ⟨nm, 0, none⟩), { cells := [Value.int IntKind.u8 0], rw := true }) := nr rfl
@[go_sem] theorem st_9 : isStr Γ 9 = some true := nr rfl
@[go_sem] theorem ld_9 {n o : Nat} {h : Hp} : ldv Γ 9 (.pointer (some ⟨n, o, none⟩)) h = h.cell n o := nr rfl
@[go_sem] theorem sv_9 {n o : Nat} {x : Value} {h : Hp} : stv Γ 9 (.pointer (some ⟨n, o, none⟩)) x h = stC n o 1 x h := nr rfl
@[go_sem] theorem za_9 {nm : Nat} : (Γ 9).map (fun t => (Value.pointer (some ⟨nm, 0, none⟩), ({ cells := t.zero, rw := true } : Blk))) = some (.pointer (some ⟨nm, 0, none⟩), { cells := [Value.string ByteArray.empty], rw := true }) := nr rfl
@[go_sem] theorem ld_25 {n o : Nat} {h : Hp} : ldv Γ 25 (.pointer (some ⟨n, o, none⟩)) h = (h.cells n o 5).map fun cs => .agg cs.toArray := nr rfl
@[go_sem] theorem sv_25 {n o : Nat} {x : Value} {h : Hp} : stv Γ 25 (.pointer (some ⟨n, o, none⟩)) x h = stC n o 5 x h := nr rfl
@[go_sem] theorem za_25 {nm : Nat} : (Γ 25).map (fun t => (Value.pointer (some ⟨nm, 0, none⟩), ({ cells := t.zero, rw := true } : Blk))) = some (.pointer (some ⟨nm, 0, none⟩), { cells := [Value.int IntKind.i64 0, Value.int IntKind.i64 0, Value.int IntKind.i64 0, Value.int IntKind.i64 0, Value.int IntKind.i64 0], rw := true }) := nr rfl
@[go_sem] theorem es_28 : es Γ 28 = some 1 := nr rfl
@[go_sem] theorem st_28 : isStr Γ 28 = some false := nr rfl
theorem mk_28 {nm n : Nat} {kk k' : IntKind} (hn : n < 4294967296) : mkO Γ nm 28 (.int kk (n : Int)) (.int k' (n : Int)) = some (.slice (some ⟨nm, 0, none⟩) n (U 1), { cells := repZ [Value.int IntKind.u8 0] n, rw := true }) := mkO_ok (i1 := ti5) rfl rfl (by decide) rfl (by decide) hn
theorem bs_28 {C : Rel} {D : DrawR} {Q : Ex → S → Prop} {k : List Fr} {s : S} {base i : Nat} {l : List POp} {d : Option Nat} {len : Nat} {parts : Array (Nat × Operand)} : OpG Γ E C D Q base i (⟨d, none, .buildSlice 28 len parts⟩ :: l) k s = OpK Γ E C D Q base (i + 1) l k s d (base + i) (bsO (base + i) 1 [Value.int IntKind.u8 0] len (parts.toList.map fun p => (p.1, s.ev p.2))) := op_bs (i1 := ti5) rfl rfl rfl (by decide) rfl
theorem ap_28 {nm : Nat} {x y : Value} {h : Hp} : appendV Γ nm 28 28 x y h = apO 1 nm x h (apT 1 y h) := append_eq (i1 := ti5) rfl rfl (by decide) rfl (by decide) (by decide) rfl
attribute [go_sem] mk_28 bs_28 ap_28
@[go_sem] theorem nn_28 {a : Option Addr} {n c : Nat} : binV Γ E .neq 28 (.slice a n c) (.slice none 0 0) = some (.bool (!a.isNone)) := nr rfl
@[go_sem] theorem en_28 {a : Option Addr} {n c : Nat} : binV Γ E .eql 28 (.slice a n c) (.slice none 0 0) = some (.bool a.isNone) := nr rfl
@[go_sem] theorem ld_28 {n o : Nat} {h : Hp} : ldv Γ 28 (.pointer (some ⟨n, o, none⟩)) h = h.cell n o := nr rfl
@[go_sem] theorem sv_28 {n o : Nat} {x : Value} {h : Hp} : stv Γ 28 (.pointer (some ⟨n, o, none⟩)) x h = stC n o 1 x h := nr rfl
@[go_sem] theorem za_28 {nm : Nat} : (Γ 28).map (fun t => (Value.pointer (some ⟨nm, 0, none⟩), ({ cells := t.zero, rw := true } : Blk))) = some (.pointer (some ⟨nm, 0, none⟩), { cells := [Value.slice none 0 0], rw := true }) := nr rfl
@[go_sem] theorem es_39 : es Γ 39 = some 5 := nr rfl
@[go_sem] theorem st_39 : isStr Γ 39 = some false := nr rfl
theorem mk_39 {nm n : Nat} {kk k' : IntKind} (hn : n < 4294967296) : mkO Γ nm 39 (.int kk (n : Int)) (.int k' (n : Int)) = some (.slice (some ⟨nm, 0, none⟩) n (U 5), { cells := repZ [Value.int IntKind.i64 0, Value.int IntKind.i64 0, Value.int IntKind.i64 0, Value.int IntKind.i64 0, Value.int IntKind.i64 0] n, rw := true }) := mkO_ok (i1 := ti25) rfl rfl (by decide) rfl (by decide) hn
theorem bs_39 {C : Rel} {D : DrawR} {Q : Ex → S → Prop} {k : List Fr} {s : S} {base i : Nat} {l : List POp} {d : Option Nat} {len : Nat} {parts : Array (Nat × Operand)} : OpG Γ E C D Q base i (⟨d, none, .buildSlice 39 len parts⟩ :: l) k s = OpK Γ E C D Q base (i + 1) l k s d (base + i) (bsO (base + i) 5 [Value.int IntKind.i64 0, Value.int IntKind.i64 0, Value.int IntKind.i64 0, Value.int IntKind.i64 0, Value.int IntKind.i64 0] len (parts.toList.map fun p => (p.1, s.ev p.2))) := op_bs (i1 := ti25) rfl rfl rfl (by decide) rfl
theorem ap_39 {nm : Nat} {x y : Value} {h : Hp} : appendV Γ nm 39 39 x y h = apO 5 nm x h (apT 5 y h) := append_eq (i1 := ti25) rfl rfl (by decide) rfl (by decide) (by decide) rfl
attribute [go_sem] mk_39 bs_39 ap_39
@[go_sem] theorem nn_39 {a : Option Addr} {n c : Nat} : binV Γ E .neq 39 (.slice a n c) (.slice none 0 0) = some (.bool (!a.isNone)) := nr rfl
@[go_sem] theorem en_39 {a : Option Addr} {n c : Nat} : binV Γ E .eql 39 (.slice a n c) (.slice none 0 0) = some (.bool a.isNone) := nr rfl
@[go_sem] theorem ld_39 {n o : Nat} {h : Hp} : ldv Γ 39 (.pointer (some ⟨n, o, none⟩)) h = h.cell n o := nr rfl
@[go_sem] theorem sv_39 {n o : Nat} {x : Value} {h : Hp} : stv Γ 39 (.pointer (some ⟨n, o, none⟩)) x h = stC n o 1 x h := nr rfl
@[go_sem] theorem za_39 {nm : Nat} : (Γ 39).map (fun t => (Value.pointer (some ⟨nm, 0, none⟩), ({ cells := t.zero, rw := true } : Blk))) = some (.pointer (some ⟨nm, 0, none⟩), { cells := [Value.slice none 0 0], rw := true }) := nr rfl
@[go_sem] theorem ld_47 {n o : Nat} {h : Hp} : ldv Γ 47 (.pointer (some ⟨n, o, none⟩)) h = (h.cells n o 5).map fun cs => .agg cs.toArray := nr rfl
@[go_sem] theorem sv_47 {n o : Nat} {x : Value} {h : Hp} : stv Γ 47 (.pointer (some ⟨n, o, none⟩)) x h = stC n o 5 x h := nr rfl
@[go_sem] theorem za_47 {nm : Nat} : (Γ 47).map (fun t => (Value.pointer (some ⟨nm, 0, none⟩), ({ cells := t.zero, rw := true } : Blk))) = some (.pointer (some ⟨nm, 0, none⟩), { cells := [Value.int IntKind.i64 0, Value.int IntKind.i64 0, Value.int IntKind.i64 0, Value.int IntKind.i64 0, Value.int IntKind.i64 0], rw := true }) := nr rfl
@[go_sem] theorem ld_49 {n o : Nat} {h : Hp} : ldv Γ 49 (.pointer (some ⟨n, o, none⟩)) h = (h.cells n o 5).map fun cs => .agg cs.toArray := nr rfl
@[go_sem] theorem sv_49 {n o : Nat} {x : Value} {h : Hp} : stv Γ 49 (.pointer (some ⟨n, o, none⟩)) x h = stC n o 5 x h := nr rfl
@[go_sem] theorem za_49 {nm : Nat} : (Γ 49).map (fun t => (Value.pointer (some ⟨nm, 0, none⟩), ({ cells := t.zero, rw := true } : Blk))) = some (.pointer (some ⟨nm, 0, none⟩), { cells := [Value.int IntKind.i64 0, Value.int IntKind.i64 0, Value.int IntKind.i64 0, Value.int IntKind.i64 0, Value.int IntKind.i64 0], rw := true }) := nr rfl
@[go_sem] theorem es_56 : es Γ 56 = some 1 := nr rfl
@[go_sem] theorem st_56 : isStr Γ 56 = some false := nr rfl
theorem mk_56 {nm n : Nat} {kk k' : IntKind} (hn : n < 4294967296) : mkO Γ nm 56 (.int kk (n : Int)) (.int k' (n : Int)) = some (.slice (some ⟨nm, 0, none⟩) n (U 1), { cells := repZ [Value.int IntKind.i64 0] n, rw := true }) := mkO_ok (i1 := ti3) rfl rfl (by decide) rfl (by decide) hn
theorem bs_56 {C : Rel} {D : DrawR} {Q : Ex → S → Prop} {k : List Fr} {s : S} {base i : Nat} {l : List POp} {d : Option Nat} {len : Nat} {parts : Array (Nat × Operand)} : OpG Γ E C D Q base i (⟨d, none, .buildSlice 56 len parts⟩ :: l) k s = OpK Γ E C D Q base (i + 1) l k s d (base + i) (bsO (base + i) 1 [Value.int IntKind.i64 0] len (parts.toList.map fun p => (p.1, s.ev p.2))) := op_bs (i1 := ti3) rfl rfl rfl (by decide) rfl
theorem ap_56 {nm : Nat} {x y : Value} {h : Hp} : appendV Γ nm 56 56 x y h = apO 1 nm x h (apT 1 y h) := append_eq (i1 := ti3) rfl rfl (by decide) rfl (by decide) (by decide) rfl
attribute [go_sem] mk_56 bs_56 ap_56
@[go_sem] theorem nn_56 {a : Option Addr} {n c : Nat} : binV Γ E .neq 56 (.slice a n c) (.slice none 0 0) = some (.bool (!a.isNone)) := nr rfl
@[go_sem] theorem en_56 {a : Option Addr} {n c : Nat} : binV Γ E .eql 56 (.slice a n c) (.slice none 0 0) = some (.bool a.isNone) := nr rfl
@[go_sem] theorem ld_56 {n o : Nat} {h : Hp} : ldv Γ 56 (.pointer (some ⟨n, o, none⟩)) h = h.cell n o := nr rfl
@[go_sem] theorem sv_56 {n o : Nat} {x : Value} {h : Hp} : stv Γ 56 (.pointer (some ⟨n, o, none⟩)) x h = stC n o 1 x h := nr rfl
@[go_sem] theorem za_56 {nm : Nat} : (Γ 56).map (fun t => (Value.pointer (some ⟨nm, 0, none⟩), ({ cells := t.zero, rw := true } : Blk))) = some (.pointer (some ⟨nm, 0, none⟩), { cells := [Value.slice none 0 0], rw := true }) := nr rfl
@[go_sem] theorem cv_9_28 {C : Rel} {D : DrawR} {Q : Ex → S → Prop} {k : List Fr} {s : S} {base i : Nat} {l : List POp} {d : Option Nat} {x : Operand} : OpG Γ E C D Q base i (⟨d, none, .convert 9 28 x⟩ :: l) k s = OpK Γ E C D Q base (i + 1) l k s d (base + i) (cvB (base + i) (s.ev x)) := op_cvB rfl rfl rfl
def F_laws_FnExactEmitIns : FuncId := 8
def F_laws_eqStepS : FuncId := 28
def F_spec_EmitIns : FuncId := 32
def F_laws_toIns : FuncId := 33
def F_impl_EmitIns : FuncId := 34
def F_laws_markStepS : FuncId := 35
def F_laws_heldStepS : FuncId := 36
def F_spec_l1In : FuncId := 62
def F_spec_WordOk : FuncId := 63
def F_slices_Contains_byte : FuncId := 66
def F_impl_in : FuncId := 67
def F_laws_eqStep : FuncId := 76
def F_spec_InsUses : FuncId := 78
def F_spec_l15Home : FuncId := 79
def F_spec_l2Makes : FuncId := 80
def F_spec_l15Take : FuncId := 81
def F_spec_l15Give : FuncId := 82
def F_spec_l15Copy : FuncId := 83
def F_impl_homed : FuncId := 84
def F_impl_emitCopy : FuncId := 85
def F_impl_has : FuncId := 86
def F_impl_taken : FuncId := 87
def F_impl_stepOf : FuncId := 88
def F_impl_WordOk : FuncId := 113
def F_slices_Index_byte : FuncId := 114
def F_impl_formOf : FuncId := 116
def F_impl_isHome : FuncId := 117
noncomputable def F : FuncId → Option Func
  | 8 => some Try.f8
  | 28 => some Try.f28
  | 32 => some Try.f32
  | 33 => some Try.f33
  | 34 => some Try.f34
  | 35 => some Try.f35
  | 36 => some Try.f36
  | 62 => some Try.f62
  | 63 => some Try.f63
  | 66 => some Try.f66
  | 67 => some Try.f67
  | 76 => some Try.f76
  | 78 => some Try.f78
  | 79 => some Try.f79
  | 80 => some Try.f80
  | 81 => some Try.f81
  | 82 => some Try.f82
  | 83 => some Try.f83
  | 84 => some Try.f84
  | 85 => some Try.f85
  | 86 => some Try.f86
  | 87 => some Try.f87
  | 88 => some Try.f88
  | 113 => some Try.f113
  | 114 => some Try.f114
  | 116 => some Try.f116
  | 117 => some Try.f117
  | _ => none
theorem fok : FOk Try.prog F := by
  intro f fn h
  unfold F at h
  split at h
  · injection h with h; subst h; exact ⟨Try.func8, by kernel_rfl, _, rfl, by kernel_rfl, by kernel_rfl⟩
  · injection h with h; subst h; exact ⟨Try.func28, by kernel_rfl, _, rfl, by kernel_rfl, by kernel_rfl⟩
  · injection h with h; subst h; exact ⟨Try.func32, by kernel_rfl, _, rfl, by kernel_rfl, by kernel_rfl⟩
  · injection h with h; subst h; exact ⟨Try.func33, by kernel_rfl, _, rfl, by kernel_rfl, by kernel_rfl⟩
  · injection h with h; subst h; exact ⟨Try.func34, by kernel_rfl, _, rfl, by kernel_rfl, by kernel_rfl⟩
  · injection h with h; subst h; exact ⟨Try.func35, by kernel_rfl, _, rfl, by kernel_rfl, by kernel_rfl⟩
  · injection h with h; subst h; exact ⟨Try.func36, by kernel_rfl, _, rfl, by kernel_rfl, by kernel_rfl⟩
  · injection h with h; subst h; exact ⟨Try.func62, by kernel_rfl, _, rfl, by kernel_rfl, by kernel_rfl⟩
  · injection h with h; subst h; exact ⟨Try.func63, by kernel_rfl, _, rfl, by kernel_rfl, by kernel_rfl⟩
  · injection h with h; subst h; exact ⟨Try.func66, by kernel_rfl, _, rfl, by kernel_rfl, by kernel_rfl⟩
  · injection h with h; subst h; exact ⟨Try.func67, by kernel_rfl, _, rfl, by kernel_rfl, by kernel_rfl⟩
  · injection h with h; subst h; exact ⟨Try.func76, by kernel_rfl, _, rfl, by kernel_rfl, by kernel_rfl⟩
  · injection h with h; subst h; exact ⟨Try.func78, by kernel_rfl, _, rfl, by kernel_rfl, by kernel_rfl⟩
  · injection h with h; subst h; exact ⟨Try.func79, by kernel_rfl, _, rfl, by kernel_rfl, by kernel_rfl⟩
  · injection h with h; subst h; exact ⟨Try.func80, by kernel_rfl, _, rfl, by kernel_rfl, by kernel_rfl⟩
  · injection h with h; subst h; exact ⟨Try.func81, by kernel_rfl, _, rfl, by kernel_rfl, by kernel_rfl⟩
  · injection h with h; subst h; exact ⟨Try.func82, by kernel_rfl, _, rfl, by kernel_rfl, by kernel_rfl⟩
  · injection h with h; subst h; exact ⟨Try.func83, by kernel_rfl, _, rfl, by kernel_rfl, by kernel_rfl⟩
  · injection h with h; subst h; exact ⟨Try.func84, by kernel_rfl, _, rfl, by kernel_rfl, by kernel_rfl⟩
  · injection h with h; subst h; exact ⟨Try.func85, by kernel_rfl, _, rfl, by kernel_rfl, by kernel_rfl⟩
  · injection h with h; subst h; exact ⟨Try.func86, by kernel_rfl, _, rfl, by kernel_rfl, by kernel_rfl⟩
  · injection h with h; subst h; exact ⟨Try.func87, by kernel_rfl, _, rfl, by kernel_rfl, by kernel_rfl⟩
  · injection h with h; subst h; exact ⟨Try.func88, by kernel_rfl, _, rfl, by kernel_rfl, by kernel_rfl⟩
  · injection h with h; subst h; exact ⟨Try.func113, by kernel_rfl, _, rfl, by kernel_rfl, by kernel_rfl⟩
  · injection h with h; subst h; exact ⟨Try.func114, by kernel_rfl, _, rfl, by kernel_rfl, by kernel_rfl⟩
  · injection h with h; subst h; exact ⟨Try.func116, by kernel_rfl, _, rfl, by kernel_rfl, by kernel_rfl⟩
  · injection h with h; subst h; exact ⟨Try.func117, by kernel_rfl, _, rfl, by kernel_rfl, by kernel_rfl⟩
  · cases h
noncomputable def X0 : Rel := fun _ _ _ _ _ => False
abbrev CC : Rel := Call Γ E F X0 (Draw Γ E)
/-- What region of open order is meant. -/
abbrev DD : DrawR := Draw Γ E CC 0
abbrev OpEq (C : Rel) (D : DrawR) (l l' : List POp) : Prop := ∀ (Q : Ex → S → Prop) (b i : Nat) (k : List Fr) (s : S), OpG Γ E C D Q b i l k s = OpG Γ E C D Q b i l' k s
theorem opEq {C : Rel} {D : DrawR} {l l' : List POp} (h : l = l') : OpEq C D l l' := fun _ _ _ _ _ => by rw [h]
abbrev GoEq (C : Rel) (D : DrawR) (c c' : PC) : Prop := ∀ (Q : Ex → S → Prop) (k : List Fr) (s : S), Go Γ E C D Q c k s = Go Γ E C D Q c' k s
theorem goEq {C : Rel} {D : DrawR} {c c' : PC} (h : c = c') : GoEq C D c c' := fun _ _ _ => by rw [h]
end Go.Proofs.YtbgaljpilmmefaaM
