/- The tables of the small machine for this program: its types and its functions, and that the program has them so. -/
import Derived.Test.YthkabndeolefpaaMiY
import Derived.Test.YthkabndeolefpaaChecked
import Derived.KernelRfl
namespace Go.Proofs.YthkabndeolefpaaM
open Go
set_option linter.unusedVariables false
set_option maxRecDepth 100000
noncomputable def ti3 : TI := ⟨.int .i64, 1, 8, [Value.int IntKind.i64 0]⟩
noncomputable def ti4 : TI := ⟨.bool, 1, 1, [Value.bool false]⟩
noncomputable def ti25 : TI := ⟨.struct [(0, 3), (1, 3), (2, 3), (3, 3), (4, 3)], 5, 40, [Value.int IntKind.i64 0, Value.int IntKind.i64 0, Value.int IntKind.i64 0, Value.int IntKind.i64 0, Value.int IntKind.i64 0]⟩
noncomputable def ti27 : TI := ⟨.struct [(0, 3), (1, 3), (2, 3), (3, 3), (4, 3)], 5, 40, [Value.int IntKind.i64 0, Value.int IntKind.i64 0, Value.int IntKind.i64 0, Value.int IntKind.i64 0, Value.int IntKind.i64 0]⟩
noncomputable def Γ : TypeId → Option TI
  | 3 => some ti3
  | 4 => some ti4
  | 25 => some ti25
  | 27 => some ti27
  | _ => none
def E : TypeId → Nat
  | _ => 0
theorem Γ_cases {t : TypeId} {i : TI} (h : Γ t = some i) : (t = 3 ∧ i = ti3) ∨ (t = 4 ∧ i = ti4) ∨ (t = 25 ∧ i = ti25) ∨ (t = 27 ∧ i = ti27) := by
  unfold Γ at h
  split at h <;> first | (injection h with h; subst h; simp) | cases h
/-- One row of the table. -/
theorem row_ok {t : TypeId} {i : TI} {d : TypeDesc} (h : (Try.prog.info? t).map (fun x => (x.size, x.bytes, x.zero.map fun z => z.cells)) = some (i.size, i.bytes, some i.zero.toArray)) (hp : i.zero.all plainV = true) (hu : Try.prog.underlying t = some d) (hs : ShOk d i.sh) :
    ∃ inf, Try.prog.info? t = some inf ∧ inf.size = i.size ∧ inf.bytes = i.bytes ∧ (∃ z, inf.zero = some z ∧ z.cells = i.zero.toArray) ∧ (∀ v ∈ i.zero, plainV v = true) ∧ ∃ d, Try.prog.underlying t = some d ∧ ShOk d i.sh := by
  obtain ⟨inf, h1, h2⟩ := Option.map_eq_some_iff.1 h
  injection h2 with h2 h3
  injection h3 with h3 h4
  obtain ⟨z, h5, h6⟩ := Option.map_eq_some_iff.1 h4
  exact ⟨inf, h1, h2, h3, ⟨z, h5, h6⟩, fun v hv => List.all_eq_true.1 hp v hv, d, hu, hs⟩
theorem row3 : ∃ inf, Try.prog.info? 3 = some inf ∧ inf.size = ti3.size ∧ inf.bytes = ti3.bytes ∧ (∃ z, inf.zero = some z ∧ z.cells = ti3.zero.toArray) ∧ (∀ v ∈ ti3.zero, plainV v = true) ∧ ∃ d, Try.prog.underlying 3 = some d ∧ ShOk d ti3.sh :=
  row_ok (by kernel_rfl) rfl Try.underlying3 rfl
theorem row4 : ∃ inf, Try.prog.info? 4 = some inf ∧ inf.size = ti4.size ∧ inf.bytes = ti4.bytes ∧ (∃ z, inf.zero = some z ∧ z.cells = ti4.zero.toArray) ∧ (∀ v ∈ ti4.zero, plainV v = true) ∧ ∃ d, Try.prog.underlying 4 = some d ∧ ShOk d ti4.sh :=
  row_ok (by kernel_rfl) rfl Try.underlying4 rfl
theorem row25 : ∃ inf, Try.prog.info? 25 = some inf ∧ inf.size = ti25.size ∧ inf.bytes = ti25.bytes ∧ (∃ z, inf.zero = some z ∧ z.cells = ti25.zero.toArray) ∧ (∀ v ∈ ti25.zero, plainV v = true) ∧ ∃ d, Try.prog.underlying 25 = some d ∧ ShOk d ti25.sh :=
  row_ok (by kernel_rfl) rfl Try.underlying25 ⟨_, rfl, rfl⟩
theorem row27 : ∃ inf, Try.prog.info? 27 = some inf ∧ inf.size = ti27.size ∧ inf.bytes = ti27.bytes ∧ (∃ z, inf.zero = some z ∧ z.cells = ti27.zero.toArray) ∧ (∀ v ∈ ti27.zero, plainV v = true) ∧ ∃ d, Try.prog.underlying 27 = some d ∧ ShOk d ti27.sh :=
  row_ok (by kernel_rfl) rfl Try.underlying27 ⟨_, rfl, rfl⟩
theorem know_ty : ∀ t i, Γ t = some i → ∃ inf, Try.prog.info? t = some inf ∧ inf.size = i.size ∧ inf.bytes = i.bytes ∧ (∃ z, inf.zero = some z ∧ z.cells = i.zero.toArray) ∧ (∀ v ∈ i.zero, plainV v = true) ∧ ∃ d, Try.prog.underlying t = some d ∧ ShOk d i.sh := by
  intro t i h
  unfold Γ at h
  split at h
  · injection h with h; subst h; exact row3
  · injection h with h; subst h; exact row4
  · injection h with h; subst h; exact row25
  · injection h with h; subst h; exact row27
  · cases h
theorem know : Know Try.prog Γ E := ⟨know_ty, fun t h => absurd rfl h, fun t h => absurd rfl h, by kernel_rfl⟩
theorem fa_25_0 : fa Γ 25 0 = some 0 := rfl
theorem fa_25_1 : fa Γ 25 1 = some 1 := rfl
theorem fa_25_2 : fa Γ 25 2 = some 2 := rfl
theorem fa_25_3 : fa Γ 25 3 = some 3 := rfl
theorem fa_25_4 : fa Γ 25 4 = some 4 := rfl
theorem fa_27_0 : fa Γ 27 0 = some 0 := rfl
theorem fa_27_1 : fa Γ 27 1 = some 1 := rfl
theorem fa_27_2 : fa Γ 27 2 = some 2 := rfl
theorem fa_27_3 : fa Γ 27 3 = some 3 := rfl
theorem fa_27_4 : fa Γ 27 4 = some 4 := rfl
theorem ld_3 {n o : Nat} {h : Hp} : ldv Γ 3 (.pointer (some ⟨n, o, none⟩)) h = h.cell n o := rfl
theorem sv_3 {n o : Nat} {x : Value} {h : Hp} : stv Γ 3 (.pointer (some ⟨n, o, none⟩)) x h = stC n o 1 x h := rfl
theorem za_3 {nm : Nat} : (Γ 3).map (fun t => (Value.pointer (some ⟨nm, 0, none⟩), ({ cells := t.zero, rw := true } : Blk))) = some (.pointer (some ⟨nm, 0, none⟩), { cells := [Value.int IntKind.i64 0], rw := true }) := rfl
theorem nb_4 {a b : Bool} : binV Γ E .neq 4 (.bool a) (.bool b) = some (.bool (!(a == b))) := rfl
theorem eb_4 {a b : Bool} : binV Γ E .eql 4 (.bool a) (.bool b) = some (.bool (a == b)) := rfl
theorem ld_4 {n o : Nat} {h : Hp} : ldv Γ 4 (.pointer (some ⟨n, o, none⟩)) h = h.cell n o := rfl
theorem sv_4 {n o : Nat} {x : Value} {h : Hp} : stv Γ 4 (.pointer (some ⟨n, o, none⟩)) x h = stC n o 1 x h := rfl
theorem za_4 {nm : Nat} : (Γ 4).map (fun t => (Value.pointer (some ⟨nm, 0, none⟩), ({ cells := t.zero, rw := true } : Blk))) = some (.pointer (some ⟨nm, 0, none⟩), { cells := [Value.bool false], rw := true }) := rfl
theorem ld_25 {n o : Nat} {h : Hp} : ldv Γ 25 (.pointer (some ⟨n, o, none⟩)) h = (h.cells n o 5).map fun cs => .agg cs.toArray := rfl
theorem sv_25 {n o : Nat} {x : Value} {h : Hp} : stv Γ 25 (.pointer (some ⟨n, o, none⟩)) x h = stC n o 5 x h := rfl
theorem za_25 {nm : Nat} : (Γ 25).map (fun t => (Value.pointer (some ⟨nm, 0, none⟩), ({ cells := t.zero, rw := true } : Blk))) = some (.pointer (some ⟨nm, 0, none⟩), { cells := [Value.int IntKind.i64 0, Value.int IntKind.i64 0, Value.int IntKind.i64 0, Value.int IntKind.i64 0, Value.int IntKind.i64 0], rw := true }) := rfl
theorem ld_27 {n o : Nat} {h : Hp} : ldv Γ 27 (.pointer (some ⟨n, o, none⟩)) h = (h.cells n o 5).map fun cs => .agg cs.toArray := rfl
theorem sv_27 {n o : Nat} {x : Value} {h : Hp} : stv Γ 27 (.pointer (some ⟨n, o, none⟩)) x h = stC n o 5 x h := rfl
theorem za_27 {nm : Nat} : (Γ 27).map (fun t => (Value.pointer (some ⟨nm, 0, none⟩), ({ cells := t.zero, rw := true } : Blk))) = some (.pointer (some ⟨nm, 0, none⟩), { cells := [Value.int IntKind.i64 0, Value.int IntKind.i64 0, Value.int IntKind.i64 0, Value.int IntKind.i64 0, Value.int IntKind.i64 0], rw := true }) := rfl
def F_laws_FnExactIdle : FuncId := 5
def F_spec_Idle : FuncId := 13
def F_laws_toStep : FuncId := 14
def F_impl_Idle : FuncId := 15
def F_impl_jumps : FuncId := 30
noncomputable def F : FuncId → Option Func
  | 5 => some Try.f5
  | 13 => some Try.f13
  | 14 => some Try.f14
  | 15 => some Try.f15
  | 30 => some Try.f30
  | _ => none
theorem fok : FOk Try.prog F := by
  intro f fn h
  unfold F at h
  split at h
  · injection h with h; subst h; exact ⟨Try.func5, by kernel_rfl, _, rfl, by kernel_rfl, by kernel_rfl⟩
  · injection h with h; subst h; exact ⟨Try.func13, by kernel_rfl, _, rfl, by kernel_rfl, by kernel_rfl⟩
  · injection h with h; subst h; exact ⟨Try.func14, by kernel_rfl, _, rfl, by kernel_rfl, by kernel_rfl⟩
  · injection h with h; subst h; exact ⟨Try.func15, by kernel_rfl, _, rfl, by kernel_rfl, by kernel_rfl⟩
  · injection h with h; subst h; exact ⟨Try.func30, by kernel_rfl, _, rfl, by kernel_rfl, by kernel_rfl⟩
  · cases h
def X0 : Rel := fun _ _ _ _ _ => False
abbrev CC : Rel := Call Γ E F X0 (Draw Γ E)
/-- What region of open order is meant. -/
abbrev DD : DrawR := Draw Γ E CC 0
end Go.Proofs.YthkabndeolefpaaM
