import Derived.Test.YtbfphlaeiahljaaGreatVCMiV
import Derived.Test.YtbfphlaeiahljaaGreatChecked
import Derived.KernelRfl
/- The tables of the small machine for this program: its types and its functions, and that the program has them so. -/
namespace Go.Proofs.YtbfphlaeiahljaaGreatM
open Go
set_option linter.unusedVariables false
set_option maxRecDepth 100000
noncomputable def ti3 : TI := ⟨.int .i64, 1, 8, [Value.int IntKind.i64 0]⟩
noncomputable def ti4 : TI := ⟨.bool, 1, 1, [Value.bool false]⟩
noncomputable def ti5 : TI := ⟨.int .u8, 1, 1, [Value.int IntKind.u8 0]⟩
noncomputable def ti9 : TI := ⟨.str, 1, 16, [Value.string ByteArray.empty]⟩
noncomputable def ti22 : TI := ⟨.slice 85, 1, 24, [Value.slice none 0 0]⟩
noncomputable def ti24 : TI := ⟨.struct [(0, 22), (1, 3)], 2, 32, [Value.slice none 0 0, Value.int IntKind.i64 0]⟩
noncomputable def ti26 : TI := ⟨.slice 59, 1, 24, [Value.slice none 0 0]⟩
noncomputable def ti29 : TI := ⟨.slice 53, 1, 24, [Value.slice none 0 0]⟩
noncomputable def ti31 : TI := ⟨.struct [(0, 29), (1, 3)], 2, 32, [Value.slice none 0 0, Value.int IntKind.i64 0]⟩
noncomputable def ti38 : TI := ⟨.slice 3, 1, 24, [Value.slice none 0 0]⟩
noncomputable def ti48 : TI := ⟨.slice 117, 1, 24, [Value.slice none 0 0]⟩
noncomputable def ti49 : TI := ⟨.slice 56, 1, 24, [Value.slice none 0 0]⟩
noncomputable def ti51 : TI := ⟨.struct [(0, 3), (1, 3), (2, 3), (3, 3)], 4, 32, [Value.int IntKind.i64 0, Value.int IntKind.i64 0, Value.int IntKind.i64 0, Value.int IntKind.i64 0]⟩
noncomputable def ti53 : TI := ⟨.struct [(0, 48), (1, 49), (2, 51)], 6, 80, [Value.slice none 0 0, Value.slice none 0 0, Value.int IntKind.i64 0, Value.int IntKind.i64 0, Value.int IntKind.i64 0, Value.int IntKind.i64 0]⟩
noncomputable def ti56 : TI := ⟨.struct [(0, 3), (1, 3), (2, 3), (3, 3), (4, 3)], 5, 40, [Value.int IntKind.i64 0, Value.int IntKind.i64 0, Value.int IntKind.i64 0, Value.int IntKind.i64 0, Value.int IntKind.i64 0]⟩
noncomputable def ti59 : TI := ⟨.struct [(0, 3), (1, 3), (2, 3), (3, 3), (4, 3)], 5, 40, [Value.int IntKind.i64 0, Value.int IntKind.i64 0, Value.int IntKind.i64 0, Value.int IntKind.i64 0, Value.int IntKind.i64 0]⟩
noncomputable def ti62 : TI := ⟨.fn, 1, 8, [Value.nilFunc]⟩
noncomputable def ti74 : TI := ⟨.slice 4, 1, 24, [Value.slice none 0 0]⟩
noncomputable def ti81 : TI := ⟨.slice 148, 1, 24, [Value.slice none 0 0]⟩
noncomputable def ti82 : TI := ⟨.slice 154, 1, 24, [Value.slice none 0 0]⟩
noncomputable def ti83 : TI := ⟨.struct [(0, 3), (1, 3), (2, 3), (3, 3)], 4, 32, [Value.int IntKind.i64 0, Value.int IntKind.i64 0, Value.int IntKind.i64 0, Value.int IntKind.i64 0]⟩
noncomputable def ti85 : TI := ⟨.struct [(0, 81), (1, 82), (2, 83)], 6, 80, [Value.slice none 0 0, Value.slice none 0 0, Value.int IntKind.i64 0, Value.int IntKind.i64 0, Value.int IntKind.i64 0, Value.int IntKind.i64 0]⟩
noncomputable def ti94 : TI := ⟨.fn, 1, 8, [Value.nilFunc]⟩
noncomputable def ti97 : TI := ⟨.fn, 1, 8, [Value.nilFunc]⟩
noncomputable def ti115 : TI := ⟨.slice 151, 1, 24, [Value.slice none 0 0]⟩
noncomputable def ti117 : TI := ⟨.struct [(0, 3), (1, 115)], 2, 32, [Value.int IntKind.i64 0, Value.slice none 0 0]⟩
noncomputable def ti124 : TI := ⟨.fn, 1, 8, [Value.nilFunc]⟩
noncomputable def ti131 : TI := ⟨.slice 5, 1, 24, [Value.slice none 0 0]⟩
noncomputable def ti146 : TI := ⟨.slice 168, 1, 24, [Value.slice none 0 0]⟩
noncomputable def ti148 : TI := ⟨.struct [(0, 3), (1, 146)], 2, 32, [Value.int IntKind.i64 0, Value.slice none 0 0]⟩
noncomputable def ti151 : TI := ⟨.struct [(0, 3), (1, 3)], 2, 16, [Value.int IntKind.i64 0, Value.int IntKind.i64 0]⟩
noncomputable def ti154 : TI := ⟨.struct [(0, 3), (1, 3), (2, 3), (3, 3), (4, 3)], 5, 40, [Value.int IntKind.i64 0, Value.int IntKind.i64 0, Value.int IntKind.i64 0, Value.int IntKind.i64 0, Value.int IntKind.i64 0]⟩
noncomputable def ti157 : TI := ⟨.fn, 1, 8, [Value.nilFunc]⟩
noncomputable def ti168 : TI := ⟨.struct [(0, 3), (1, 3)], 2, 16, [Value.int IntKind.i64 0, Value.int IntKind.i64 0]⟩
noncomputable def Γ : TypeId → Option TI
  | 3 => some ti3
  | 4 => some ti4
  | 5 => some ti5
  | 9 => some ti9
  | 22 => some ti22
  | 24 => some ti24
  | 26 => some ti26
  | 29 => some ti29
  | 31 => some ti31
  | 38 => some ti38
  | 48 => some ti48
  | 49 => some ti49
  | 51 => some ti51
  | 53 => some ti53
  | 56 => some ti56
  | 59 => some ti59
  | 62 => some ti62
  | 74 => some ti74
  | 81 => some ti81
  | 82 => some ti82
  | 83 => some ti83
  | 85 => some ti85
  | 94 => some ti94
  | 97 => some ti97
  | 115 => some ti115
  | 117 => some ti117
  | 124 => some ti124
  | 131 => some ti131
  | 146 => some ti146
  | 148 => some ti148
  | 151 => some ti151
  | 154 => some ti154
  | 157 => some ti157
  | 168 => some ti168
  | _ => none
def E : TypeId → Nat
  | _ => 0
theorem Γ_cases {t : TypeId} {i : TI} (h : Γ t = some i) : (t = 3 ∧ i = ti3) ∨ (t = 4 ∧ i = ti4) ∨ (t = 5 ∧ i = ti5) ∨ (t = 9 ∧ i = ti9) ∨ (t = 22 ∧ i = ti22) ∨ (t = 24 ∧ i = ti24) ∨ (t = 26 ∧ i = ti26) ∨ (t = 29 ∧ i = ti29) ∨ (t = 31 ∧ i = ti31) ∨ (t = 38 ∧ i = ti38) ∨ (t = 48 ∧ i = ti48) ∨ (t = 49 ∧ i = ti49) ∨ (t = 51 ∧ i = ti51) ∨ (t = 53 ∧ i = ti53) ∨ (t = 56 ∧ i = ti56) ∨ (t = 59 ∧ i = ti59) ∨ (t = 62 ∧ i = ti62) ∨ (t = 74 ∧ i = ti74) ∨ (t = 81 ∧ i = ti81) ∨ (t = 82 ∧ i = ti82) ∨ (t = 83 ∧ i = ti83) ∨ (t = 85 ∧ i = ti85) ∨ (t = 94 ∧ i = ti94) ∨ (t = 97 ∧ i = ti97) ∨ (t = 115 ∧ i = ti115) ∨ (t = 117 ∧ i = ti117) ∨ (t = 124 ∧ i = ti124) ∨ (t = 131 ∧ i = ti131) ∨ (t = 146 ∧ i = ti146) ∨ (t = 148 ∧ i = ti148) ∨ (t = 151 ∧ i = ti151) ∨ (t = 154 ∧ i = ti154) ∨ (t = 157 ∧ i = ti157) ∨ (t = 168 ∧ i = ti168) := by
  unfold Γ at h
  split at h <;> first | (injection h with h; subst h; simp) | cases h
/-- One row of the table. -/
theorem row_ok {t : TypeId} {i : TI} {d : TypeDesc} (h : (Tryz.prog.info? t).map (fun x => (x.size, x.bytes, x.zero.map fun z => z.cells)) = some (i.size, i.bytes, some i.zero.toArray)) (hp : i.zero.all plainV = true) (hu : Tryz.prog.underlying t = some d) (hs : ShOk d i.sh) :
    ∃ inf, Tryz.prog.info? t = some inf ∧ inf.size = i.size ∧ inf.bytes = i.bytes ∧ (∃ z, inf.zero = some z ∧ z.cells = i.zero.toArray) ∧ (∀ v ∈ i.zero, plainV v = true) ∧ ∃ d, Tryz.prog.underlying t = some d ∧ ShOk d i.sh := by
  obtain ⟨inf, h1, h2⟩ := Option.map_eq_some_iff.1 h
  injection h2 with h2 h3
  injection h3 with h3 h4
  obtain ⟨z, h5, h6⟩ := Option.map_eq_some_iff.1 h4
  exact ⟨inf, h1, h2, h3, ⟨z, h5, h6⟩, fun v hv => List.all_eq_true.1 hp v hv, d, hu, hs⟩
theorem row3 : ∃ inf, Tryz.prog.info? 3 = some inf ∧ inf.size = ti3.size ∧ inf.bytes = ti3.bytes ∧ (∃ z, inf.zero = some z ∧ z.cells = ti3.zero.toArray) ∧ (∀ v ∈ ti3.zero, plainV v = true) ∧ ∃ d, Tryz.prog.underlying 3 = some d ∧ ShOk d ti3.sh :=
  row_ok (by kernel_rfl) rfl Tryz.underlying3 rfl
theorem row4 : ∃ inf, Tryz.prog.info? 4 = some inf ∧ inf.size = ti4.size ∧ inf.bytes = ti4.bytes ∧ (∃ z, inf.zero = some z ∧ z.cells = ti4.zero.toArray) ∧ (∀ v ∈ ti4.zero, plainV v = true) ∧ ∃ d, Tryz.prog.underlying 4 = some d ∧ ShOk d ti4.sh :=
  row_ok (by kernel_rfl) rfl Tryz.underlying4 rfl
theorem row5 : ∃ inf, Tryz.prog.info? 5 = some inf ∧ inf.size = ti5.size ∧ inf.bytes = ti5.bytes ∧ (∃ z, inf.zero = some z ∧ z.cells = ti5.zero.toArray) ∧ (∀ v ∈ ti5.zero, plainV v = true) ∧ ∃ d, Tryz.prog.underlying 5 = some d ∧ ShOk d ti5.sh :=
  row_ok (by kernel_rfl) rfl Tryz.underlying5 rfl
theorem row9 : ∃ inf, Tryz.prog.info? 9 = some inf ∧ inf.size = ti9.size ∧ inf.bytes = ti9.bytes ∧ (∃ z, inf.zero = some z ∧ z.cells = ti9.zero.toArray) ∧ (∀ v ∈ ti9.zero, plainV v = true) ∧ ∃ d, Tryz.prog.underlying 9 = some d ∧ ShOk d ti9.sh :=
  row_ok (by kernel_rfl) rfl Tryz.underlying9 rfl
theorem row22 : ∃ inf, Tryz.prog.info? 22 = some inf ∧ inf.size = ti22.size ∧ inf.bytes = ti22.bytes ∧ (∃ z, inf.zero = some z ∧ z.cells = ti22.zero.toArray) ∧ (∀ v ∈ ti22.zero, plainV v = true) ∧ ∃ d, Tryz.prog.underlying 22 = some d ∧ ShOk d ti22.sh :=
  row_ok (by kernel_rfl) rfl Tryz.underlying22 rfl
theorem row24 : ∃ inf, Tryz.prog.info? 24 = some inf ∧ inf.size = ti24.size ∧ inf.bytes = ti24.bytes ∧ (∃ z, inf.zero = some z ∧ z.cells = ti24.zero.toArray) ∧ (∀ v ∈ ti24.zero, plainV v = true) ∧ ∃ d, Tryz.prog.underlying 24 = some d ∧ ShOk d ti24.sh :=
  row_ok (by kernel_rfl) rfl Tryz.underlying24 ⟨_, rfl, rfl⟩
theorem row26 : ∃ inf, Tryz.prog.info? 26 = some inf ∧ inf.size = ti26.size ∧ inf.bytes = ti26.bytes ∧ (∃ z, inf.zero = some z ∧ z.cells = ti26.zero.toArray) ∧ (∀ v ∈ ti26.zero, plainV v = true) ∧ ∃ d, Tryz.prog.underlying 26 = some d ∧ ShOk d ti26.sh :=
  row_ok (by kernel_rfl) rfl Tryz.underlying26 rfl
theorem row29 : ∃ inf, Tryz.prog.info? 29 = some inf ∧ inf.size = ti29.size ∧ inf.bytes = ti29.bytes ∧ (∃ z, inf.zero = some z ∧ z.cells = ti29.zero.toArray) ∧ (∀ v ∈ ti29.zero, plainV v = true) ∧ ∃ d, Tryz.prog.underlying 29 = some d ∧ ShOk d ti29.sh :=
  row_ok (by kernel_rfl) rfl Tryz.underlying29 rfl
theorem row31 : ∃ inf, Tryz.prog.info? 31 = some inf ∧ inf.size = ti31.size ∧ inf.bytes = ti31.bytes ∧ (∃ z, inf.zero = some z ∧ z.cells = ti31.zero.toArray) ∧ (∀ v ∈ ti31.zero, plainV v = true) ∧ ∃ d, Tryz.prog.underlying 31 = some d ∧ ShOk d ti31.sh :=
  row_ok (by kernel_rfl) rfl Tryz.underlying31 ⟨_, rfl, rfl⟩
theorem row38 : ∃ inf, Tryz.prog.info? 38 = some inf ∧ inf.size = ti38.size ∧ inf.bytes = ti38.bytes ∧ (∃ z, inf.zero = some z ∧ z.cells = ti38.zero.toArray) ∧ (∀ v ∈ ti38.zero, plainV v = true) ∧ ∃ d, Tryz.prog.underlying 38 = some d ∧ ShOk d ti38.sh :=
  row_ok (by kernel_rfl) rfl Tryz.underlying38 rfl
theorem row48 : ∃ inf, Tryz.prog.info? 48 = some inf ∧ inf.size = ti48.size ∧ inf.bytes = ti48.bytes ∧ (∃ z, inf.zero = some z ∧ z.cells = ti48.zero.toArray) ∧ (∀ v ∈ ti48.zero, plainV v = true) ∧ ∃ d, Tryz.prog.underlying 48 = some d ∧ ShOk d ti48.sh :=
  row_ok (by kernel_rfl) rfl Tryz.underlying48 rfl
theorem row49 : ∃ inf, Tryz.prog.info? 49 = some inf ∧ inf.size = ti49.size ∧ inf.bytes = ti49.bytes ∧ (∃ z, inf.zero = some z ∧ z.cells = ti49.zero.toArray) ∧ (∀ v ∈ ti49.zero, plainV v = true) ∧ ∃ d, Tryz.prog.underlying 49 = some d ∧ ShOk d ti49.sh :=
  row_ok (by kernel_rfl) rfl Tryz.underlying49 rfl
theorem row51 : ∃ inf, Tryz.prog.info? 51 = some inf ∧ inf.size = ti51.size ∧ inf.bytes = ti51.bytes ∧ (∃ z, inf.zero = some z ∧ z.cells = ti51.zero.toArray) ∧ (∀ v ∈ ti51.zero, plainV v = true) ∧ ∃ d, Tryz.prog.underlying 51 = some d ∧ ShOk d ti51.sh :=
  row_ok (by kernel_rfl) rfl Tryz.underlying51 ⟨_, rfl, rfl⟩
theorem row53 : ∃ inf, Tryz.prog.info? 53 = some inf ∧ inf.size = ti53.size ∧ inf.bytes = ti53.bytes ∧ (∃ z, inf.zero = some z ∧ z.cells = ti53.zero.toArray) ∧ (∀ v ∈ ti53.zero, plainV v = true) ∧ ∃ d, Tryz.prog.underlying 53 = some d ∧ ShOk d ti53.sh :=
  row_ok (by kernel_rfl) rfl Tryz.underlying53 ⟨_, rfl, rfl⟩
theorem row56 : ∃ inf, Tryz.prog.info? 56 = some inf ∧ inf.size = ti56.size ∧ inf.bytes = ti56.bytes ∧ (∃ z, inf.zero = some z ∧ z.cells = ti56.zero.toArray) ∧ (∀ v ∈ ti56.zero, plainV v = true) ∧ ∃ d, Tryz.prog.underlying 56 = some d ∧ ShOk d ti56.sh :=
  row_ok (by kernel_rfl) rfl Tryz.underlying56 ⟨_, rfl, rfl⟩
theorem row59 : ∃ inf, Tryz.prog.info? 59 = some inf ∧ inf.size = ti59.size ∧ inf.bytes = ti59.bytes ∧ (∃ z, inf.zero = some z ∧ z.cells = ti59.zero.toArray) ∧ (∀ v ∈ ti59.zero, plainV v = true) ∧ ∃ d, Tryz.prog.underlying 59 = some d ∧ ShOk d ti59.sh :=
  row_ok (by kernel_rfl) rfl Tryz.underlying59 ⟨_, rfl, rfl⟩
theorem row62 : ∃ inf, Tryz.prog.info? 62 = some inf ∧ inf.size = ti62.size ∧ inf.bytes = ti62.bytes ∧ (∃ z, inf.zero = some z ∧ z.cells = ti62.zero.toArray) ∧ (∀ v ∈ ti62.zero, plainV v = true) ∧ ∃ d, Tryz.prog.underlying 62 = some d ∧ ShOk d ti62.sh :=
  row_ok (by kernel_rfl) rfl Tryz.underlying62 ⟨_, _, _, rfl⟩
theorem row74 : ∃ inf, Tryz.prog.info? 74 = some inf ∧ inf.size = ti74.size ∧ inf.bytes = ti74.bytes ∧ (∃ z, inf.zero = some z ∧ z.cells = ti74.zero.toArray) ∧ (∀ v ∈ ti74.zero, plainV v = true) ∧ ∃ d, Tryz.prog.underlying 74 = some d ∧ ShOk d ti74.sh :=
  row_ok (by kernel_rfl) rfl Tryz.underlying74 rfl
theorem row81 : ∃ inf, Tryz.prog.info? 81 = some inf ∧ inf.size = ti81.size ∧ inf.bytes = ti81.bytes ∧ (∃ z, inf.zero = some z ∧ z.cells = ti81.zero.toArray) ∧ (∀ v ∈ ti81.zero, plainV v = true) ∧ ∃ d, Tryz.prog.underlying 81 = some d ∧ ShOk d ti81.sh :=
  row_ok (by kernel_rfl) rfl Tryz.underlying81 rfl
theorem row82 : ∃ inf, Tryz.prog.info? 82 = some inf ∧ inf.size = ti82.size ∧ inf.bytes = ti82.bytes ∧ (∃ z, inf.zero = some z ∧ z.cells = ti82.zero.toArray) ∧ (∀ v ∈ ti82.zero, plainV v = true) ∧ ∃ d, Tryz.prog.underlying 82 = some d ∧ ShOk d ti82.sh :=
  row_ok (by kernel_rfl) rfl Tryz.underlying82 rfl
theorem row83 : ∃ inf, Tryz.prog.info? 83 = some inf ∧ inf.size = ti83.size ∧ inf.bytes = ti83.bytes ∧ (∃ z, inf.zero = some z ∧ z.cells = ti83.zero.toArray) ∧ (∀ v ∈ ti83.zero, plainV v = true) ∧ ∃ d, Tryz.prog.underlying 83 = some d ∧ ShOk d ti83.sh :=
  row_ok (by kernel_rfl) rfl Tryz.underlying83 ⟨_, rfl, rfl⟩
theorem row85 : ∃ inf, Tryz.prog.info? 85 = some inf ∧ inf.size = ti85.size ∧ inf.bytes = ti85.bytes ∧ (∃ z, inf.zero = some z ∧ z.cells = ti85.zero.toArray) ∧ (∀ v ∈ ti85.zero, plainV v = true) ∧ ∃ d, Tryz.prog.underlying 85 = some d ∧ ShOk d ti85.sh :=
  row_ok (by kernel_rfl) rfl Tryz.underlying85 ⟨_, rfl, rfl⟩
theorem row94 : ∃ inf, Tryz.prog.info? 94 = some inf ∧ inf.size = ti94.size ∧ inf.bytes = ti94.bytes ∧ (∃ z, inf.zero = some z ∧ z.cells = ti94.zero.toArray) ∧ (∀ v ∈ ti94.zero, plainV v = true) ∧ ∃ d, Tryz.prog.underlying 94 = some d ∧ ShOk d ti94.sh :=
  row_ok (by kernel_rfl) rfl Tryz.underlying94 ⟨_, _, _, rfl⟩
theorem row97 : ∃ inf, Tryz.prog.info? 97 = some inf ∧ inf.size = ti97.size ∧ inf.bytes = ti97.bytes ∧ (∃ z, inf.zero = some z ∧ z.cells = ti97.zero.toArray) ∧ (∀ v ∈ ti97.zero, plainV v = true) ∧ ∃ d, Tryz.prog.underlying 97 = some d ∧ ShOk d ti97.sh :=
  row_ok (by kernel_rfl) rfl Tryz.underlying97 ⟨_, _, _, rfl⟩
theorem row115 : ∃ inf, Tryz.prog.info? 115 = some inf ∧ inf.size = ti115.size ∧ inf.bytes = ti115.bytes ∧ (∃ z, inf.zero = some z ∧ z.cells = ti115.zero.toArray) ∧ (∀ v ∈ ti115.zero, plainV v = true) ∧ ∃ d, Tryz.prog.underlying 115 = some d ∧ ShOk d ti115.sh :=
  row_ok (by kernel_rfl) rfl Tryz.underlying115 rfl
theorem row117 : ∃ inf, Tryz.prog.info? 117 = some inf ∧ inf.size = ti117.size ∧ inf.bytes = ti117.bytes ∧ (∃ z, inf.zero = some z ∧ z.cells = ti117.zero.toArray) ∧ (∀ v ∈ ti117.zero, plainV v = true) ∧ ∃ d, Tryz.prog.underlying 117 = some d ∧ ShOk d ti117.sh :=
  row_ok (by kernel_rfl) rfl Tryz.underlying117 ⟨_, rfl, rfl⟩
theorem row124 : ∃ inf, Tryz.prog.info? 124 = some inf ∧ inf.size = ti124.size ∧ inf.bytes = ti124.bytes ∧ (∃ z, inf.zero = some z ∧ z.cells = ti124.zero.toArray) ∧ (∀ v ∈ ti124.zero, plainV v = true) ∧ ∃ d, Tryz.prog.underlying 124 = some d ∧ ShOk d ti124.sh :=
  row_ok (by kernel_rfl) rfl Tryz.underlying124 ⟨_, _, _, rfl⟩
theorem row131 : ∃ inf, Tryz.prog.info? 131 = some inf ∧ inf.size = ti131.size ∧ inf.bytes = ti131.bytes ∧ (∃ z, inf.zero = some z ∧ z.cells = ti131.zero.toArray) ∧ (∀ v ∈ ti131.zero, plainV v = true) ∧ ∃ d, Tryz.prog.underlying 131 = some d ∧ ShOk d ti131.sh :=
  row_ok (by kernel_rfl) rfl Tryz.underlying131 rfl
theorem row146 : ∃ inf, Tryz.prog.info? 146 = some inf ∧ inf.size = ti146.size ∧ inf.bytes = ti146.bytes ∧ (∃ z, inf.zero = some z ∧ z.cells = ti146.zero.toArray) ∧ (∀ v ∈ ti146.zero, plainV v = true) ∧ ∃ d, Tryz.prog.underlying 146 = some d ∧ ShOk d ti146.sh :=
  row_ok (by kernel_rfl) rfl Tryz.underlying146 rfl
theorem row148 : ∃ inf, Tryz.prog.info? 148 = some inf ∧ inf.size = ti148.size ∧ inf.bytes = ti148.bytes ∧ (∃ z, inf.zero = some z ∧ z.cells = ti148.zero.toArray) ∧ (∀ v ∈ ti148.zero, plainV v = true) ∧ ∃ d, Tryz.prog.underlying 148 = some d ∧ ShOk d ti148.sh :=
  row_ok (by kernel_rfl) rfl Tryz.underlying148 ⟨_, rfl, rfl⟩
theorem row151 : ∃ inf, Tryz.prog.info? 151 = some inf ∧ inf.size = ti151.size ∧ inf.bytes = ti151.bytes ∧ (∃ z, inf.zero = some z ∧ z.cells = ti151.zero.toArray) ∧ (∀ v ∈ ti151.zero, plainV v = true) ∧ ∃ d, Tryz.prog.underlying 151 = some d ∧ ShOk d ti151.sh :=
  row_ok (by kernel_rfl) rfl Tryz.underlying151 ⟨_, rfl, rfl⟩
theorem row154 : ∃ inf, Tryz.prog.info? 154 = some inf ∧ inf.size = ti154.size ∧ inf.bytes = ti154.bytes ∧ (∃ z, inf.zero = some z ∧ z.cells = ti154.zero.toArray) ∧ (∀ v ∈ ti154.zero, plainV v = true) ∧ ∃ d, Tryz.prog.underlying 154 = some d ∧ ShOk d ti154.sh :=
  row_ok (by kernel_rfl) rfl Tryz.underlying154 ⟨_, rfl, rfl⟩
theorem row157 : ∃ inf, Tryz.prog.info? 157 = some inf ∧ inf.size = ti157.size ∧ inf.bytes = ti157.bytes ∧ (∃ z, inf.zero = some z ∧ z.cells = ti157.zero.toArray) ∧ (∀ v ∈ ti157.zero, plainV v = true) ∧ ∃ d, Tryz.prog.underlying 157 = some d ∧ ShOk d ti157.sh :=
  row_ok (by kernel_rfl) rfl Tryz.underlying157 ⟨_, _, _, rfl⟩
theorem row168 : ∃ inf, Tryz.prog.info? 168 = some inf ∧ inf.size = ti168.size ∧ inf.bytes = ti168.bytes ∧ (∃ z, inf.zero = some z ∧ z.cells = ti168.zero.toArray) ∧ (∀ v ∈ ti168.zero, plainV v = true) ∧ ∃ d, Tryz.prog.underlying 168 = some d ∧ ShOk d ti168.sh :=
  row_ok (by kernel_rfl) rfl Tryz.underlying168 ⟨_, rfl, rfl⟩
theorem know_ty : ∀ t i, Γ t = some i → ∃ inf, Tryz.prog.info? t = some inf ∧ inf.size = i.size ∧ inf.bytes = i.bytes ∧ (∃ z, inf.zero = some z ∧ z.cells = i.zero.toArray) ∧ (∀ v ∈ i.zero, plainV v = true) ∧ ∃ d, Tryz.prog.underlying t = some d ∧ ShOk d i.sh := by
  intro t i h
  unfold Γ at h
  split at h
  · injection h with h; subst h; exact row3
  · injection h with h; subst h; exact row4
  · injection h with h; subst h; exact row5
  · injection h with h; subst h; exact row9
  · injection h with h; subst h; exact row22
  · injection h with h; subst h; exact row24
  · injection h with h; subst h; exact row26
  · injection h with h; subst h; exact row29
  · injection h with h; subst h; exact row31
  · injection h with h; subst h; exact row38
  · injection h with h; subst h; exact row48
  · injection h with h; subst h; exact row49
  · injection h with h; subst h; exact row51
  · injection h with h; subst h; exact row53
  · injection h with h; subst h; exact row56
  · injection h with h; subst h; exact row59
  · injection h with h; subst h; exact row62
  · injection h with h; subst h; exact row74
  · injection h with h; subst h; exact row81
  · injection h with h; subst h; exact row82
  · injection h with h; subst h; exact row83
  · injection h with h; subst h; exact row85
  · injection h with h; subst h; exact row94
  · injection h with h; subst h; exact row97
  · injection h with h; subst h; exact row115
  · injection h with h; subst h; exact row117
  · injection h with h; subst h; exact row124
  · injection h with h; subst h; exact row131
  · injection h with h; subst h; exact row146
  · injection h with h; subst h; exact row148
  · injection h with h; subst h; exact row151
  · injection h with h; subst h; exact row154
  · injection h with h; subst h; exact row157
  · injection h with h; subst h; exact row168
  · cases h
theorem know : Know Tryz.prog Γ E := ⟨know_ty, fun t h => absurd rfl h, fun t h => absurd rfl h, by kernel_rfl⟩
@[go_sem] theorem fa_24_0 : fa Γ 24 0 = some 0 := nr rfl
@[go_sem] theorem fa_24_1 : fa Γ 24 1 = some 1 := nr rfl
@[go_sem] theorem fa_31_0 : fa Γ 31 0 = some 0 := nr rfl
@[go_sem] theorem fa_31_1 : fa Γ 31 1 = some 1 := nr rfl
@[go_sem] theorem fa_51_0 : fa Γ 51 0 = some 0 := nr rfl
@[go_sem] theorem fa_51_1 : fa Γ 51 1 = some 1 := nr rfl
@[go_sem] theorem fa_51_2 : fa Γ 51 2 = some 2 := nr rfl
@[go_sem] theorem fa_51_3 : fa Γ 51 3 = some 3 := nr rfl
@[go_sem] theorem fa_53_0 : fa Γ 53 0 = some 0 := nr rfl
@[go_sem] theorem fa_53_1 : fa Γ 53 1 = some 1 := nr rfl
@[go_sem] theorem fa_53_2 : fa Γ 53 2 = some 2 := nr rfl
@[go_sem] theorem fa_56_0 : fa Γ 56 0 = some 0 := nr rfl
@[go_sem] theorem fa_56_1 : fa Γ 56 1 = some 1 := nr rfl
@[go_sem] theorem fa_56_2 : fa Γ 56 2 = some 2 := nr rfl
@[go_sem] theorem fa_56_3 : fa Γ 56 3 = some 3 := nr rfl
@[go_sem] theorem fa_56_4 : fa Γ 56 4 = some 4 := nr rfl
@[go_sem] theorem fa_59_0 : fa Γ 59 0 = some 0 := nr rfl
@[go_sem] theorem fa_59_1 : fa Γ 59 1 = some 1 := nr rfl
@[go_sem] theorem fa_59_2 : fa Γ 59 2 = some 2 := nr rfl
@[go_sem] theorem fa_59_3 : fa Γ 59 3 = some 3 := nr rfl
@[go_sem] theorem fa_59_4 : fa Γ 59 4 = some 4 := nr rfl
@[go_sem] theorem fa_83_0 : fa Γ 83 0 = some 0 := nr rfl
@[go_sem] theorem fa_83_1 : fa Γ 83 1 = some 1 := nr rfl
@[go_sem] theorem fa_83_2 : fa Γ 83 2 = some 2 := nr rfl
@[go_sem] theorem fa_83_3 : fa Γ 83 3 = some 3 := nr rfl
@[go_sem] theorem fa_85_0 : fa Γ 85 0 = some 0 := nr rfl
@[go_sem] theorem fa_85_1 : fa Γ 85 1 = some 1 := nr rfl
@[go_sem] theorem fa_85_2 : fa Γ 85 2 = some 2 := nr rfl
@[go_sem] theorem fa_117_0 : fa Γ 117 0 = some 0 := nr rfl
@[go_sem] theorem fa_117_1 : fa Γ 117 1 = some 1 := nr rfl
@[go_sem] theorem fa_148_0 : fa Γ 148 0 = some 0 := nr rfl
@[go_sem] theorem fa_148_1 : fa Γ 148 1 = some 1 := nr rfl
@[go_sem] theorem fa_151_0 : fa Γ 151 0 = some 0 := nr rfl
@[go_sem] theorem fa_151_1 : fa Γ 151 1 = some 1 := nr rfl
@[go_sem] theorem fa_154_0 : fa Γ 154 0 = some 0 := nr rfl
@[go_sem] theorem fa_154_1 : fa Γ 154 1 = some 1 := nr rfl
@[go_sem] theorem fa_154_2 : fa Γ 154 2 = some 2 := nr rfl
@[go_sem] theorem fa_154_3 : fa Γ 154 3 = some 3 := nr rfl
@[go_sem] theorem fa_154_4 : fa Γ 154 4 = some 4 := nr rfl
@[go_sem] theorem fa_168_0 : fa Γ 168 0 = some 0 := nr rfl
@[go_sem] theorem fa_168_1 : fa Γ 168 1 = some 1 := nr rfl
@[go_sem] theorem ld_3 {n o : Nat} {h : Hp} : ldv Γ 3 (.pointer (some ⟨n, o, none⟩)) h = h.cell n o := nr rfl
@[go_sem] theorem sv_3 {n o : Nat} {x : Value} {h : Hp} : stv Γ 3 (.pointer (some ⟨n, o, none⟩)) x h = stC n o 1 x h := nr rfl
@[go_sem] theorem za_3 {nm : Nat} : (Γ 3).map (fun t => (Value.pointer (some ⟨nm, 0, none⟩), ({ cells := t.zero, rw := true } : Blk))) = some (.pointer (some ⟨nm, 0, none⟩), { cells := [Value.int IntKind.i64 0], rw := true }) := nr rfl
@[go_sem] theorem nb_4 {a b : Bool} : binV Γ E .neq 4 (.bool a) (.bool b) = some (.bool (!(a == b))) := nr rfl
@[go_sem] theorem eb_4 {a b : Bool} : binV Γ E .eql 4 (.bool a) (.bool b) = some (.bool (a == b)) := nr rfl
@[go_sem] theorem ld_4 {n o : Nat} {h : Hp} : ldv Γ 4 (.pointer (some ⟨n, o, none⟩)) h = h.cell n o := nr rfl
@[go_sem] theorem sv_4 {n o : Nat} {x : Value} {h : Hp} : stv Γ 4 (.pointer (some ⟨n, o, none⟩)) x h = stC n o 1 x h := nr rfl
@[go_sem] theorem za_4 {nm : Nat} : (Γ 4).map (fun t => (Value.pointer (some ⟨nm, 0, none⟩), ({ cells := t.zero, rw := true } : Blk))) = some (.pointer (some ⟨nm, 0, none⟩), { cells := [Value.bool false], rw := true }) := nr rfl
@[go_sem] theorem ld_5 {n o : Nat} {h : Hp} : ldv Γ 5 (.pointer (some ⟨n, o, none⟩)) h = h.cell n o := nr rfl
@[go_sem] theorem sv_5 {n o : Nat} {x : Value} {h : Hp} : stv Γ 5 (.pointer (some ⟨n, o, none⟩)) x h = stC n o 1 x h := nr rfl
@[go_sem] theorem za_5 {nm : Nat} : (Γ 5).map (fun t => (Value.pointer (some ⟨nm, 0, none⟩), ({ cells := t.zero, rw := true } : Blk))) = some (.pointer (some ⟨nm, 0, none⟩), { cells := [Value.int IntKind.u8 0], rw := true }) := nr rfl
@[go_sem] theorem st_9 : isStr Γ 9 = some true := nr rfl
@[go_sem] theorem ld_9 {n o : Nat} {h : Hp} : ldv Γ 9 (.pointer (some ⟨n, o, none⟩)) h = h.cell n o := nr rfl
@[go_sem] theorem sv_9 {n o : Nat} {x : Value} {h : Hp} : stv Γ 9 (.pointer (some ⟨n, o, none⟩)) x h = stC n o 1 x h := nr rfl
@[go_sem] theorem za_9 {nm : Nat} : (Γ 9).map (fun t => (Value.pointer (some ⟨nm, 0, none⟩), ({ cells := t.zero, rw := true } : Blk))) = some (.pointer (some ⟨nm, 0, none⟩), { cells := [Value.string ByteArray.empty], rw := true }) := nr rfl
@[go_sem] theorem es_22 : es Γ 22 = some 6 := nr rfl
@[go_sem] theorem st_22 : isStr Γ 22 = some false := nr rfl
theorem mk_22 {nm n : Nat} {kk k' : IntKind} (hn : n < 4294967296) : mkO Γ nm 22 (.int kk (n : Int)) (.int k' (n : Int)) = some (.slice (some ⟨nm, 0, none⟩) n (U 6), { cells := repZ [Value.slice none 0 0, Value.slice none 0 0, Value.int IntKind.i64 0, Value.int IntKind.i64 0, Value.int IntKind.i64 0, Value.int IntKind.i64 0] n, rw := true }) := mkO_ok (i1 := ti85) rfl rfl (by decide) rfl (by decide) hn
theorem bs_22 {C : Rel} {D : DrawR} {Q : Ex → S → Prop} {k : List Fr} {s : S} {base i : Nat} {l : List POp} {d : Option Nat} {len : Nat} {parts : Array (Nat × Operand)} : OpG Γ E C D Q base i (⟨d, none, .buildSlice 22 len parts⟩ :: l) k s = OpK Γ E C D Q base (i + 1) l k s d (base + i) (bsO (base + i) 6 [Value.slice none 0 0, Value.slice none 0 0, Value.int IntKind.i64 0, Value.int IntKind.i64 0, Value.int IntKind.i64 0, Value.int IntKind.i64 0] len (parts.toList.map fun p => (p.1, s.ev p.2))) := op_bs (i1 := ti85) rfl rfl rfl (by decide) rfl
theorem ap_22 {nm : Nat} {x y : Value} {h : Hp} : appendV Γ nm 22 22 x y h = apO 6 nm x h (apT 6 y h) := append_eq (i1 := ti85) rfl rfl (by decide) rfl (by decide) (by decide) rfl
attribute [go_sem] mk_22 bs_22 ap_22
@[go_sem] theorem nn_22 {a : Option Addr} {n c : Nat} : binV Γ E .neq 22 (.slice a n c) (.slice none 0 0) = some (.bool (!a.isNone)) := nr rfl
@[go_sem] theorem en_22 {a : Option Addr} {n c : Nat} : binV Γ E .eql 22 (.slice a n c) (.slice none 0 0) = some (.bool a.isNone) := nr rfl
@[go_sem] theorem ld_22 {n o : Nat} {h : Hp} : ldv Γ 22 (.pointer (some ⟨n, o, none⟩)) h = h.cell n o := nr rfl
@[go_sem] theorem sv_22 {n o : Nat} {x : Value} {h : Hp} : stv Γ 22 (.pointer (some ⟨n, o, none⟩)) x h = stC n o 1 x h := nr rfl
@[go_sem] theorem za_22 {nm : Nat} : (Γ 22).map (fun t => (Value.pointer (some ⟨nm, 0, none⟩), ({ cells := t.zero, rw := true } : Blk))) = some (.pointer (some ⟨nm, 0, none⟩), { cells := [Value.slice none 0 0], rw := true }) := nr rfl
@[go_sem] theorem ld_24 {n o : Nat} {h : Hp} : ldv Γ 24 (.pointer (some ⟨n, o, none⟩)) h = (h.cells n o 2).map fun cs => .agg cs.toArray := nr rfl
@[go_sem] theorem sv_24 {n o : Nat} {x : Value} {h : Hp} : stv Γ 24 (.pointer (some ⟨n, o, none⟩)) x h = stC n o 2 x h := nr rfl
@[go_sem] theorem za_24 {nm : Nat} : (Γ 24).map (fun t => (Value.pointer (some ⟨nm, 0, none⟩), ({ cells := t.zero, rw := true } : Blk))) = some (.pointer (some ⟨nm, 0, none⟩), { cells := [Value.slice none 0 0, Value.int IntKind.i64 0], rw := true }) := nr rfl
@[go_sem] theorem es_26 : es Γ 26 = some 5 := nr rfl
@[go_sem] theorem st_26 : isStr Γ 26 = some false := nr rfl
theorem mk_26 {nm n : Nat} {kk k' : IntKind} (hn : n < 4294967296) : mkO Γ nm 26 (.int kk (n : Int)) (.int k' (n : Int)) = some (.slice (some ⟨nm, 0, none⟩) n (U 5), { cells := repZ [Value.int IntKind.i64 0, Value.int IntKind.i64 0, Value.int IntKind.i64 0, Value.int IntKind.i64 0, Value.int IntKind.i64 0] n, rw := true }) := mkO_ok (i1 := ti59) rfl rfl (by decide) rfl (by decide) hn
theorem bs_26 {C : Rel} {D : DrawR} {Q : Ex → S → Prop} {k : List Fr} {s : S} {base i : Nat} {l : List POp} {d : Option Nat} {len : Nat} {parts : Array (Nat × Operand)} : OpG Γ E C D Q base i (⟨d, none, .buildSlice 26 len parts⟩ :: l) k s = OpK Γ E C D Q base (i + 1) l k s d (base + i) (bsO (base + i) 5 [Value.int IntKind.i64 0, Value.int IntKind.i64 0, Value.int IntKind.i64 0, Value.int IntKind.i64 0, Value.int IntKind.i64 0] len (parts.toList.map fun p => (p.1, s.ev p.2))) := op_bs (i1 := ti59) rfl rfl rfl (by decide) rfl
theorem ap_26 {nm : Nat} {x y : Value} {h : Hp} : appendV Γ nm 26 26 x y h = apO 5 nm x h (apT 5 y h) := append_eq (i1 := ti59) rfl rfl (by decide) rfl (by decide) (by decide) rfl
attribute [go_sem] mk_26 bs_26 ap_26
@[go_sem] theorem nn_26 {a : Option Addr} {n c : Nat} : binV Γ E .neq 26 (.slice a n c) (.slice none 0 0) = some (.bool (!a.isNone)) := nr rfl
@[go_sem] theorem en_26 {a : Option Addr} {n c : Nat} : binV Γ E .eql 26 (.slice a n c) (.slice none 0 0) = some (.bool a.isNone) := nr rfl
@[go_sem] theorem ld_26 {n o : Nat} {h : Hp} : ldv Γ 26 (.pointer (some ⟨n, o, none⟩)) h = h.cell n o := nr rfl
@[go_sem] theorem sv_26 {n o : Nat} {x : Value} {h : Hp} : stv Γ 26 (.pointer (some ⟨n, o, none⟩)) x h = stC n o 1 x h := nr rfl
@[go_sem] theorem za_26 {nm : Nat} : (Γ 26).map (fun t => (Value.pointer (some ⟨nm, 0, none⟩), ({ cells := t.zero, rw := true } : Blk))) = some (.pointer (some ⟨nm, 0, none⟩), { cells := [Value.slice none 0 0], rw := true }) := nr rfl
@[go_sem] theorem es_29 : es Γ 29 = some 6 := nr rfl
@[go_sem] theorem st_29 : isStr Γ 29 = some false := nr rfl
theorem mk_29 {nm n : Nat} {kk k' : IntKind} (hn : n < 4294967296) : mkO Γ nm 29 (.int kk (n : Int)) (.int k' (n : Int)) = some (.slice (some ⟨nm, 0, none⟩) n (U 6), { cells := repZ [Value.slice none 0 0, Value.slice none 0 0, Value.int IntKind.i64 0, Value.int IntKind.i64 0, Value.int IntKind.i64 0, Value.int IntKind.i64 0] n, rw := true }) := mkO_ok (i1 := ti53) rfl rfl (by decide) rfl (by decide) hn
theorem bs_29 {C : Rel} {D : DrawR} {Q : Ex → S → Prop} {k : List Fr} {s : S} {base i : Nat} {l : List POp} {d : Option Nat} {len : Nat} {parts : Array (Nat × Operand)} : OpG Γ E C D Q base i (⟨d, none, .buildSlice 29 len parts⟩ :: l) k s = OpK Γ E C D Q base (i + 1) l k s d (base + i) (bsO (base + i) 6 [Value.slice none 0 0, Value.slice none 0 0, Value.int IntKind.i64 0, Value.int IntKind.i64 0, Value.int IntKind.i64 0, Value.int IntKind.i64 0] len (parts.toList.map fun p => (p.1, s.ev p.2))) := op_bs (i1 := ti53) rfl rfl rfl (by decide) rfl
theorem ap_29 {nm : Nat} {x y : Value} {h : Hp} : appendV Γ nm 29 29 x y h = apO 6 nm x h (apT 6 y h) := append_eq (i1 := ti53) rfl rfl (by decide) rfl (by decide) (by decide) rfl
attribute [go_sem] mk_29 bs_29 ap_29
@[go_sem] theorem nn_29 {a : Option Addr} {n c : Nat} : binV Γ E .neq 29 (.slice a n c) (.slice none 0 0) = some (.bool (!a.isNone)) := nr rfl
@[go_sem] theorem en_29 {a : Option Addr} {n c : Nat} : binV Γ E .eql 29 (.slice a n c) (.slice none 0 0) = some (.bool a.isNone) := nr rfl
@[go_sem] theorem ld_29 {n o : Nat} {h : Hp} : ldv Γ 29 (.pointer (some ⟨n, o, none⟩)) h = h.cell n o := nr rfl
@[go_sem] theorem sv_29 {n o : Nat} {x : Value} {h : Hp} : stv Γ 29 (.pointer (some ⟨n, o, none⟩)) x h = stC n o 1 x h := nr rfl
@[go_sem] theorem za_29 {nm : Nat} : (Γ 29).map (fun t => (Value.pointer (some ⟨nm, 0, none⟩), ({ cells := t.zero, rw := true } : Blk))) = some (.pointer (some ⟨nm, 0, none⟩), { cells := [Value.slice none 0 0], rw := true }) := nr rfl
@[go_sem] theorem ld_31 {n o : Nat} {h : Hp} : ldv Γ 31 (.pointer (some ⟨n, o, none⟩)) h = (h.cells n o 2).map fun cs => .agg cs.toArray := nr rfl
@[go_sem] theorem sv_31 {n o : Nat} {x : Value} {h : Hp} : stv Γ 31 (.pointer (some ⟨n, o, none⟩)) x h = stC n o 2 x h := nr rfl
@[go_sem] theorem za_31 {nm : Nat} : (Γ 31).map (fun t => (Value.pointer (some ⟨nm, 0, none⟩), ({ cells := t.zero, rw := true } : Blk))) = some (.pointer (some ⟨nm, 0, none⟩), { cells := [Value.slice none 0 0, Value.int IntKind.i64 0], rw := true }) := nr rfl
@[go_sem] theorem es_38 : es Γ 38 = some 1 := nr rfl
@[go_sem] theorem st_38 : isStr Γ 38 = some false := nr rfl
theorem mk_38 {nm n : Nat} {kk k' : IntKind} (hn : n < 4294967296) : mkO Γ nm 38 (.int kk (n : Int)) (.int k' (n : Int)) = some (.slice (some ⟨nm, 0, none⟩) n (U 1), { cells := repZ [Value.int IntKind.i64 0] n, rw := true }) := mkO_ok (i1 := ti3) rfl rfl (by decide) rfl (by decide) hn
theorem bs_38 {C : Rel} {D : DrawR} {Q : Ex → S → Prop} {k : List Fr} {s : S} {base i : Nat} {l : List POp} {d : Option Nat} {len : Nat} {parts : Array (Nat × Operand)} : OpG Γ E C D Q base i (⟨d, none, .buildSlice 38 len parts⟩ :: l) k s = OpK Γ E C D Q base (i + 1) l k s d (base + i) (bsO (base + i) 1 [Value.int IntKind.i64 0] len (parts.toList.map fun p => (p.1, s.ev p.2))) := op_bs (i1 := ti3) rfl rfl rfl (by decide) rfl
theorem ap_38 {nm : Nat} {x y : Value} {h : Hp} : appendV Γ nm 38 38 x y h = apO 1 nm x h (apT 1 y h) := append_eq (i1 := ti3) rfl rfl (by decide) rfl (by decide) (by decide) rfl
attribute [go_sem] mk_38 bs_38 ap_38
@[go_sem] theorem nn_38 {a : Option Addr} {n c : Nat} : binV Γ E .neq 38 (.slice a n c) (.slice none 0 0) = some (.bool (!a.isNone)) := nr rfl
@[go_sem] theorem en_38 {a : Option Addr} {n c : Nat} : binV Γ E .eql 38 (.slice a n c) (.slice none 0 0) = some (.bool a.isNone) := nr rfl
@[go_sem] theorem ld_38 {n o : Nat} {h : Hp} : ldv Γ 38 (.pointer (some ⟨n, o, none⟩)) h = h.cell n o := nr rfl
@[go_sem] theorem sv_38 {n o : Nat} {x : Value} {h : Hp} : stv Γ 38 (.pointer (some ⟨n, o, none⟩)) x h = stC n o 1 x h := nr rfl
@[go_sem] theorem za_38 {nm : Nat} : (Γ 38).map (fun t => (Value.pointer (some ⟨nm, 0, none⟩), ({ cells := t.zero, rw := true } : Blk))) = some (.pointer (some ⟨nm, 0, none⟩), { cells := [Value.slice none 0 0], rw := true }) := nr rfl
@[go_sem] theorem es_48 : es Γ 48 = some 2 := nr rfl
@[go_sem] theorem st_48 : isStr Γ 48 = some false := nr rfl
theorem mk_48 {nm n : Nat} {kk k' : IntKind} (hn : n < 4294967296) : mkO Γ nm 48 (.int kk (n : Int)) (.int k' (n : Int)) = some (.slice (some ⟨nm, 0, none⟩) n (U 2), { cells := repZ [Value.int IntKind.i64 0, Value.slice none 0 0] n, rw := true }) := mkO_ok (i1 := ti117) rfl rfl (by decide) rfl (by decide) hn
theorem bs_48 {C : Rel} {D : DrawR} {Q : Ex → S → Prop} {k : List Fr} {s : S} {base i : Nat} {l : List POp} {d : Option Nat} {len : Nat} {parts : Array (Nat × Operand)} : OpG Γ E C D Q base i (⟨d, none, .buildSlice 48 len parts⟩ :: l) k s = OpK Γ E C D Q base (i + 1) l k s d (base + i) (bsO (base + i) 2 [Value.int IntKind.i64 0, Value.slice none 0 0] len (parts.toList.map fun p => (p.1, s.ev p.2))) := op_bs (i1 := ti117) rfl rfl rfl (by decide) rfl
theorem ap_48 {nm : Nat} {x y : Value} {h : Hp} : appendV Γ nm 48 48 x y h = apO 2 nm x h (apT 2 y h) := append_eq (i1 := ti117) rfl rfl (by decide) rfl (by decide) (by decide) rfl
attribute [go_sem] mk_48 bs_48 ap_48
@[go_sem] theorem nn_48 {a : Option Addr} {n c : Nat} : binV Γ E .neq 48 (.slice a n c) (.slice none 0 0) = some (.bool (!a.isNone)) := nr rfl
@[go_sem] theorem en_48 {a : Option Addr} {n c : Nat} : binV Γ E .eql 48 (.slice a n c) (.slice none 0 0) = some (.bool a.isNone) := nr rfl
@[go_sem] theorem ld_48 {n o : Nat} {h : Hp} : ldv Γ 48 (.pointer (some ⟨n, o, none⟩)) h = h.cell n o := nr rfl
@[go_sem] theorem sv_48 {n o : Nat} {x : Value} {h : Hp} : stv Γ 48 (.pointer (some ⟨n, o, none⟩)) x h = stC n o 1 x h := nr rfl
@[go_sem] theorem za_48 {nm : Nat} : (Γ 48).map (fun t => (Value.pointer (some ⟨nm, 0, none⟩), ({ cells := t.zero, rw := true } : Blk))) = some (.pointer (some ⟨nm, 0, none⟩), { cells := [Value.slice none 0 0], rw := true }) := nr rfl
@[go_sem] theorem es_49 : es Γ 49 = some 5 := nr rfl
@[go_sem] theorem st_49 : isStr Γ 49 = some false := nr rfl
theorem mk_49 {nm n : Nat} {kk k' : IntKind} (hn : n < 4294967296) : mkO Γ nm 49 (.int kk (n : Int)) (.int k' (n : Int)) = some (.slice (some ⟨nm, 0, none⟩) n (U 5), { cells := repZ [Value.int IntKind.i64 0, Value.int IntKind.i64 0, Value.int IntKind.i64 0, Value.int IntKind.i64 0, Value.int IntKind.i64 0] n, rw := true }) := mkO_ok (i1 := ti56) rfl rfl (by decide) rfl (by decide) hn
theorem bs_49 {C : Rel} {D : DrawR} {Q : Ex → S → Prop} {k : List Fr} {s : S} {base i : Nat} {l : List POp} {d : Option Nat} {len : Nat} {parts : Array (Nat × Operand)} : OpG Γ E C D Q base i (⟨d, none, .buildSlice 49 len parts⟩ :: l) k s = OpK Γ E C D Q base (i + 1) l k s d (base + i) (bsO (base + i) 5 [Value.int IntKind.i64 0, Value.int IntKind.i64 0, Value.int IntKind.i64 0, Value.int IntKind.i64 0, Value.int IntKind.i64 0] len (parts.toList.map fun p => (p.1, s.ev p.2))) := op_bs (i1 := ti56) rfl rfl rfl (by decide) rfl
theorem ap_49 {nm : Nat} {x y : Value} {h : Hp} : appendV Γ nm 49 49 x y h = apO 5 nm x h (apT 5 y h) := append_eq (i1 := ti56) rfl rfl (by decide) rfl (by decide) (by decide) rfl
attribute [go_sem] mk_49 bs_49 ap_49
@[go_sem] theorem nn_49 {a : Option Addr} {n c : Nat} : binV Γ E .neq 49 (.slice a n c) (.slice none 0 0) = some (.bool (!a.isNone)) := nr rfl
@[go_sem] theorem en_49 {a : Option Addr} {n c : Nat} : binV Γ E .eql 49 (.slice a n c) (.slice none 0 0) = some (.bool a.isNone) := nr rfl
@[go_sem] theorem ld_49 {n o : Nat} {h : Hp} : ldv Γ 49 (.pointer (some ⟨n, o, none⟩)) h = h.cell n o := nr rfl
@[go_sem] theorem sv_49 {n o : Nat} {x : Value} {h : Hp} : stv Γ 49 (.pointer (some ⟨n, o, none⟩)) x h = stC n o 1 x h := nr rfl
@[go_sem] theorem za_49 {nm : Nat} : (Γ 49).map (fun t => (Value.pointer (some ⟨nm, 0, none⟩), ({ cells := t.zero, rw := true } : Blk))) = some (.pointer (some ⟨nm, 0, none⟩), { cells := [Value.slice none 0 0], rw := true }) := nr rfl
@[go_sem] theorem ld_51 {n o : Nat} {h : Hp} : ldv Γ 51 (.pointer (some ⟨n, o, none⟩)) h = (h.cells n o 4).map fun cs => .agg cs.toArray := nr rfl
@[go_sem] theorem sv_51 {n o : Nat} {x : Value} {h : Hp} : stv Γ 51 (.pointer (some ⟨n, o, none⟩)) x h = stC n o 4 x h := nr rfl
@[go_sem] theorem za_51 {nm : Nat} : (Γ 51).map (fun t => (Value.pointer (some ⟨nm, 0, none⟩), ({ cells := t.zero, rw := true } : Blk))) = some (.pointer (some ⟨nm, 0, none⟩), { cells := [Value.int IntKind.i64 0, Value.int IntKind.i64 0, Value.int IntKind.i64 0, Value.int IntKind.i64 0], rw := true }) := nr rfl
@[go_sem] theorem ld_53 {n o : Nat} {h : Hp} : ldv Γ 53 (.pointer (some ⟨n, o, none⟩)) h = (h.cells n o 6).map fun cs => .agg cs.toArray := nr rfl
@[go_sem] theorem sv_53 {n o : Nat} {x : Value} {h : Hp} : stv Γ 53 (.pointer (some ⟨n, o, none⟩)) x h = stC n o 6 x h := nr rfl
@[go_sem] theorem za_53 {nm : Nat} : (Γ 53).map (fun t => (Value.pointer (some ⟨nm, 0, none⟩), ({ cells := t.zero, rw := true } : Blk))) = some (.pointer (some ⟨nm, 0, none⟩), { cells := [Value.slice none 0 0, Value.slice none 0 0, Value.int IntKind.i64 0, Value.int IntKind.i64 0, Value.int IntKind.i64 0, Value.int IntKind.i64 0], rw := true }) := nr rfl
@[go_sem] theorem ld_56 {n o : Nat} {h : Hp} : ldv Γ 56 (.pointer (some ⟨n, o, none⟩)) h = (h.cells n o 5).map fun cs => .agg cs.toArray := nr rfl
@[go_sem] theorem sv_56 {n o : Nat} {x : Value} {h : Hp} : stv Γ 56 (.pointer (some ⟨n, o, none⟩)) x h = stC n o 5 x h := nr rfl
@[go_sem] theorem za_56 {nm : Nat} : (Γ 56).map (fun t => (Value.pointer (some ⟨nm, 0, none⟩), ({ cells := t.zero, rw := true } : Blk))) = some (.pointer (some ⟨nm, 0, none⟩), { cells := [Value.int IntKind.i64 0, Value.int IntKind.i64 0, Value.int IntKind.i64 0, Value.int IntKind.i64 0, Value.int IntKind.i64 0], rw := true }) := nr rfl
@[go_sem] theorem ld_59 {n o : Nat} {h : Hp} : ldv Γ 59 (.pointer (some ⟨n, o, none⟩)) h = (h.cells n o 5).map fun cs => .agg cs.toArray := nr rfl
@[go_sem] theorem sv_59 {n o : Nat} {x : Value} {h : Hp} : stv Γ 59 (.pointer (some ⟨n, o, none⟩)) x h = stC n o 5 x h := nr rfl
@[go_sem] theorem za_59 {nm : Nat} : (Γ 59).map (fun t => (Value.pointer (some ⟨nm, 0, none⟩), ({ cells := t.zero, rw := true } : Blk))) = some (.pointer (some ⟨nm, 0, none⟩), { cells := [Value.int IntKind.i64 0, Value.int IntKind.i64 0, Value.int IntKind.i64 0, Value.int IntKind.i64 0, Value.int IntKind.i64 0], rw := true }) := nr rfl
@[go_sem] theorem ld_62 {n o : Nat} {h : Hp} : ldv Γ 62 (.pointer (some ⟨n, o, none⟩)) h = h.cell n o := nr rfl
@[go_sem] theorem sv_62 {n o : Nat} {x : Value} {h : Hp} : stv Γ 62 (.pointer (some ⟨n, o, none⟩)) x h = stC n o 1 x h := nr rfl
@[go_sem] theorem za_62 {nm : Nat} : (Γ 62).map (fun t => (Value.pointer (some ⟨nm, 0, none⟩), ({ cells := t.zero, rw := true } : Blk))) = some (.pointer (some ⟨nm, 0, none⟩), { cells := [Value.nilFunc], rw := true }) := nr rfl
@[go_sem] theorem es_74 : es Γ 74 = some 1 := nr rfl
@[go_sem] theorem st_74 : isStr Γ 74 = some false := nr rfl
theorem mk_74 {nm n : Nat} {kk k' : IntKind} (hn : n < 4294967296) : mkO Γ nm 74 (.int kk (n : Int)) (.int k' (n : Int)) = some (.slice (some ⟨nm, 0, none⟩) n (U 1), { cells := repZ [Value.bool false] n, rw := true }) := mkO_ok (i1 := ti4) rfl rfl (by decide) rfl (by decide) hn
theorem bs_74 {C : Rel} {D : DrawR} {Q : Ex → S → Prop} {k : List Fr} {s : S} {base i : Nat} {l : List POp} {d : Option Nat} {len : Nat} {parts : Array (Nat × Operand)} : OpG Γ E C D Q base i (⟨d, none, .buildSlice 74 len parts⟩ :: l) k s = OpK Γ E C D Q base (i + 1) l k s d (base + i) (bsO (base + i) 1 [Value.bool false] len (parts.toList.map fun p => (p.1, s.ev p.2))) := op_bs (i1 := ti4) rfl rfl rfl (by decide) rfl
theorem ap_74 {nm : Nat} {x y : Value} {h : Hp} : appendV Γ nm 74 74 x y h = apO 1 nm x h (apT 1 y h) := append_eq (i1 := ti4) rfl rfl (by decide) rfl (by decide) (by decide) rfl
attribute [go_sem] mk_74 bs_74 ap_74
@[go_sem] theorem nn_74 {a : Option Addr} {n c : Nat} : binV Γ E .neq 74 (.slice a n c) (.slice none 0 0) = some (.bool (!a.isNone)) := nr rfl
@[go_sem] theorem en_74 {a : Option Addr} {n c : Nat} : binV Γ E .eql 74 (.slice a n c) (.slice none 0 0) = some (.bool a.isNone) := nr rfl
@[go_sem] theorem ld_74 {n o : Nat} {h : Hp} : ldv Γ 74 (.pointer (some ⟨n, o, none⟩)) h = h.cell n o := nr rfl
@[go_sem] theorem sv_74 {n o : Nat} {x : Value} {h : Hp} : stv Γ 74 (.pointer (some ⟨n, o, none⟩)) x h = stC n o 1 x h := nr rfl
@[go_sem] theorem za_74 {nm : Nat} : (Γ 74).map (fun t => (Value.pointer (some ⟨nm, 0, none⟩), ({ cells := t.zero, rw := true } : Blk))) = some (.pointer (some ⟨nm, 0, none⟩), { cells := [Value.slice none 0 0], rw := true }) := nr rfl
@[go_sem] theorem es_81 : es Γ 81 = some 2 := nr rfl
@[go_sem] theorem st_81 : isStr Γ 81 = some false := nr rfl
theorem mk_81 {nm n : Nat} {kk k' : IntKind} (hn : n < 4294967296) : mkO Γ nm 81 (.int kk (n : Int)) (.int k' (n : Int)) = some (.slice (some ⟨nm, 0, none⟩) n (U 2), { cells := repZ [Value.int IntKind.i64 0, Value.slice none 0 0] n, rw := true }) := mkO_ok (i1 := ti148) rfl rfl (by decide) rfl (by decide) hn
theorem bs_81 {C : Rel} {D : DrawR} {Q : Ex → S → Prop} {k : List Fr} {s : S} {base i : Nat} {l : List POp} {d : Option Nat} {len : Nat} {parts : Array (Nat × Operand)} : OpG Γ E C D Q base i (⟨d, none, .buildSlice 81 len parts⟩ :: l) k s = OpK Γ E C D Q base (i + 1) l k s d (base + i) (bsO (base + i) 2 [Value.int IntKind.i64 0, Value.slice none 0 0] len (parts.toList.map fun p => (p.1, s.ev p.2))) := op_bs (i1 := ti148) rfl rfl rfl (by decide) rfl
theorem ap_81 {nm : Nat} {x y : Value} {h : Hp} : appendV Γ nm 81 81 x y h = apO 2 nm x h (apT 2 y h) := append_eq (i1 := ti148) rfl rfl (by decide) rfl (by decide) (by decide) rfl
attribute [go_sem] mk_81 bs_81 ap_81
@[go_sem] theorem nn_81 {a : Option Addr} {n c : Nat} : binV Γ E .neq 81 (.slice a n c) (.slice none 0 0) = some (.bool (!a.isNone)) := nr rfl
@[go_sem] theorem en_81 {a : Option Addr} {n c : Nat} : binV Γ E .eql 81 (.slice a n c) (.slice none 0 0) = some (.bool a.isNone) := nr rfl
@[go_sem] theorem ld_81 {n o : Nat} {h : Hp} : ldv Γ 81 (.pointer (some ⟨n, o, none⟩)) h = h.cell n o := nr rfl
@[go_sem] theorem sv_81 {n o : Nat} {x : Value} {h : Hp} : stv Γ 81 (.pointer (some ⟨n, o, none⟩)) x h = stC n o 1 x h := nr rfl
@[go_sem] theorem za_81 {nm : Nat} : (Γ 81).map (fun t => (Value.pointer (some ⟨nm, 0, none⟩), ({ cells := t.zero, rw := true } : Blk))) = some (.pointer (some ⟨nm, 0, none⟩), { cells := [Value.slice none 0 0], rw := true }) := nr rfl
@[go_sem] theorem es_82 : es Γ 82 = some 5 := nr rfl
@[go_sem] theorem st_82 : isStr Γ 82 = some false := nr rfl
theorem mk_82 {nm n : Nat} {kk k' : IntKind} (hn : n < 4294967296) : mkO Γ nm 82 (.int kk (n : Int)) (.int k' (n : Int)) = some (.slice (some ⟨nm, 0, none⟩) n (U 5), { cells := repZ [Value.int IntKind.i64 0, Value.int IntKind.i64 0, Value.int IntKind.i64 0, Value.int IntKind.i64 0, Value.int IntKind.i64 0] n, rw := true }) := mkO_ok (i1 := ti154) rfl rfl (by decide) rfl (by decide) hn
theorem bs_82 {C : Rel} {D : DrawR} {Q : Ex → S → Prop} {k : List Fr} {s : S} {base i : Nat} {l : List POp} {d : Option Nat} {len : Nat} {parts : Array (Nat × Operand)} : OpG Γ E C D Q base i (⟨d, none, .buildSlice 82 len parts⟩ :: l) k s = OpK Γ E C D Q base (i + 1) l k s d (base + i) (bsO (base + i) 5 [Value.int IntKind.i64 0, Value.int IntKind.i64 0, Value.int IntKind.i64 0, Value.int IntKind.i64 0, Value.int IntKind.i64 0] len (parts.toList.map fun p => (p.1, s.ev p.2))) := op_bs (i1 := ti154) rfl rfl rfl (by decide) rfl
theorem ap_82 {nm : Nat} {x y : Value} {h : Hp} : appendV Γ nm 82 82 x y h = apO 5 nm x h (apT 5 y h) := append_eq (i1 := ti154) rfl rfl (by decide) rfl (by decide) (by decide) rfl
attribute [go_sem] mk_82 bs_82 ap_82
@[go_sem] theorem nn_82 {a : Option Addr} {n c : Nat} : binV Γ E .neq 82 (.slice a n c) (.slice none 0 0) = some (.bool (!a.isNone)) := nr rfl
@[go_sem] theorem en_82 {a : Option Addr} {n c : Nat} : binV Γ E .eql 82 (.slice a n c) (.slice none 0 0) = some (.bool a.isNone) := nr rfl
@[go_sem] theorem ld_82 {n o : Nat} {h : Hp} : ldv Γ 82 (.pointer (some ⟨n, o, none⟩)) h = h.cell n o := nr rfl
@[go_sem] theorem sv_82 {n o : Nat} {x : Value} {h : Hp} : stv Γ 82 (.pointer (some ⟨n, o, none⟩)) x h = stC n o 1 x h := nr rfl
@[go_sem] theorem za_82 {nm : Nat} : (Γ 82).map (fun t => (Value.pointer (some ⟨nm, 0, none⟩), ({ cells := t.zero, rw := true } : Blk))) = some (.pointer (some ⟨nm, 0, none⟩), { cells := [Value.slice none 0 0], rw := true }) := nr rfl
@[go_sem] theorem ld_83 {n o : Nat} {h : Hp} : ldv Γ 83 (.pointer (some ⟨n, o, none⟩)) h = (h.cells n o 4).map fun cs => .agg cs.toArray := nr rfl
@[go_sem] theorem sv_83 {n o : Nat} {x : Value} {h : Hp} : stv Γ 83 (.pointer (some ⟨n, o, none⟩)) x h = stC n o 4 x h := nr rfl
@[go_sem] theorem za_83 {nm : Nat} : (Γ 83).map (fun t => (Value.pointer (some ⟨nm, 0, none⟩), ({ cells := t.zero, rw := true } : Blk))) = some (.pointer (some ⟨nm, 0, none⟩), { cells := [Value.int IntKind.i64 0, Value.int IntKind.i64 0, Value.int IntKind.i64 0, Value.int IntKind.i64 0], rw := true }) := nr rfl
@[go_sem] theorem ld_85 {n o : Nat} {h : Hp} : ldv Γ 85 (.pointer (some ⟨n, o, none⟩)) h = (h.cells n o 6).map fun cs => .agg cs.toArray := nr rfl
@[go_sem] theorem sv_85 {n o : Nat} {x : Value} {h : Hp} : stv Γ 85 (.pointer (some ⟨n, o, none⟩)) x h = stC n o 6 x h := nr rfl
@[go_sem] theorem za_85 {nm : Nat} : (Γ 85).map (fun t => (Value.pointer (some ⟨nm, 0, none⟩), ({ cells := t.zero, rw := true } : Blk))) = some (.pointer (some ⟨nm, 0, none⟩), { cells := [Value.slice none 0 0, Value.slice none 0 0, Value.int IntKind.i64 0, Value.int IntKind.i64 0, Value.int IntKind.i64 0, Value.int IntKind.i64 0], rw := true }) := nr rfl
@[go_sem] theorem ld_94 {n o : Nat} {h : Hp} : ldv Γ 94 (.pointer (some ⟨n, o, none⟩)) h = h.cell n o := nr rfl
@[go_sem] theorem sv_94 {n o : Nat} {x : Value} {h : Hp} : stv Γ 94 (.pointer (some ⟨n, o, none⟩)) x h = stC n o 1 x h := nr rfl
@[go_sem] theorem za_94 {nm : Nat} : (Γ 94).map (fun t => (Value.pointer (some ⟨nm, 0, none⟩), ({ cells := t.zero, rw := true } : Blk))) = some (.pointer (some ⟨nm, 0, none⟩), { cells := [Value.nilFunc], rw := true }) := nr rfl
@[go_sem] theorem ld_97 {n o : Nat} {h : Hp} : ldv Γ 97 (.pointer (some ⟨n, o, none⟩)) h = h.cell n o := nr rfl
@[go_sem] theorem sv_97 {n o : Nat} {x : Value} {h : Hp} : stv Γ 97 (.pointer (some ⟨n, o, none⟩)) x h = stC n o 1 x h := nr rfl
@[go_sem] theorem za_97 {nm : Nat} : (Γ 97).map (fun t => (Value.pointer (some ⟨nm, 0, none⟩), ({ cells := t.zero, rw := true } : Blk))) = some (.pointer (some ⟨nm, 0, none⟩), { cells := [Value.nilFunc], rw := true }) := nr rfl
@[go_sem] theorem es_115 : es Γ 115 = some 2 := nr rfl
@[go_sem] theorem st_115 : isStr Γ 115 = some false := nr rfl
theorem mk_115 {nm n : Nat} {kk k' : IntKind} (hn : n < 4294967296) : mkO Γ nm 115 (.int kk (n : Int)) (.int k' (n : Int)) = some (.slice (some ⟨nm, 0, none⟩) n (U 2), { cells := repZ [Value.int IntKind.i64 0, Value.int IntKind.i64 0] n, rw := true }) := mkO_ok (i1 := ti151) rfl rfl (by decide) rfl (by decide) hn
theorem bs_115 {C : Rel} {D : DrawR} {Q : Ex → S → Prop} {k : List Fr} {s : S} {base i : Nat} {l : List POp} {d : Option Nat} {len : Nat} {parts : Array (Nat × Operand)} : OpG Γ E C D Q base i (⟨d, none, .buildSlice 115 len parts⟩ :: l) k s = OpK Γ E C D Q base (i + 1) l k s d (base + i) (bsO (base + i) 2 [Value.int IntKind.i64 0, Value.int IntKind.i64 0] len (parts.toList.map fun p => (p.1, s.ev p.2))) := op_bs (i1 := ti151) rfl rfl rfl (by decide) rfl
theorem ap_115 {nm : Nat} {x y : Value} {h : Hp} : appendV Γ nm 115 115 x y h = apO 2 nm x h (apT 2 y h) := append_eq (i1 := ti151) rfl rfl (by decide) rfl (by decide) (by decide) rfl
attribute [go_sem] mk_115 bs_115 ap_115
@[go_sem] theorem nn_115 {a : Option Addr} {n c : Nat} : binV Γ E .neq 115 (.slice a n c) (.slice none 0 0) = some (.bool (!a.isNone)) := nr rfl
@[go_sem] theorem en_115 {a : Option Addr} {n c : Nat} : binV Γ E .eql 115 (.slice a n c) (.slice none 0 0) = some (.bool a.isNone) := nr rfl
@[go_sem] theorem ld_115 {n o : Nat} {h : Hp} : ldv Γ 115 (.pointer (some ⟨n, o, none⟩)) h = h.cell n o := nr rfl
@[go_sem] theorem sv_115 {n o : Nat} {x : Value} {h : Hp} : stv Γ 115 (.pointer (some ⟨n, o, none⟩)) x h = stC n o 1 x h := nr rfl
@[go_sem] theorem za_115 {nm : Nat} : (Γ 115).map (fun t => (Value.pointer (some ⟨nm, 0, none⟩), ({ cells := t.zero, rw := true } : Blk))) = some (.pointer (some ⟨nm, 0, none⟩), { cells := [Value.slice none 0 0], rw := true }) := nr rfl
@[go_sem] theorem ld_117 {n o : Nat} {h : Hp} : ldv Γ 117 (.pointer (some ⟨n, o, none⟩)) h = (h.cells n o 2).map fun cs => .agg cs.toArray := nr rfl
@[go_sem] theorem sv_117 {n o : Nat} {x : Value} {h : Hp} : stv Γ 117 (.pointer (some ⟨n, o, none⟩)) x h = stC n o 2 x h := nr rfl
@[go_sem] theorem za_117 {nm : Nat} : (Γ 117).map (fun t => (Value.pointer (some ⟨nm, 0, none⟩), ({ cells := t.zero, rw := true } : Blk))) = some (.pointer (some ⟨nm, 0, none⟩), { cells := [Value.int IntKind.i64 0, Value.slice none 0 0], rw := true }) := nr rfl
@[go_sem] theorem ld_124 {n o : Nat} {h : Hp} : ldv Γ 124 (.pointer (some ⟨n, o, none⟩)) h = h.cell n o := nr rfl
@[go_sem] theorem sv_124 {n o : Nat} {x : Value} {h : Hp} : stv Γ 124 (.pointer (some ⟨n, o, none⟩)) x h = stC n o 1 x h := nr rfl
@[go_sem] theorem za_124 {nm : Nat} : (Γ 124).map (fun t => (Value.pointer (some ⟨nm, 0, none⟩), ({ cells := t.zero, rw := true } : Blk))) = some (.pointer (some ⟨nm, 0, none⟩), { cells := [Value.nilFunc], rw := true }) := nr rfl
@[go_sem] theorem es_131 : es Γ 131 = some 1 := nr rfl
@[go_sem] theorem st_131 : isStr Γ 131 = some false := nr rfl
theorem mk_131 {nm n : Nat} {kk k' : IntKind} (hn : n < 4294967296) : mkO Γ nm 131 (.int kk (n : Int)) (.int k' (n : Int)) = some (.slice (some ⟨nm, 0, none⟩) n (U 1), { cells := repZ [Value.int IntKind.u8 0] n, rw := true }) := mkO_ok (i1 := ti5) rfl rfl (by decide) rfl (by decide) hn
theorem bs_131 {C : Rel} {D : DrawR} {Q : Ex → S → Prop} {k : List Fr} {s : S} {base i : Nat} {l : List POp} {d : Option Nat} {len : Nat} {parts : Array (Nat × Operand)} : OpG Γ E C D Q base i (⟨d, none, .buildSlice 131 len parts⟩ :: l) k s = OpK Γ E C D Q base (i + 1) l k s d (base + i) (bsO (base + i) 1 [Value.int IntKind.u8 0] len (parts.toList.map fun p => (p.1, s.ev p.2))) := op_bs (i1 := ti5) rfl rfl rfl (by decide) rfl
theorem ap_131 {nm : Nat} {x y : Value} {h : Hp} : appendV Γ nm 131 131 x y h = apO 1 nm x h (apT 1 y h) := append_eq (i1 := ti5) rfl rfl (by decide) rfl (by decide) (by decide) rfl
attribute [go_sem] mk_131 bs_131 ap_131
@[go_sem] theorem nn_131 {a : Option Addr} {n c : Nat} : binV Γ E .neq 131 (.slice a n c) (.slice none 0 0) = some (.bool (!a.isNone)) := nr rfl
@[go_sem] theorem en_131 {a : Option Addr} {n c : Nat} : binV Γ E .eql 131 (.slice a n c) (.slice none 0 0) = some (.bool a.isNone) := nr rfl
@[go_sem] theorem ld_131 {n o : Nat} {h : Hp} : ldv Γ 131 (.pointer (some ⟨n, o, none⟩)) h = h.cell n o := nr rfl
@[go_sem] theorem sv_131 {n o : Nat} {x : Value} {h : Hp} : stv Γ 131 (.pointer (some ⟨n, o, none⟩)) x h = stC n o 1 x h := nr rfl
@[go_sem] theorem za_131 {nm : Nat} : (Γ 131).map (fun t => (Value.pointer (some ⟨nm, 0, none⟩), ({ cells := t.zero, rw := true } : Blk))) = some (.pointer (some ⟨nm, 0, none⟩), { cells := [Value.slice none 0 0], rw := true }) := nr rfl
@[go_sem] theorem es_146 : es Γ 146 = some 2 := nr rfl
@[go_sem] theorem st_146 : isStr Γ 146 = some false := nr rfl
theorem mk_146 {nm n : Nat} {kk k' : IntKind} (hn : n < 4294967296) : mkO Γ nm 146 (.int kk (n : Int)) (.int k' (n : Int)) = some (.slice (some ⟨nm, 0, none⟩) n (U 2), { cells := repZ [Value.int IntKind.i64 0, Value.int IntKind.i64 0] n, rw := true }) := mkO_ok (i1 := ti168) rfl rfl (by decide) rfl (by decide) hn
theorem bs_146 {C : Rel} {D : DrawR} {Q : Ex → S → Prop} {k : List Fr} {s : S} {base i : Nat} {l : List POp} {d : Option Nat} {len : Nat} {parts : Array (Nat × Operand)} : OpG Γ E C D Q base i (⟨d, none, .buildSlice 146 len parts⟩ :: l) k s = OpK Γ E C D Q base (i + 1) l k s d (base + i) (bsO (base + i) 2 [Value.int IntKind.i64 0, Value.int IntKind.i64 0] len (parts.toList.map fun p => (p.1, s.ev p.2))) := op_bs (i1 := ti168) rfl rfl rfl (by decide) rfl
theorem ap_146 {nm : Nat} {x y : Value} {h : Hp} : appendV Γ nm 146 146 x y h = apO 2 nm x h (apT 2 y h) := append_eq (i1 := ti168) rfl rfl (by decide) rfl (by decide) (by decide) rfl
attribute [go_sem] mk_146 bs_146 ap_146
@[go_sem] theorem nn_146 {a : Option Addr} {n c : Nat} : binV Γ E .neq 146 (.slice a n c) (.slice none 0 0) = some (.bool (!a.isNone)) := nr rfl
@[go_sem] theorem en_146 {a : Option Addr} {n c : Nat} : binV Γ E .eql 146 (.slice a n c) (.slice none 0 0) = some (.bool a.isNone) := nr rfl
@[go_sem] theorem ld_146 {n o : Nat} {h : Hp} : ldv Γ 146 (.pointer (some ⟨n, o, none⟩)) h = h.cell n o := nr rfl
@[go_sem] theorem sv_146 {n o : Nat} {x : Value} {h : Hp} : stv Γ 146 (.pointer (some ⟨n, o, none⟩)) x h = stC n o 1 x h := nr rfl
@[go_sem] theorem za_146 {nm : Nat} : (Γ 146).map (fun t => (Value.pointer (some ⟨nm, 0, none⟩), ({ cells := t.zero, rw := true } : Blk))) = some (.pointer (some ⟨nm, 0, none⟩), { cells := [Value.slice none 0 0], rw := true }) := nr rfl
@[go_sem] theorem ld_148 {n o : Nat} {h : Hp} : ldv Γ 148 (.pointer (some ⟨n, o, none⟩)) h = (h.cells n o 2).map fun cs => .agg cs.toArray := nr rfl
@[go_sem] theorem sv_148 {n o : Nat} {x : Value} {h : Hp} : stv Γ 148 (.pointer (some ⟨n, o, none⟩)) x h = stC n o 2 x h := nr rfl
@[go_sem] theorem za_148 {nm : Nat} : (Γ 148).map (fun t => (Value.pointer (some ⟨nm, 0, none⟩), ({ cells := t.zero, rw := true } : Blk))) = some (.pointer (some ⟨nm, 0, none⟩), { cells := [Value.int IntKind.i64 0, Value.slice none 0 0], rw := true }) := nr rfl
@[go_sem] theorem ld_151 {n o : Nat} {h : Hp} : ldv Γ 151 (.pointer (some ⟨n, o, none⟩)) h = (h.cells n o 2).map fun cs => .agg cs.toArray := nr rfl
@[go_sem] theorem sv_151 {n o : Nat} {x : Value} {h : Hp} : stv Γ 151 (.pointer (some ⟨n, o, none⟩)) x h = stC n o 2 x h := nr rfl
@[go_sem] theorem za_151 {nm : Nat} : (Γ 151).map (fun t => (Value.pointer (some ⟨nm, 0, none⟩), ({ cells := t.zero, rw := true } : Blk))) = some (.pointer (some ⟨nm, 0, none⟩), { cells := [Value.int IntKind.i64 0, Value.int IntKind.i64 0], rw := true }) := nr rfl
@[go_sem] theorem ld_154 {n o : Nat} {h : Hp} : ldv Γ 154 (.pointer (some ⟨n, o, none⟩)) h = (h.cells n o 5).map fun cs => .agg cs.toArray := nr rfl
@[go_sem] theorem sv_154 {n o : Nat} {x : Value} {h : Hp} : stv Γ 154 (.pointer (some ⟨n, o, none⟩)) x h = stC n o 5 x h := nr rfl
@[go_sem] theorem za_154 {nm : Nat} : (Γ 154).map (fun t => (Value.pointer (some ⟨nm, 0, none⟩), ({ cells := t.zero, rw := true } : Blk))) = some (.pointer (some ⟨nm, 0, none⟩), { cells := [Value.int IntKind.i64 0, Value.int IntKind.i64 0, Value.int IntKind.i64 0, Value.int IntKind.i64 0, Value.int IntKind.i64 0], rw := true }) := nr rfl
@[go_sem] theorem ld_157 {n o : Nat} {h : Hp} : ldv Γ 157 (.pointer (some ⟨n, o, none⟩)) h = h.cell n o := nr rfl
@[go_sem] theorem sv_157 {n o : Nat} {x : Value} {h : Hp} : stv Γ 157 (.pointer (some ⟨n, o, none⟩)) x h = stC n o 1 x h := nr rfl
@[go_sem] theorem za_157 {nm : Nat} : (Γ 157).map (fun t => (Value.pointer (some ⟨nm, 0, none⟩), ({ cells := t.zero, rw := true } : Blk))) = some (.pointer (some ⟨nm, 0, none⟩), { cells := [Value.nilFunc], rw := true }) := nr rfl
@[go_sem] theorem ld_168 {n o : Nat} {h : Hp} : ldv Γ 168 (.pointer (some ⟨n, o, none⟩)) h = (h.cells n o 2).map fun cs => .agg cs.toArray := nr rfl
@[go_sem] theorem sv_168 {n o : Nat} {x : Value} {h : Hp} : stv Γ 168 (.pointer (some ⟨n, o, none⟩)) x h = stC n o 2 x h := nr rfl
@[go_sem] theorem za_168 {nm : Nat} : (Γ 168).map (fun t => (Value.pointer (some ⟨nm, 0, none⟩), ({ cells := t.zero, rw := true } : Blk))) = some (.pointer (some ⟨nm, 0, none⟩), { cells := [Value.int IntKind.i64 0, Value.int IntKind.i64 0], rw := true }) := nr rfl
@[go_sem] theorem cv_9_131 {C : Rel} {D : DrawR} {Q : Ex → S → Prop} {k : List Fr} {s : S} {base i : Nat} {l : List POp} {d : Option Nat} {x : Operand} : OpG Γ E C D Q base i (⟨d, none, .convert 9 131 x⟩ :: l) k s = OpK Γ E C D Q base (i + 1) l k s d (base + i) (cvB (base + i) (s.ev x)) := op_cvB rfl rfl rfl
def F_laws_FnExactEmit : FuncId := 3
def F_laws_szFn : FuncId := 6
def F_spec_Emit : FuncId := 7
def F_laws_toFn : FuncId := 8
def F_impl_Emit : FuncId := 9
def F_laws_eqStepS : FuncId := 10
def F_laws_eqFn : FuncId := 11
def F_laws_markFn : FuncId := 12
def F_laws_markStepS : FuncId := 13
def F_laws_heldStepS : FuncId := 14
def F_laws_szBlockS : FuncId := 24
def F_spec_PlainOk : FuncId := 25
def F_spec_l3Order : FuncId := 26
def F_spec_EmitIns : FuncId := 27
def F_spec_l15Term : FuncId := 28
def F_spec_MachineOk : FuncId := 29
def F_laws_toBlockS : FuncId := 30
def F_impl_PlainOk : FuncId := 31
def F_impl_Order : FuncId := 32
def F_impl_EmitIns : FuncId := 33
def F_impl_emitTerm : FuncId := 34
def F_impl_jumps : FuncId := 35
def F_impl_MachineOk : FuncId := 36
def F_laws_eqStep : FuncId := 37
def F_laws_eqBlockS : FuncId := 38
def F_laws_markBlockS : FuncId := 39
def F_spec_InsUses : FuncId := 42
def F_impl_isHome : FuncId := 57
def F_laws_szBlock : FuncId := 58
def F_spec_ShapeOk : FuncId := 59
def F_spec_l3Left : FuncId := 60
def F_spec_l15Home : FuncId := 61
def F_spec_l2Makes : FuncId := 62
def F_spec_l15Take : FuncId := 63
def F_spec_l15Give : FuncId := 64
def F_spec_l15Copy : FuncId := 65
def F_spec_WordOk : FuncId := 66
def F_spec_l1In : FuncId := 67
def F_spec_StepOk : FuncId := 68
def F_laws_toBlock : FuncId := 69
def F_impl_ShapeOk : FuncId := 70
def F_slices_ContainsFunc_impl_Block : FuncId := 71
def F_impl_PlainOk_1 : FuncId := 72
def F_impl_order : FuncId := 73
def F_impl_homed : FuncId := 74
def F_impl_emitCopy : FuncId := 75
def F_impl_has : FuncId := 76
def F_impl_taken : FuncId := 77
def F_impl_stepOf : FuncId := 78
def F_impl_in : FuncId := 79
def F_slices_ContainsFunc_impl_Step : FuncId := 80
def F_impl_MachineOk_1 : FuncId := 81
def F_impl_StepOk : FuncId := 82
def F_laws_eqBlock : FuncId := 83
def F_laws_markPhiS : FuncId := 84
def F_laws_markInsS : FuncId := 85
def F_laws_szPhiS : FuncId := 98
def F_laws_szInsS : FuncId := 99
def F_spec_l2Term : FuncId := 100
def F_spec_l2Phi : FuncId := 101
def F_spec_l2Ins : FuncId := 102
def F_spec_l3Succs : FuncId := 103
def F_spec_l14Reg : FuncId := 104
def F_laws_toPhiS : FuncId := 105
def F_laws_toInsS : FuncId := 106
def F_laws_toTerm : FuncId := 107
def F_impl_ShapeOk_1 : FuncId := 108
def F_impl_termOk : FuncId := 109
def F_slices_ContainsFunc_impl_Phi : FuncId := 110
def F_impl_ShapeOk_1_1 : FuncId := 111
def F_impl_phiOk : FuncId := 112
def F_slices_ContainsFunc_impl_Ins : FuncId := 113
def F_impl_ShapeOk_1_2 : FuncId := 114
def F_impl_insOk : FuncId := 115
def F_slices_IndexFunc_impl_Block : FuncId := 116
def F_impl_walk : FuncId := 117
def F_slices_Reverse_int : FuncId := 118
def F_impl_formOf : FuncId := 119
def F_slices_Contains_byte : FuncId := 120
def F_slices_IndexFunc_impl_Step : FuncId := 121
def F_impl_stepForm : FuncId := 122
def F_impl_stepPart : FuncId := 123
def F_laws_eqPhiS : FuncId := 124
def F_laws_eqInsS : FuncId := 125
def F_laws_eqTerm : FuncId := 126
def F_laws_markArmS : FuncId := 127
def F_impl_succs : FuncId := 133
def F_laws_szPhi : FuncId := 138
def F_spec_l2Value : FuncId := 139
def F_laws_toPhi : FuncId := 140
def F_laws_toIns : FuncId := 141
def F_impl_partOk : FuncId := 142
def F_slices_IndexFunc_impl_Phi : FuncId := 143
def F_slices_ContainsFunc_impl_Arm : FuncId := 144
def F_impl_phiOk_1 : FuncId := 145
def F_slices_IndexFunc_impl_Ins : FuncId := 146
def F_impl_WordOk : FuncId := 147
def F_slices_Index_byte : FuncId := 148
def F_laws_eqPhi : FuncId := 149
def F_laws_eqIns : FuncId := 150
def F_laws_szArmS : FuncId := 154
def F_laws_toArmS : FuncId := 155
def F_slices_IndexFunc_impl_Arm : FuncId := 156
def F_laws_eqArmS : FuncId := 157
def F_laws_toArm : FuncId := 159
def F_laws_eqArm : FuncId := 160
noncomputable def F : FuncId → Option Func
  | 3 => some Tryz.f3
  | 6 => some Tryz.f6
  | 7 => some Tryz.f7
  | 8 => some Tryz.f8
  | 9 => some Tryz.f9
  | 10 => some Tryz.f10
  | 11 => some Tryz.f11
  | 12 => some Tryz.f12
  | 13 => some Tryz.f13
  | 14 => some Tryz.f14
  | 24 => some Tryz.f24
  | 25 => some Tryz.f25
  | 26 => some Tryz.f26
  | 27 => some Tryz.f27
  | 28 => some Tryz.f28
  | 29 => some Tryz.f29
  | 30 => some Tryz.f30
  | 31 => some Tryz.f31
  | 32 => some Tryz.f32
  | 33 => some Tryz.f33
  | 34 => some Tryz.f34
  | 35 => some Tryz.f35
  | 36 => some Tryz.f36
  | 37 => some Tryz.f37
  | 38 => some Tryz.f38
  | 39 => some Tryz.f39
  | 42 => some Tryz.f42
  | 57 => some Tryz.f57
  | 58 => some Tryz.f58
  | 59 => some Tryz.f59
  | 60 => some Tryz.f60
  | 61 => some Tryz.f61
  | 62 => some Tryz.f62
  | 63 => some Tryz.f63
  | 64 => some Tryz.f64
  | 65 => some Tryz.f65
  | 66 => some Tryz.f66
  | 67 => some Tryz.f67
  | 68 => some Tryz.f68
  | 69 => some Tryz.f69
  | 70 => some Tryz.f70
  | 71 => some Tryz.f71
  | 72 => some Tryz.f72
  | 73 => some Tryz.f73
  | 74 => some Tryz.f74
  | 75 => some Tryz.f75
  | 76 => some Tryz.f76
  | 77 => some Tryz.f77
  | 78 => some Tryz.f78
  | 79 => some Tryz.f79
  | 80 => some Tryz.f80
  | 81 => some Tryz.f81
  | 82 => some Tryz.f82
  | 83 => some Tryz.f83
  | 84 => some Tryz.f84
  | 85 => some Tryz.f85
  | 98 => some Tryz.f98
  | 99 => some Tryz.f99
  | 100 => some Tryz.f100
  | 101 => some Tryz.f101
  | 102 => some Tryz.f102
  | 103 => some Tryz.f103
  | 104 => some Tryz.f104
  | 105 => some Tryz.f105
  | 106 => some Tryz.f106
  | 107 => some Tryz.f107
  | 108 => some Tryz.f108
  | 109 => some Tryz.f109
  | 110 => some Tryz.f110
  | 111 => some Tryz.f111
  | 112 => some Tryz.f112
  | 113 => some Tryz.f113
  | 114 => some Tryz.f114
  | 115 => some Tryz.f115
  | 116 => some Tryz.f116
  | 117 => some Tryz.f117
  | 118 => some Tryz.f118
  | 119 => some Tryz.f119
  | 120 => some Tryz.f120
  | 121 => some Tryz.f121
  | 122 => some Tryz.f122
  | 123 => some Tryz.f123
  | 124 => some Tryz.f124
  | 125 => some Tryz.f125
  | 126 => some Tryz.f126
  | 127 => some Tryz.f127
  | 133 => some Tryz.f133
  | 138 => some Tryz.f138
  | 139 => some Tryz.f139
  | 140 => some Tryz.f140
  | 141 => some Tryz.f141
  | 142 => some Tryz.f142
  | 143 => some Tryz.f143
  | 144 => some Tryz.f144
  | 145 => some Tryz.f145
  | 146 => some Tryz.f146
  | 147 => some Tryz.f147
  | 148 => some Tryz.f148
  | 149 => some Tryz.f149
  | 150 => some Tryz.f150
  | 154 => some Tryz.f154
  | 155 => some Tryz.f155
  | 156 => some Tryz.f156
  | 157 => some Tryz.f157
  | 159 => some Tryz.f159
  | 160 => some Tryz.f160
  | _ => none
theorem fok : FOk Tryz.prog F := by
  intro f fn h
  unfold F at h
  split at h
  · injection h with h; subst h; exact ⟨Tryz.func3, by kernel_rfl, _, rfl, by kernel_rfl, by kernel_rfl⟩
  · injection h with h; subst h; exact ⟨Tryz.func6, by kernel_rfl, _, rfl, by kernel_rfl, by kernel_rfl⟩
  · injection h with h; subst h; exact ⟨Tryz.func7, by kernel_rfl, _, rfl, by kernel_rfl, by kernel_rfl⟩
  · injection h with h; subst h; exact ⟨Tryz.func8, by kernel_rfl, _, rfl, by kernel_rfl, by kernel_rfl⟩
  · injection h with h; subst h; exact ⟨Tryz.func9, by kernel_rfl, _, rfl, by kernel_rfl, by kernel_rfl⟩
  · injection h with h; subst h; exact ⟨Tryz.func10, by kernel_rfl, _, rfl, by kernel_rfl, by kernel_rfl⟩
  · injection h with h; subst h; exact ⟨Tryz.func11, by kernel_rfl, _, rfl, by kernel_rfl, by kernel_rfl⟩
  · injection h with h; subst h; exact ⟨Tryz.func12, by kernel_rfl, _, rfl, by kernel_rfl, by kernel_rfl⟩
  · injection h with h; subst h; exact ⟨Tryz.func13, by kernel_rfl, _, rfl, by kernel_rfl, by kernel_rfl⟩
  · injection h with h; subst h; exact ⟨Tryz.func14, by kernel_rfl, _, rfl, by kernel_rfl, by kernel_rfl⟩
  · injection h with h; subst h; exact ⟨Tryz.func24, by kernel_rfl, _, rfl, by kernel_rfl, by kernel_rfl⟩
  · injection h with h; subst h; exact ⟨Tryz.func25, by kernel_rfl, _, rfl, by kernel_rfl, by kernel_rfl⟩
  · injection h with h; subst h; exact ⟨Tryz.func26, by kernel_rfl, _, rfl, by kernel_rfl, by kernel_rfl⟩
  · injection h with h; subst h; exact ⟨Tryz.func27, by kernel_rfl, _, rfl, by kernel_rfl, by kernel_rfl⟩
  · injection h with h; subst h; exact ⟨Tryz.func28, by kernel_rfl, _, rfl, by kernel_rfl, by kernel_rfl⟩
  · injection h with h; subst h; exact ⟨Tryz.func29, by kernel_rfl, _, rfl, by kernel_rfl, by kernel_rfl⟩
  · injection h with h; subst h; exact ⟨Tryz.func30, by kernel_rfl, _, rfl, by kernel_rfl, by kernel_rfl⟩
  · injection h with h; subst h; exact ⟨Tryz.func31, by kernel_rfl, _, rfl, by kernel_rfl, by kernel_rfl⟩
  · injection h with h; subst h; exact ⟨Tryz.func32, by kernel_rfl, _, rfl, by kernel_rfl, by kernel_rfl⟩
  · injection h with h; subst h; exact ⟨Tryz.func33, by kernel_rfl, _, rfl, by kernel_rfl, by kernel_rfl⟩
  · injection h with h; subst h; exact ⟨Tryz.func34, by kernel_rfl, _, rfl, by kernel_rfl, by kernel_rfl⟩
  · injection h with h; subst h; exact ⟨Tryz.func35, by kernel_rfl, _, rfl, by kernel_rfl, by kernel_rfl⟩
  · injection h with h; subst h; exact ⟨Tryz.func36, by kernel_rfl, _, rfl, by kernel_rfl, by kernel_rfl⟩
  · injection h with h; subst h; exact ⟨Tryz.func37, by kernel_rfl, _, rfl, by kernel_rfl, by kernel_rfl⟩
  · injection h with h; subst h; exact ⟨Tryz.func38, by kernel_rfl, _, rfl, by kernel_rfl, by kernel_rfl⟩
  · injection h with h; subst h; exact ⟨Tryz.func39, by kernel_rfl, _, rfl, by kernel_rfl, by kernel_rfl⟩
  · injection h with h; subst h; exact ⟨Tryz.func42, by kernel_rfl, _, rfl, by kernel_rfl, by kernel_rfl⟩
  · injection h with h; subst h; exact ⟨Tryz.func57, by kernel_rfl, _, rfl, by kernel_rfl, by kernel_rfl⟩
  · injection h with h; subst h; exact ⟨Tryz.func58, by kernel_rfl, _, rfl, by kernel_rfl, by kernel_rfl⟩
  · injection h with h; subst h; exact ⟨Tryz.func59, by kernel_rfl, _, rfl, by kernel_rfl, by kernel_rfl⟩
  · injection h with h; subst h; exact ⟨Tryz.func60, by kernel_rfl, _, rfl, by kernel_rfl, by kernel_rfl⟩
  · injection h with h; subst h; exact ⟨Tryz.func61, by kernel_rfl, _, rfl, by kernel_rfl, by kernel_rfl⟩
  · injection h with h; subst h; exact ⟨Tryz.func62, by kernel_rfl, _, rfl, by kernel_rfl, by kernel_rfl⟩
  · injection h with h; subst h; exact ⟨Tryz.func63, by kernel_rfl, _, rfl, by kernel_rfl, by kernel_rfl⟩
  · injection h with h; subst h; exact ⟨Tryz.func64, by kernel_rfl, _, rfl, by kernel_rfl, by kernel_rfl⟩
  · injection h with h; subst h; exact ⟨Tryz.func65, by kernel_rfl, _, rfl, by kernel_rfl, by kernel_rfl⟩
  · injection h with h; subst h; exact ⟨Tryz.func66, by kernel_rfl, _, rfl, by kernel_rfl, by kernel_rfl⟩
  · injection h with h; subst h; exact ⟨Tryz.func67, by kernel_rfl, _, rfl, by kernel_rfl, by kernel_rfl⟩
  · injection h with h; subst h; exact ⟨Tryz.func68, by kernel_rfl, _, rfl, by kernel_rfl, by kernel_rfl⟩
  · injection h with h; subst h; exact ⟨Tryz.func69, by kernel_rfl, _, rfl, by kernel_rfl, by kernel_rfl⟩
  · injection h with h; subst h; exact ⟨Tryz.func70, by kernel_rfl, _, rfl, by kernel_rfl, by kernel_rfl⟩
  · injection h with h; subst h; exact ⟨Tryz.func71, by kernel_rfl, _, rfl, by kernel_rfl, by kernel_rfl⟩
  · injection h with h; subst h; exact ⟨Tryz.func72, by kernel_rfl, _, rfl, by kernel_rfl, by kernel_rfl⟩
  · injection h with h; subst h; exact ⟨Tryz.func73, by kernel_rfl, _, rfl, by kernel_rfl, by kernel_rfl⟩
  · injection h with h; subst h; exact ⟨Tryz.func74, by kernel_rfl, _, rfl, by kernel_rfl, by kernel_rfl⟩
  · injection h with h; subst h; exact ⟨Tryz.func75, by kernel_rfl, _, rfl, by kernel_rfl, by kernel_rfl⟩
  · injection h with h; subst h; exact ⟨Tryz.func76, by kernel_rfl, _, rfl, by kernel_rfl, by kernel_rfl⟩
  · injection h with h; subst h; exact ⟨Tryz.func77, by kernel_rfl, _, rfl, by kernel_rfl, by kernel_rfl⟩
  · injection h with h; subst h; exact ⟨Tryz.func78, by kernel_rfl, _, rfl, by kernel_rfl, by kernel_rfl⟩
  · injection h with h; subst h; exact ⟨Tryz.func79, by kernel_rfl, _, rfl, by kernel_rfl, by kernel_rfl⟩
  · injection h with h; subst h; exact ⟨Tryz.func80, by kernel_rfl, _, rfl, by kernel_rfl, by kernel_rfl⟩
  · injection h with h; subst h; exact ⟨Tryz.func81, by kernel_rfl, _, rfl, by kernel_rfl, by kernel_rfl⟩
  · injection h with h; subst h; exact ⟨Tryz.func82, by kernel_rfl, _, rfl, by kernel_rfl, by kernel_rfl⟩
  · injection h with h; subst h; exact ⟨Tryz.func83, by kernel_rfl, _, rfl, by kernel_rfl, by kernel_rfl⟩
  · injection h with h; subst h; exact ⟨Tryz.func84, by kernel_rfl, _, rfl, by kernel_rfl, by kernel_rfl⟩
  · injection h with h; subst h; exact ⟨Tryz.func85, by kernel_rfl, _, rfl, by kernel_rfl, by kernel_rfl⟩
  · injection h with h; subst h; exact ⟨Tryz.func98, by kernel_rfl, _, rfl, by kernel_rfl, by kernel_rfl⟩
  · injection h with h; subst h; exact ⟨Tryz.func99, by kernel_rfl, _, rfl, by kernel_rfl, by kernel_rfl⟩
  · injection h with h; subst h; exact ⟨Tryz.func100, by kernel_rfl, _, rfl, by kernel_rfl, by kernel_rfl⟩
  · injection h with h; subst h; exact ⟨Tryz.func101, by kernel_rfl, _, rfl, by kernel_rfl, by kernel_rfl⟩
  · injection h with h; subst h; exact ⟨Tryz.func102, by kernel_rfl, _, rfl, by kernel_rfl, by kernel_rfl⟩
  · injection h with h; subst h; exact ⟨Tryz.func103, by kernel_rfl, _, rfl, by kernel_rfl, by kernel_rfl⟩
  · injection h with h; subst h; exact ⟨Tryz.func104, by kernel_rfl, _, rfl, by kernel_rfl, by kernel_rfl⟩
  · injection h with h; subst h; exact ⟨Tryz.func105, by kernel_rfl, _, rfl, by kernel_rfl, by kernel_rfl⟩
  · injection h with h; subst h; exact ⟨Tryz.func106, by kernel_rfl, _, rfl, by kernel_rfl, by kernel_rfl⟩
  · injection h with h; subst h; exact ⟨Tryz.func107, by kernel_rfl, _, rfl, by kernel_rfl, by kernel_rfl⟩
  · injection h with h; subst h; exact ⟨Tryz.func108, by kernel_rfl, _, rfl, by kernel_rfl, by kernel_rfl⟩
  · injection h with h; subst h; exact ⟨Tryz.func109, by kernel_rfl, _, rfl, by kernel_rfl, by kernel_rfl⟩
  · injection h with h; subst h; exact ⟨Tryz.func110, by kernel_rfl, _, rfl, by kernel_rfl, by kernel_rfl⟩
  · injection h with h; subst h; exact ⟨Tryz.func111, by kernel_rfl, _, rfl, by kernel_rfl, by kernel_rfl⟩
  · injection h with h; subst h; exact ⟨Tryz.func112, by kernel_rfl, _, rfl, by kernel_rfl, by kernel_rfl⟩
  · injection h with h; subst h; exact ⟨Tryz.func113, by kernel_rfl, _, rfl, by kernel_rfl, by kernel_rfl⟩
  · injection h with h; subst h; exact ⟨Tryz.func114, by kernel_rfl, _, rfl, by kernel_rfl, by kernel_rfl⟩
  · injection h with h; subst h; exact ⟨Tryz.func115, by kernel_rfl, _, rfl, by kernel_rfl, by kernel_rfl⟩
  · injection h with h; subst h; exact ⟨Tryz.func116, by kernel_rfl, _, rfl, by kernel_rfl, by kernel_rfl⟩
  · injection h with h; subst h; exact ⟨Tryz.func117, by kernel_rfl, _, rfl, by kernel_rfl, by kernel_rfl⟩
  · injection h with h; subst h; exact ⟨Tryz.func118, by kernel_rfl, _, rfl, by kernel_rfl, by kernel_rfl⟩
  · injection h with h; subst h; exact ⟨Tryz.func119, by kernel_rfl, _, rfl, by kernel_rfl, by kernel_rfl⟩
  · injection h with h; subst h; exact ⟨Tryz.func120, by kernel_rfl, _, rfl, by kernel_rfl, by kernel_rfl⟩
  · injection h with h; subst h; exact ⟨Tryz.func121, by kernel_rfl, _, rfl, by kernel_rfl, by kernel_rfl⟩
  · injection h with h; subst h; exact ⟨Tryz.func122, by kernel_rfl, _, rfl, by kernel_rfl, by kernel_rfl⟩
  · injection h with h; subst h; exact ⟨Tryz.func123, by kernel_rfl, _, rfl, by kernel_rfl, by kernel_rfl⟩
  · injection h with h; subst h; exact ⟨Tryz.func124, by kernel_rfl, _, rfl, by kernel_rfl, by kernel_rfl⟩
  · injection h with h; subst h; exact ⟨Tryz.func125, by kernel_rfl, _, rfl, by kernel_rfl, by kernel_rfl⟩
  · injection h with h; subst h; exact ⟨Tryz.func126, by kernel_rfl, _, rfl, by kernel_rfl, by kernel_rfl⟩
  · injection h with h; subst h; exact ⟨Tryz.func127, by kernel_rfl, _, rfl, by kernel_rfl, by kernel_rfl⟩
  · injection h with h; subst h; exact ⟨Tryz.func133, by kernel_rfl, _, rfl, by kernel_rfl, by kernel_rfl⟩
  · injection h with h; subst h; exact ⟨Tryz.func138, by kernel_rfl, _, rfl, by kernel_rfl, by kernel_rfl⟩
  · injection h with h; subst h; exact ⟨Tryz.func139, by kernel_rfl, _, rfl, by kernel_rfl, by kernel_rfl⟩
  · injection h with h; subst h; exact ⟨Tryz.func140, by kernel_rfl, _, rfl, by kernel_rfl, by kernel_rfl⟩
  · injection h with h; subst h; exact ⟨Tryz.func141, by kernel_rfl, _, rfl, by kernel_rfl, by kernel_rfl⟩
  · injection h with h; subst h; exact ⟨Tryz.func142, by kernel_rfl, _, rfl, by kernel_rfl, by kernel_rfl⟩
  · injection h with h; subst h; exact ⟨Tryz.func143, by kernel_rfl, _, rfl, by kernel_rfl, by kernel_rfl⟩
  · injection h with h; subst h; exact ⟨Tryz.func144, by kernel_rfl, _, rfl, by kernel_rfl, by kernel_rfl⟩
  · injection h with h; subst h; exact ⟨Tryz.func145, by kernel_rfl, _, rfl, by kernel_rfl, by kernel_rfl⟩
  · injection h with h; subst h; exact ⟨Tryz.func146, by kernel_rfl, _, rfl, by kernel_rfl, by kernel_rfl⟩
  · injection h with h; subst h; exact ⟨Tryz.func147, by kernel_rfl, _, rfl, by kernel_rfl, by kernel_rfl⟩
  · injection h with h; subst h; exact ⟨Tryz.func148, by kernel_rfl, _, rfl, by kernel_rfl, by kernel_rfl⟩
  · injection h with h; subst h; exact ⟨Tryz.func149, by kernel_rfl, _, rfl, by kernel_rfl, by kernel_rfl⟩
  · injection h with h; subst h; exact ⟨Tryz.func150, by kernel_rfl, _, rfl, by kernel_rfl, by kernel_rfl⟩
  · injection h with h; subst h; exact ⟨Tryz.func154, by kernel_rfl, _, rfl, by kernel_rfl, by kernel_rfl⟩
  · injection h with h; subst h; exact ⟨Tryz.func155, by kernel_rfl, _, rfl, by kernel_rfl, by kernel_rfl⟩
  · injection h with h; subst h; exact ⟨Tryz.func156, by kernel_rfl, _, rfl, by kernel_rfl, by kernel_rfl⟩
  · injection h with h; subst h; exact ⟨Tryz.func157, by kernel_rfl, _, rfl, by kernel_rfl, by kernel_rfl⟩
  · injection h with h; subst h; exact ⟨Tryz.func159, by kernel_rfl, _, rfl, by kernel_rfl, by kernel_rfl⟩
  · injection h with h; subst h; exact ⟨Tryz.func160, by kernel_rfl, _, rfl, by kernel_rfl, by kernel_rfl⟩
  · cases h
noncomputable def X0 : Rel := fun _ _ _ _ _ => False
abbrev CC : Rel := Call Γ E F X0 (Draw Γ E)
/-- What region of open order is meant. -/
abbrev DD : DrawR := Draw Γ E CC 0
abbrev OpEq (C : Rel) (D : DrawR) (l l' : List POp) : Prop := ∀ (Q : Ex → S → Prop) (b i : Nat) (k : List Fr) (s : S), OpG Γ E C D Q b i l k s = OpG Γ E C D Q b i l' k s
theorem opEq {C : Rel} {D : DrawR} {l l' : List POp} (h : l = l') : OpEq C D l l' := fun _ _ _ _ _ => by rw [h]
abbrev GoEq (C : Rel) (D : DrawR) (c c' : PC) : Prop := ∀ (Q : Ex → S → Prop) (k : List Fr) (s : S), Go Γ E C D Q c k s = Go Γ E C D Q c' k s
theorem goEq {C : Rel} {D : DrawR} {c c' : PC} (h : c = c') : GoEq C D c c' := fun _ _ _ => by rw [h]
end Go.Proofs.YtbfphlaeiahljaaGreatM
