import Derived.Test.YtgbaininmgdnoaaV3MiV
import Derived.Test.YtgbaininmgdnoaaChecked
import Derived.KernelRfl
/- The tables of the small machine for this program: its types and its functions, and that the program has them so. -/
namespace Go.Proofs.YtgbaininmgdnoaaM
open Go
set_option linter.unusedVariables false
set_option maxRecDepth 100000
noncomputable def ti3 : TI := ⟨.int .i64, 1, 8, [Value.int IntKind.i64 0]⟩
noncomputable def ti4 : TI := ⟨.bool, 1, 1, [Value.bool false]⟩
noncomputable def ti5 : TI := ⟨.int .u8, 1, 1, [Value.int IntKind.u8 0]⟩
noncomputable def ti9 : TI := ⟨.str, 1, 16, [Value.string ByteArray.empty]⟩
noncomputable def ti22 : TI := ⟨.slice 5, 1, 24, [Value.slice none 0 0]⟩
noncomputable def ti31 : TI := ⟨.struct [(0, 3), (1, 3), (2, 3), (3, 3), (4, 3)], 5, 40, [Value.int IntKind.i64 0, Value.int IntKind.i64 0, Value.int IntKind.i64 0, Value.int IntKind.i64 0, Value.int IntKind.i64 0]⟩
noncomputable def ti41 : TI := ⟨.slice 3, 1, 24, [Value.slice none 0 0]⟩
noncomputable def ti51 : TI := ⟨.slice 172, 1, 24, [Value.slice none 0 0]⟩
noncomputable def ti53 : TI := ⟨.struct [(0, 51), (1, 3)], 2, 32, [Value.slice none 0 0, Value.int IntKind.i64 0]⟩
noncomputable def ti57 : TI := ⟨.slice 127, 1, 24, [Value.slice none 0 0]⟩
noncomputable def ti59 : TI := ⟨.struct [(0, 57), (1, 3)], 2, 32, [Value.slice none 0 0, Value.int IntKind.i64 0]⟩
noncomputable def ti85 : TI := ⟨.fn, 1, 8, [Value.nilFunc]⟩
noncomputable def ti122 : TI := ⟨.slice 130, 1, 24, [Value.slice none 0 0]⟩
noncomputable def ti123 : TI := ⟨.slice 31, 1, 24, [Value.slice none 0 0]⟩
noncomputable def ti125 : TI := ⟨.struct [(0, 3), (1, 3), (2, 3), (3, 3)], 4, 32, [Value.int IntKind.i64 0, Value.int IntKind.i64 0, Value.int IntKind.i64 0, Value.int IntKind.i64 0]⟩
noncomputable def ti127 : TI := ⟨.struct [(0, 122), (1, 123), (2, 125)], 6, 80, [Value.slice none 0 0, Value.slice none 0 0, Value.int IntKind.i64 0, Value.int IntKind.i64 0, Value.int IntKind.i64 0, Value.int IntKind.i64 0]⟩
noncomputable def ti128 : TI := ⟨.slice 132, 1, 24, [Value.slice none 0 0]⟩
noncomputable def ti130 : TI := ⟨.struct [(0, 3), (1, 128)], 2, 32, [Value.int IntKind.i64 0, Value.slice none 0 0]⟩
noncomputable def ti132 : TI := ⟨.struct [(0, 3), (1, 3)], 2, 16, [Value.int IntKind.i64 0, Value.int IntKind.i64 0]⟩
noncomputable def ti153 : TI := ⟨.slice 4, 1, 24, [Value.slice none 0 0]⟩
noncomputable def ti154 : TI := ⟨.slice 153, 1, 24, [Value.slice none 0 0]⟩
noncomputable def ti168 : TI := ⟨.slice 236, 1, 24, [Value.slice none 0 0]⟩
noncomputable def ti169 : TI := ⟨.slice 239, 1, 24, [Value.slice none 0 0]⟩
noncomputable def ti170 : TI := ⟨.struct [(0, 3), (1, 3), (2, 3), (3, 3)], 4, 32, [Value.int IntKind.i64 0, Value.int IntKind.i64 0, Value.int IntKind.i64 0, Value.int IntKind.i64 0]⟩
noncomputable def ti172 : TI := ⟨.struct [(0, 168), (1, 169), (2, 170)], 6, 80, [Value.slice none 0 0, Value.slice none 0 0, Value.int IntKind.i64 0, Value.int IntKind.i64 0, Value.int IntKind.i64 0, Value.int IntKind.i64 0]⟩
noncomputable def ti179 : TI := ⟨.fn, 1, 8, [Value.nilFunc]⟩
noncomputable def ti181 : TI := ⟨.fn, 1, 8, [Value.nilFunc]⟩
noncomputable def ti209 : TI := ⟨.fn, 1, 8, [Value.nilFunc]⟩
noncomputable def ti234 : TI := ⟨.slice 255, 1, 24, [Value.slice none 0 0]⟩
noncomputable def ti236 : TI := ⟨.struct [(0, 3), (1, 234)], 2, 32, [Value.int IntKind.i64 0, Value.slice none 0 0]⟩
noncomputable def ti239 : TI := ⟨.struct [(0, 3), (1, 3), (2, 3), (3, 3), (4, 3)], 5, 40, [Value.int IntKind.i64 0, Value.int IntKind.i64 0, Value.int IntKind.i64 0, Value.int IntKind.i64 0, Value.int IntKind.i64 0]⟩
noncomputable def ti255 : TI := ⟨.struct [(0, 3), (1, 3)], 2, 16, [Value.int IntKind.i64 0, Value.int IntKind.i64 0]⟩
noncomputable def Γ : TypeId → Option TI
  | 3 => some ti3
  | 4 => some ti4
  | 5 => some ti5
  | 9 => some ti9
  | 22 => some ti22
  | 31 => some ti31
  | 41 => some ti41
  | 51 => some ti51
  | 53 => some ti53
  | 57 => some ti57
  | 59 => some ti59
  | 85 => some ti85
  | 122 => some ti122
  | 123 => some ti123
  | 125 => some ti125
  | 127 => some ti127
  | 128 => some ti128
  | 130 => some ti130
  | 132 => some ti132
  | 153 => some ti153
  | 154 => some ti154
  | 168 => some ti168
  | 169 => some ti169
  | 170 => some ti170
  | 172 => some ti172
  | 179 => some ti179
  | 181 => some ti181
  | 209 => some ti209
  | 234 => some ti234
  | 236 => some ti236
  | 239 => some ti239
  | 255 => some ti255
  | _ => none
def E : TypeId → Nat
  | _ => 0
theorem Γ_cases {t : TypeId} {i : TI} (h : Γ t = some i) : (t = 3 ∧ i = ti3) ∨ (t = 4 ∧ i = ti4) ∨ (t = 5 ∧ i = ti5) ∨ (t = 9 ∧ i = ti9) ∨ (t = 22 ∧ i = ti22) ∨ (t = 31 ∧ i = ti31) ∨ (t = 41 ∧ i = ti41) ∨ (t = 51 ∧ i = ti51) ∨ (t = 53 ∧ i = ti53) ∨ (t = 57 ∧ i = ti57) ∨ (t = 59 ∧ i = ti59) ∨ (t = 85 ∧ i = ti85) ∨ (t = 122 ∧ i = ti122) ∨ (t = 123 ∧ i = ti123) ∨ (t = 125 ∧ i = ti125) ∨ (t = 127 ∧ i = ti127) ∨ (t = 128 ∧ i = ti128) ∨ (t = 130 ∧ i = ti130) ∨ (t = 132 ∧ i = ti132) ∨ (t = 153 ∧ i = ti153) ∨ (t = 154 ∧ i = ti154) ∨ (t = 168 ∧ i = ti168) ∨ (t = 169 ∧ i = ti169) ∨ (t = 170 ∧ i = ti170) ∨ (t = 172 ∧ i = ti172) ∨ (t = 179 ∧ i = ti179) ∨ (t = 181 ∧ i = ti181) ∨ (t = 209 ∧ i = ti209) ∨ (t = 234 ∧ i = ti234) ∨ (t = 236 ∧ i = ti236) ∨ (t = 239 ∧ i = ti239) ∨ (t = 255 ∧ i = ti255) := by
  unfold Γ at h
  split at h <;> first | (injection h with h; subst h; simp) | cases h
/-- One row of the table. -/
theorem row_ok {t : TypeId} {i : TI} {d : TypeDesc} (h : (Try.prog.info? t).map (fun x => (x.size, x.bytes, x.zero.map fun z => z.cells)) = some (i.size, i.bytes, some i.zero.toArray)) (hp : i.zero.all plainV = true) (hu : Try.prog.underlying t = some d) (hs : ShOk d i.sh) :
    ∃ inf, Try.prog.info? t = some inf ∧ inf.size = i.size ∧ inf.bytes = i.bytes ∧ (∃ z, inf.zero = some z ∧ z.cells = i.zero.toArray) ∧ (∀ v ∈ i.zero, plainV v = true) ∧ ∃ d, Try.prog.underlying t = some d ∧ ShOk d i.sh := by
  obtain ⟨inf, h1, h2⟩ := Option.map_eq_some_iff.1 h
  injection h2 with h2 h3
  injection h3 with h3 h4
  obtain ⟨z, h5, h6⟩ := Option.map_eq_some_iff.1 h4
  exact ⟨inf, h1, h2, h3, ⟨z, h5, h6⟩, fun v hv => List.all_eq_true.1 hp v hv, d, hu, hs⟩
theorem row3 : ∃ inf, Try.prog.info? 3 = some inf ∧ inf.size = ti3.size ∧ inf.bytes = ti3.bytes ∧ (∃ z, inf.zero = some z ∧ z.cells = ti3.zero.toArray) ∧ (∀ v ∈ ti3.zero, plainV v = true) ∧ ∃ d, Try.prog.underlying 3 = some d ∧ ShOk d ti3.sh :=
  row_ok (by kernel_rfl) rfl Try.underlying3 rfl
theorem row4 : ∃ inf, Try.prog.info? 4 = some inf ∧ inf.size = ti4.size ∧ inf.bytes = ti4.bytes ∧ (∃ z, inf.zero = some z ∧ z.cells = ti4.zero.toArray) ∧ (∀ v ∈ ti4.zero, plainV v = true) ∧ ∃ d, Try.prog.underlying 4 = some d ∧ ShOk d ti4.sh :=
  row_ok (by kernel_rfl) rfl Try.underlying4 rfl
theorem row5 : ∃ inf, Try.prog.info? 5 = some inf ∧ inf.size = ti5.size ∧ inf.bytes = ti5.bytes ∧ (∃ z, inf.zero = some z ∧ z.cells = ti5.zero.toArray) ∧ (∀ v ∈ ti5.zero, plainV v = true) ∧ ∃ d, Try.prog.underlying 5 = some d ∧ ShOk d ti5.sh :=
  row_ok (by kernel_rfl) rfl Try.underlying5 rfl
theorem row9 : ∃ inf, Try.prog.info? 9 = some inf ∧ inf.size = ti9.size ∧ inf.bytes = ti9.bytes ∧ (∃ z, inf.zero = some z ∧ z.cells = ti9.zero.toArray) ∧ (∀ v ∈ ti9.zero, plainV v = true) ∧ ∃ d, Try.prog.underlying 9 = some d ∧ ShOk d ti9.sh :=
  row_ok (by kernel_rfl) rfl Try.underlying9 rfl
theorem row22 : ∃ inf, Try.prog.info? 22 = some inf ∧ inf.size = ti22.size ∧ inf.bytes = ti22.bytes ∧ (∃ z, inf.zero = some z ∧ z.cells = ti22.zero.toArray) ∧ (∀ v ∈ ti22.zero, plainV v = true) ∧ ∃ d, Try.prog.underlying 22 = some d ∧ ShOk d ti22.sh :=
  row_ok (by kernel_rfl) rfl Try.underlying22 rfl
theorem row31 : ∃ inf, Try.prog.info? 31 = some inf ∧ inf.size = ti31.size ∧ inf.bytes = ti31.bytes ∧ (∃ z, inf.zero = some z ∧ z.cells = ti31.zero.toArray) ∧ (∀ v ∈ ti31.zero, plainV v = true) ∧ ∃ d, Try.prog.underlying 31 = some d ∧ ShOk d ti31.sh :=
  row_ok (by kernel_rfl) rfl Try.underlying31 ⟨_, rfl, rfl⟩
theorem row41 : ∃ inf, Try.prog.info? 41 = some inf ∧ inf.size = ti41.size ∧ inf.bytes = ti41.bytes ∧ (∃ z, inf.zero = some z ∧ z.cells = ti41.zero.toArray) ∧ (∀ v ∈ ti41.zero, plainV v = true) ∧ ∃ d, Try.prog.underlying 41 = some d ∧ ShOk d ti41.sh :=
  row_ok (by kernel_rfl) rfl Try.underlying41 rfl
theorem row51 : ∃ inf, Try.prog.info? 51 = some inf ∧ inf.size = ti51.size ∧ inf.bytes = ti51.bytes ∧ (∃ z, inf.zero = some z ∧ z.cells = ti51.zero.toArray) ∧ (∀ v ∈ ti51.zero, plainV v = true) ∧ ∃ d, Try.prog.underlying 51 = some d ∧ ShOk d ti51.sh :=
  row_ok (by kernel_rfl) rfl Try.underlying51 rfl
theorem row53 : ∃ inf, Try.prog.info? 53 = some inf ∧ inf.size = ti53.size ∧ inf.bytes = ti53.bytes ∧ (∃ z, inf.zero = some z ∧ z.cells = ti53.zero.toArray) ∧ (∀ v ∈ ti53.zero, plainV v = true) ∧ ∃ d, Try.prog.underlying 53 = some d ∧ ShOk d ti53.sh :=
  row_ok (by kernel_rfl) rfl Try.underlying53 ⟨_, rfl, rfl⟩
theorem row57 : ∃ inf, Try.prog.info? 57 = some inf ∧ inf.size = ti57.size ∧ inf.bytes = ti57.bytes ∧ (∃ z, inf.zero = some z ∧ z.cells = ti57.zero.toArray) ∧ (∀ v ∈ ti57.zero, plainV v = true) ∧ ∃ d, Try.prog.underlying 57 = some d ∧ ShOk d ti57.sh :=
  row_ok (by kernel_rfl) rfl Try.underlying57 rfl
theorem row59 : ∃ inf, Try.prog.info? 59 = some inf ∧ inf.size = ti59.size ∧ inf.bytes = ti59.bytes ∧ (∃ z, inf.zero = some z ∧ z.cells = ti59.zero.toArray) ∧ (∀ v ∈ ti59.zero, plainV v = true) ∧ ∃ d, Try.prog.underlying 59 = some d ∧ ShOk d ti59.sh :=
  row_ok (by kernel_rfl) rfl Try.underlying59 ⟨_, rfl, rfl⟩
theorem row85 : ∃ inf, Try.prog.info? 85 = some inf ∧ inf.size = ti85.size ∧ inf.bytes = ti85.bytes ∧ (∃ z, inf.zero = some z ∧ z.cells = ti85.zero.toArray) ∧ (∀ v ∈ ti85.zero, plainV v = true) ∧ ∃ d, Try.prog.underlying 85 = some d ∧ ShOk d ti85.sh :=
  row_ok (by kernel_rfl) rfl Try.underlying85 ⟨_, _, _, rfl⟩
theorem row122 : ∃ inf, Try.prog.info? 122 = some inf ∧ inf.size = ti122.size ∧ inf.bytes = ti122.bytes ∧ (∃ z, inf.zero = some z ∧ z.cells = ti122.zero.toArray) ∧ (∀ v ∈ ti122.zero, plainV v = true) ∧ ∃ d, Try.prog.underlying 122 = some d ∧ ShOk d ti122.sh :=
  row_ok (by kernel_rfl) rfl Try.underlying122 rfl
theorem row123 : ∃ inf, Try.prog.info? 123 = some inf ∧ inf.size = ti123.size ∧ inf.bytes = ti123.bytes ∧ (∃ z, inf.zero = some z ∧ z.cells = ti123.zero.toArray) ∧ (∀ v ∈ ti123.zero, plainV v = true) ∧ ∃ d, Try.prog.underlying 123 = some d ∧ ShOk d ti123.sh :=
  row_ok (by kernel_rfl) rfl Try.underlying123 rfl
theorem row125 : ∃ inf, Try.prog.info? 125 = some inf ∧ inf.size = ti125.size ∧ inf.bytes = ti125.bytes ∧ (∃ z, inf.zero = some z ∧ z.cells = ti125.zero.toArray) ∧ (∀ v ∈ ti125.zero, plainV v = true) ∧ ∃ d, Try.prog.underlying 125 = some d ∧ ShOk d ti125.sh :=
  row_ok (by kernel_rfl) rfl Try.underlying125 ⟨_, rfl, rfl⟩
theorem row127 : ∃ inf, Try.prog.info? 127 = some inf ∧ inf.size = ti127.size ∧ inf.bytes = ti127.bytes ∧ (∃ z, inf.zero = some z ∧ z.cells = ti127.zero.toArray) ∧ (∀ v ∈ ti127.zero, plainV v = true) ∧ ∃ d, Try.prog.underlying 127 = some d ∧ ShOk d ti127.sh :=
  row_ok (by kernel_rfl) rfl Try.underlying127 ⟨_, rfl, rfl⟩
theorem row128 : ∃ inf, Try.prog.info? 128 = some inf ∧ inf.size = ti128.size ∧ inf.bytes = ti128.bytes ∧ (∃ z, inf.zero = some z ∧ z.cells = ti128.zero.toArray) ∧ (∀ v ∈ ti128.zero, plainV v = true) ∧ ∃ d, Try.prog.underlying 128 = some d ∧ ShOk d ti128.sh :=
  row_ok (by kernel_rfl) rfl Try.underlying128 rfl
theorem row130 : ∃ inf, Try.prog.info? 130 = some inf ∧ inf.size = ti130.size ∧ inf.bytes = ti130.bytes ∧ (∃ z, inf.zero = some z ∧ z.cells = ti130.zero.toArray) ∧ (∀ v ∈ ti130.zero, plainV v = true) ∧ ∃ d, Try.prog.underlying 130 = some d ∧ ShOk d ti130.sh :=
  row_ok (by kernel_rfl) rfl Try.underlying130 ⟨_, rfl, rfl⟩
theorem row132 : ∃ inf, Try.prog.info? 132 = some inf ∧ inf.size = ti132.size ∧ inf.bytes = ti132.bytes ∧ (∃ z, inf.zero = some z ∧ z.cells = ti132.zero.toArray) ∧ (∀ v ∈ ti132.zero, plainV v = true) ∧ ∃ d, Try.prog.underlying 132 = some d ∧ ShOk d ti132.sh :=
  row_ok (by kernel_rfl) rfl Try.underlying132 ⟨_, rfl, rfl⟩
theorem row153 : ∃ inf, Try.prog.info? 153 = some inf ∧ inf.size = ti153.size ∧ inf.bytes = ti153.bytes ∧ (∃ z, inf.zero = some z ∧ z.cells = ti153.zero.toArray) ∧ (∀ v ∈ ti153.zero, plainV v = true) ∧ ∃ d, Try.prog.underlying 153 = some d ∧ ShOk d ti153.sh :=
  row_ok (by kernel_rfl) rfl Try.underlying153 rfl
theorem row154 : ∃ inf, Try.prog.info? 154 = some inf ∧ inf.size = ti154.size ∧ inf.bytes = ti154.bytes ∧ (∃ z, inf.zero = some z ∧ z.cells = ti154.zero.toArray) ∧ (∀ v ∈ ti154.zero, plainV v = true) ∧ ∃ d, Try.prog.underlying 154 = some d ∧ ShOk d ti154.sh :=
  row_ok (by kernel_rfl) rfl Try.underlying154 rfl
theorem row168 : ∃ inf, Try.prog.info? 168 = some inf ∧ inf.size = ti168.size ∧ inf.bytes = ti168.bytes ∧ (∃ z, inf.zero = some z ∧ z.cells = ti168.zero.toArray) ∧ (∀ v ∈ ti168.zero, plainV v = true) ∧ ∃ d, Try.prog.underlying 168 = some d ∧ ShOk d ti168.sh :=
  row_ok (by kernel_rfl) rfl Try.underlying168 rfl
theorem row169 : ∃ inf, Try.prog.info? 169 = some inf ∧ inf.size = ti169.size ∧ inf.bytes = ti169.bytes ∧ (∃ z, inf.zero = some z ∧ z.cells = ti169.zero.toArray) ∧ (∀ v ∈ ti169.zero, plainV v = true) ∧ ∃ d, Try.prog.underlying 169 = some d ∧ ShOk d ti169.sh :=
  row_ok (by kernel_rfl) rfl Try.underlying169 rfl
theorem row170 : ∃ inf, Try.prog.info? 170 = some inf ∧ inf.size = ti170.size ∧ inf.bytes = ti170.bytes ∧ (∃ z, inf.zero = some z ∧ z.cells = ti170.zero.toArray) ∧ (∀ v ∈ ti170.zero, plainV v = true) ∧ ∃ d, Try.prog.underlying 170 = some d ∧ ShOk d ti170.sh :=
  row_ok (by kernel_rfl) rfl Try.underlying170 ⟨_, rfl, rfl⟩
theorem row172 : ∃ inf, Try.prog.info? 172 = some inf ∧ inf.size = ti172.size ∧ inf.bytes = ti172.bytes ∧ (∃ z, inf.zero = some z ∧ z.cells = ti172.zero.toArray) ∧ (∀ v ∈ ti172.zero, plainV v = true) ∧ ∃ d, Try.prog.underlying 172 = some d ∧ ShOk d ti172.sh :=
  row_ok (by kernel_rfl) rfl Try.underlying172 ⟨_, rfl, rfl⟩
theorem row179 : ∃ inf, Try.prog.info? 179 = some inf ∧ inf.size = ti179.size ∧ inf.bytes = ti179.bytes ∧ (∃ z, inf.zero = some z ∧ z.cells = ti179.zero.toArray) ∧ (∀ v ∈ ti179.zero, plainV v = true) ∧ ∃ d, Try.prog.underlying 179 = some d ∧ ShOk d ti179.sh :=
  row_ok (by kernel_rfl) rfl Try.underlying179 ⟨_, _, _, rfl⟩
theorem row181 : ∃ inf, Try.prog.info? 181 = some inf ∧ inf.size = ti181.size ∧ inf.bytes = ti181.bytes ∧ (∃ z, inf.zero = some z ∧ z.cells = ti181.zero.toArray) ∧ (∀ v ∈ ti181.zero, plainV v = true) ∧ ∃ d, Try.prog.underlying 181 = some d ∧ ShOk d ti181.sh :=
  row_ok (by kernel_rfl) rfl Try.underlying181 ⟨_, _, _, rfl⟩
theorem row209 : ∃ inf, Try.prog.info? 209 = some inf ∧ inf.size = ti209.size ∧ inf.bytes = ti209.bytes ∧ (∃ z, inf.zero = some z ∧ z.cells = ti209.zero.toArray) ∧ (∀ v ∈ ti209.zero, plainV v = true) ∧ ∃ d, Try.prog.underlying 209 = some d ∧ ShOk d ti209.sh :=
  row_ok (by kernel_rfl) rfl Try.underlying209 ⟨_, _, _, rfl⟩
theorem row234 : ∃ inf, Try.prog.info? 234 = some inf ∧ inf.size = ti234.size ∧ inf.bytes = ti234.bytes ∧ (∃ z, inf.zero = some z ∧ z.cells = ti234.zero.toArray) ∧ (∀ v ∈ ti234.zero, plainV v = true) ∧ ∃ d, Try.prog.underlying 234 = some d ∧ ShOk d ti234.sh :=
  row_ok (by kernel_rfl) rfl Try.underlying234 rfl
theorem row236 : ∃ inf, Try.prog.info? 236 = some inf ∧ inf.size = ti236.size ∧ inf.bytes = ti236.bytes ∧ (∃ z, inf.zero = some z ∧ z.cells = ti236.zero.toArray) ∧ (∀ v ∈ ti236.zero, plainV v = true) ∧ ∃ d, Try.prog.underlying 236 = some d ∧ ShOk d ti236.sh :=
  row_ok (by kernel_rfl) rfl Try.underlying236 ⟨_, rfl, rfl⟩
theorem row239 : ∃ inf, Try.prog.info? 239 = some inf ∧ inf.size = ti239.size ∧ inf.bytes = ti239.bytes ∧ (∃ z, inf.zero = some z ∧ z.cells = ti239.zero.toArray) ∧ (∀ v ∈ ti239.zero, plainV v = true) ∧ ∃ d, Try.prog.underlying 239 = some d ∧ ShOk d ti239.sh :=
  row_ok (by kernel_rfl) rfl Try.underlying239 ⟨_, rfl, rfl⟩
theorem row255 : ∃ inf, Try.prog.info? 255 = some inf ∧ inf.size = ti255.size ∧ inf.bytes = ti255.bytes ∧ (∃ z, inf.zero = some z ∧ z.cells = ti255.zero.toArray) ∧ (∀ v ∈ ti255.zero, plainV v = true) ∧ ∃ d, Try.prog.underlying 255 = some d ∧ ShOk d ti255.sh :=
  row_ok (by kernel_rfl) rfl Try.underlying255 ⟨_, rfl, rfl⟩
theorem know_ty : ∀ t i, Γ t = some i → ∃ inf, Try.prog.info? t = some inf ∧ inf.size = i.size ∧ inf.bytes = i.bytes ∧ (∃ z, inf.zero = some z ∧ z.cells = i.zero.toArray) ∧ (∀ v ∈ i.zero, plainV v = true) ∧ ∃ d, Try.prog.underlying t = some d ∧ ShOk d i.sh := by
  intro t i h
  unfold Γ at h
  split at h
  · injection h with h; subst h; exact row3
  · injection h with h; subst h; exact row4
  · injection h with h; subst h; exact row5
  · injection h with h; subst h; exact row9
  · injection h with h; subst h; exact row22
  · injection h with h; subst h; exact row31
  · injection h with h; subst h; exact row41
  · injection h with h; subst h; exact row51
  · injection h with h; subst h; exact row53
  · injection h with h; subst h; exact row57
  · injection h with h; subst h; exact row59
  · injection h with h; subst h; exact row85
  · injection h with h; subst h; exact row122
  · injection h with h; subst h; exact row123
  · injection h with h; subst h; exact row125
  · injection h with h; subst h; exact row127
  · injection h with h; subst h; exact row128
  · injection h with h; subst h; exact row130
  · injection h with h; subst h; exact row132
  · injection h with h; subst h; exact row153
  · injection h with h; subst h; exact row154
  · injection h with h; subst h; exact row168
  · injection h with h; subst h; exact row169
  · injection h with h; subst h; exact row170
  · injection h with h; subst h; exact row172
  · injection h with h; subst h; exact row179
  · injection h with h; subst h; exact row181
  · injection h with h; subst h; exact row209
  · injection h with h; subst h; exact row234
  · injection h with h; subst h; exact row236
  · injection h with h; subst h; exact row239
  · injection h with h; subst h; exact row255
  · cases h
theorem know : Know Try.prog Γ E := ⟨know_ty, fun t h => absurd rfl h, fun t h => absurd rfl h, by kernel_rfl⟩
@[go_sem] theorem fa_31_0 : fa Γ 31 0 = some 0 := nr rfl
@[go_sem] theorem fa_31_1 : fa Γ 31 1 = some 1 := nr rfl
@[go_sem] theorem fa_31_2 : fa Γ 31 2 = some 2 := nr rfl
@[go_sem] theorem fa_31_3 : fa Γ 31 3 = some 3 := nr rfl
@[go_sem] theorem fa_31_4 : fa Γ 31 4 = some 4 := nr rfl
@[go_sem] theorem fa_53_0 : fa Γ 53 0 = some 0 := nr rfl
@[go_sem] theorem fa_53_1 : fa Γ 53 1 = some 1 := nr rfl
@[go_sem] theorem fa_59_0 : fa Γ 59 0 = some 0 := nr rfl
@[go_sem] theorem fa_59_1 : fa Γ 59 1 = some 1 := nr rfl
@[go_sem] theorem fa_125_0 : fa Γ 125 0 = some 0 := nr rfl
@[go_sem] theorem fa_125_1 : fa Γ 125 1 = some 1 := nr rfl
@[go_sem] theorem fa_125_2 : fa Γ 125 2 = some 2 := nr rfl
@[go_sem] theorem fa_125_3 : fa Γ 125 3 = some 3 := nr rfl
@[go_sem] theorem fa_127_0 : fa Γ 127 0 = some 0 := nr rfl
@[go_sem] theorem fa_127_1 : fa Γ 127 1 = some 1 := nr rfl
@[go_sem] theorem fa_127_2 : fa Γ 127 2 = some 2 := nr rfl
@[go_sem] theorem fa_130_0 : fa Γ 130 0 = some 0 := nr rfl
@[go_sem] theorem fa_130_1 : fa Γ 130 1 = some 1 := nr rfl
@[go_sem] theorem fa_132_0 : fa Γ 132 0 = some 0 := nr rfl
@[go_sem] theorem fa_132_1 : fa Γ 132 1 = some 1 := nr rfl
@[go_sem] theorem fa_170_0 : fa Γ 170 0 = some 0 := nr rfl
@[go_sem] theorem fa_170_1 : fa Γ 170 1 = some 1 := nr rfl
@[go_sem] theorem fa_170_2 : fa Γ 170 2 = some 2 := nr rfl
@[go_sem] theorem fa_170_3 : fa Γ 170 3 = some 3 := nr rfl
@[go_sem] theorem fa_172_0 : fa Γ 172 0 = some 0 := nr rfl
@[go_sem] theorem fa_172_1 : fa Γ 172 1 = some 1 := nr rfl
@[go_sem] theorem fa_172_2 : fa Γ 172 2 = some 2 := nr rfl
@[go_sem] theorem fa_236_0 : fa Γ 236 0 = some 0 := nr rfl
@[go_sem] theorem fa_236_1 : fa Γ 236 1 = some 1 := nr rfl
@[go_sem] theorem fa_239_0 : fa Γ 239 0 = some 0 := nr rfl
@[go_sem] theorem fa_239_1 : fa Γ 239 1 = some 1 := nr rfl
@[go_sem] theorem fa_239_2 : fa Γ 239 2 = some 2 := nr rfl
@[go_sem] theorem fa_239_3 : fa Γ 239 3 = some 3 := nr rfl
@[go_sem] theorem fa_239_4 : fa Γ 239 4 = some 4 := nr rfl
@[go_sem] theorem fa_255_0 : fa Γ 255 0 = some 0 := nr rfl
@[go_sem] theorem fa_255_1 : fa Γ 255 1 = some 1 := nr rfl
@[go_sem] theorem ld_3 {n o : Nat} {h : Hp} : ldv Γ 3 (.pointer (some ⟨n, o, none⟩)) h = h.cell n o := nr rfl
@[go_sem] theorem sv_3 {n o : Nat} {x : Value} {h : Hp} : stv Γ 3 (.pointer (some ⟨n, o, none⟩)) x h = stC n o 1 x h := nr rfl
@[go_sem] theorem za_3 {nm : Nat} : (Γ 3).map (fun t => (Value.pointer (some ⟨nm, 0, none⟩), ({ cells := t.zero, rw := true } : Blk))) = some (.pointer (some ⟨nm, 0, none⟩), { cells := [Value.int IntKind.i64 0], rw := true }) := nr rfl
@[go_sem] theorem nb_4 {a b : Bool} : binV Γ E .neq 4 (.bool a) (.bool b) = some (.bool (!(a == b))) := nr rfl
@[go_sem] theorem eb_4 {a b : Bool} : binV Γ E .eql 4 (.bool a) (.bool b) = some (.bool (a == b)) := nr rfl
@[go_sem] theorem ld_4 {n o : Nat} {h : Hp} : ldv Γ 4 (.pointer (some ⟨n, o, none⟩)) h = h.cell n o := nr rfl
@[go_sem] theorem sv_4 {n o : Nat} {x : Value} {h : Hp} : stv Γ 4 (.pointer (some ⟨n, o, none⟩)) x h = stC n o 1 x h := nr rfl
@[go_sem] theorem za_4 {nm : Nat} : (Γ 4).map (fun t => (Value.pointer (some ⟨nm, 0, none⟩), ({ cells := t.zero, rw := true } : Blk))) = some (.pointer (some ⟨nm, 0, none⟩), { cells := [Value.bool false], rw := true }) := nr rfl
@[go_sem] theorem ld_5 {n o : Nat} {h : Hp} : ldv Γ 5 (.pointer (some ⟨n, o, none⟩)) h = h.cell n o := nr rfl
@[go_sem] theorem sv_5 {n o : Nat} {x : Value} {h : Hp} : stv Γ 5 (.pointer (some ⟨n, o, none⟩)) x h = stC n o 1 x h := nr rfl
@[go_sem] theorem za_5 {nm : Nat} : (Γ 5).map (fun t => (Value.pointer (some ⟨nm, 0, none⟩), ({ cells := t.zero, rw := true } : Blk))) = some (.pointer (some ⟨nm, 0, none⟩), { cells := [Value.int IntKind.u8 0], rw := true }) := nr rfl
@[go_sem] theorem st_9 : isStr Γ 9 = some true := nr rfl
@[go_sem] theorem ld_9 {n o : Nat} {h : Hp} : ldv Γ 9 (.pointer (some ⟨n, o, none⟩)) h = h.cell n o := nr rfl
@[go_sem] theorem sv_9 {n o : Nat} {x : Value} {h : Hp} : stv Γ 9 (.pointer (some ⟨n, o, none⟩)) x h = stC n o 1 x h := nr rfl
@[go_sem] theorem za_9 {nm : Nat} : (Γ 9).map (fun t => (Value.pointer (some ⟨nm, 0, none⟩), ({ cells := t.zero, rw := true } : Blk))) = some (.pointer (some ⟨nm, 0, none⟩), { cells := [Value.string ByteArray.empty], rw := true }) := nr rfl
@[go_sem] theorem es_22 : es Γ 22 = some 1 := nr rfl
@[go_sem] theorem st_22 : isStr Γ 22 = some false := nr rfl
theorem mk_22 {nm n : Nat} {kk k' : IntKind} (hn : n < 4294967296) : mkO Γ nm 22 (.int kk (n : Int)) (.int k' (n : Int)) = some (.slice (some ⟨nm, 0, none⟩) n (U 1), { cells := repZ [Value.int IntKind.u8 0] n, rw := true }) := mkO_ok (i1 := ti5) rfl rfl (by decide) rfl (by decide) hn
theorem bs_22 {C : Rel} {D : DrawR} {Q : Ex → S → Prop} {k : List Fr} {s : S} {base i : Nat} {l : List POp} {d : Option Nat} {len : Nat} {parts : Array (Nat × Operand)} : OpG Γ E C D Q base i (⟨d, none, .buildSlice 22 len parts⟩ :: l) k s = OpK Γ E C D Q base (i + 1) l k s d (base + i) (bsO (base + i) 1 [Value.int IntKind.u8 0] len (parts.toList.map fun p => (p.1, s.ev p.2))) := op_bs (i1 := ti5) rfl rfl rfl (by decide) rfl
theorem ap_22 {nm : Nat} {x y : Value} {h : Hp} : appendV Γ nm 22 22 x y h = apO 1 nm x h (apT 1 y h) := append_eq (i1 := ti5) rfl rfl (by decide) rfl (by decide) (by decide) rfl
attribute [go_sem] mk_22 bs_22 ap_22
@[go_sem] theorem nn_22 {a : Option Addr} {n c : Nat} : binV Γ E .neq 22 (.slice a n c) (.slice none 0 0) = some (.bool (!a.isNone)) := nr rfl
@[go_sem] theorem en_22 {a : Option Addr} {n c : Nat} : binV Γ E .eql 22 (.slice a n c) (.slice none 0 0) = some (.bool a.isNone) := nr rfl
@[go_sem] theorem ld_22 {n o : Nat} {h : Hp} : ldv Γ 22 (.pointer (some ⟨n, o, none⟩)) h = h.cell n o := nr rfl
@[go_sem] theorem sv_22 {n o : Nat} {x : Value} {h : Hp} : stv Γ 22 (.pointer (some ⟨n, o, none⟩)) x h = stC n o 1 x h := nr rfl
@[go_sem] theorem za_22 {nm : Nat} : (Γ 22).map (fun t => (Value.pointer (some ⟨nm, 0, none⟩), ({ cells := t.zero, rw := true } : Blk))) = some (.pointer (some ⟨nm, 0, none⟩), { cells := [Value.slice none 0 0], rw := true }) := nr rfl
@[go_sem] theorem ld_31 {n o : Nat} {h : Hp} : ldv Γ 31 (.pointer (some ⟨n, o, none⟩)) h = (h.cells n o 5).map fun cs => .agg cs.toArray := nr rfl
@[go_sem] theorem sv_31 {n o : Nat} {x : Value} {h : Hp} : stv Γ 31 (.pointer (some ⟨n, o, none⟩)) x h = stC n o 5 x h := nr rfl
@[go_sem] theorem za_31 {nm : Nat} : (Γ 31).map (fun t => (Value.pointer (some ⟨nm, 0, none⟩), ({ cells := t.zero, rw := true } : Blk))) = some (.pointer (some ⟨nm, 0, none⟩), { cells := [Value.int IntKind.i64 0, Value.int IntKind.i64 0, Value.int IntKind.i64 0, Value.int IntKind.i64 0, Value.int IntKind.i64 0], rw := true }) := nr rfl
@[go_sem] theorem es_41 : es Γ 41 = some 1 := nr rfl
@[go_sem] theorem st_41 : isStr Γ 41 = some false := nr rfl
theorem mk_41 {nm n : Nat} {kk k' : IntKind} (hn : n < 4294967296) : mkO Γ nm 41 (.int kk (n : Int)) (.int k' (n : Int)) = some (.slice (some ⟨nm, 0, none⟩) n (U 1), { cells := repZ [Value.int IntKind.i64 0] n, rw := true }) := mkO_ok (i1 := ti3) rfl rfl (by decide) rfl (by decide) hn
theorem bs_41 {C : Rel} {D : DrawR} {Q : Ex → S → Prop} {k : List Fr} {s : S} {base i : Nat} {l : List POp} {d : Option Nat} {len : Nat} {parts : Array (Nat × Operand)} : OpG Γ E C D Q base i (⟨d, none, .buildSlice 41 len parts⟩ :: l) k s = OpK Γ E C D Q base (i + 1) l k s d (base + i) (bsO (base + i) 1 [Value.int IntKind.i64 0] len (parts.toList.map fun p => (p.1, s.ev p.2))) := op_bs (i1 := ti3) rfl rfl rfl (by decide) rfl
theorem ap_41 {nm : Nat} {x y : Value} {h : Hp} : appendV Γ nm 41 41 x y h = apO 1 nm x h (apT 1 y h) := append_eq (i1 := ti3) rfl rfl (by decide) rfl (by decide) (by decide) rfl
attribute [go_sem] mk_41 bs_41 ap_41
@[go_sem] theorem nn_41 {a : Option Addr} {n c : Nat} : binV Γ E .neq 41 (.slice a n c) (.slice none 0 0) = some (.bool (!a.isNone)) := nr rfl
@[go_sem] theorem en_41 {a : Option Addr} {n c : Nat} : binV Γ E .eql 41 (.slice a n c) (.slice none 0 0) = some (.bool a.isNone) := nr rfl
@[go_sem] theorem ld_41 {n o : Nat} {h : Hp} : ldv Γ 41 (.pointer (some ⟨n, o, none⟩)) h = h.cell n o := nr rfl
@[go_sem] theorem sv_41 {n o : Nat} {x : Value} {h : Hp} : stv Γ 41 (.pointer (some ⟨n, o, none⟩)) x h = stC n o 1 x h := nr rfl
@[go_sem] theorem za_41 {nm : Nat} : (Γ 41).map (fun t => (Value.pointer (some ⟨nm, 0, none⟩), ({ cells := t.zero, rw := true } : Blk))) = some (.pointer (some ⟨nm, 0, none⟩), { cells := [Value.slice none 0 0], rw := true }) := nr rfl
@[go_sem] theorem es_51 : es Γ 51 = some 6 := nr rfl
@[go_sem] theorem st_51 : isStr Γ 51 = some false := nr rfl
theorem mk_51 {nm n : Nat} {kk k' : IntKind} (hn : n < 4294967296) : mkO Γ nm 51 (.int kk (n : Int)) (.int k' (n : Int)) = some (.slice (some ⟨nm, 0, none⟩) n (U 6), { cells := repZ [Value.slice none 0 0, Value.slice none 0 0, Value.int IntKind.i64 0, Value.int IntKind.i64 0, Value.int IntKind.i64 0, Value.int IntKind.i64 0] n, rw := true }) := mkO_ok (i1 := ti172) rfl rfl (by decide) rfl (by decide) hn
theorem bs_51 {C : Rel} {D : DrawR} {Q : Ex → S → Prop} {k : List Fr} {s : S} {base i : Nat} {l : List POp} {d : Option Nat} {len : Nat} {parts : Array (Nat × Operand)} : OpG Γ E C D Q base i (⟨d, none, .buildSlice 51 len parts⟩ :: l) k s = OpK Γ E C D Q base (i + 1) l k s d (base + i) (bsO (base + i) 6 [Value.slice none 0 0, Value.slice none 0 0, Value.int IntKind.i64 0, Value.int IntKind.i64 0, Value.int IntKind.i64 0, Value.int IntKind.i64 0] len (parts.toList.map fun p => (p.1, s.ev p.2))) := op_bs (i1 := ti172) rfl rfl rfl (by decide) rfl
theorem ap_51 {nm : Nat} {x y : Value} {h : Hp} : appendV Γ nm 51 51 x y h = apO 6 nm x h (apT 6 y h) := append_eq (i1 := ti172) rfl rfl (by decide) rfl (by decide) (by decide) rfl
attribute [go_sem] mk_51 bs_51 ap_51
@[go_sem] theorem nn_51 {a : Option Addr} {n c : Nat} : binV Γ E .neq 51 (.slice a n c) (.slice none 0 0) = some (.bool (!a.isNone)) := nr rfl
@[go_sem] theorem en_51 {a : Option Addr} {n c : Nat} : binV Γ E .eql 51 (.slice a n c) (.slice none 0 0) = some (.bool a.isNone) := nr rfl
@[go_sem] theorem ld_51 {n o : Nat} {h : Hp} : ldv Γ 51 (.pointer (some ⟨n, o, none⟩)) h = h.cell n o := nr rfl
@[go_sem] theorem sv_51 {n o : Nat} {x : Value} {h : Hp} : stv Γ 51 (.pointer (some ⟨n, o, none⟩)) x h = stC n o 1 x h := nr rfl
@[go_sem] theorem za_51 {nm : Nat} : (Γ 51).map (fun t => (Value.pointer (some ⟨nm, 0, none⟩), ({ cells := t.zero, rw := true } : Blk))) = some (.pointer (some ⟨nm, 0, none⟩), { cells := [Value.slice none 0 0], rw := true }) := nr rfl
@[go_sem] theorem ld_53 {n o : Nat} {h : Hp} : ldv Γ 53 (.pointer (some ⟨n, o, none⟩)) h = (h.cells n o 2).map fun cs => .agg cs.toArray := nr rfl
@[go_sem] theorem sv_53 {n o : Nat} {x : Value} {h : Hp} : stv Γ 53 (.pointer (some ⟨n, o, none⟩)) x h = stC n o 2 x h := nr rfl
@[go_sem] theorem za_53 {nm : Nat} : (Γ 53).map (fun t => (Value.pointer (some ⟨nm, 0, none⟩), ({ cells := t.zero, rw := true } : Blk))) = some (.pointer (some ⟨nm, 0, none⟩), { cells := [Value.slice none 0 0, Value.int IntKind.i64 0], rw := true }) := nr rfl
@[go_sem] theorem es_57 : es Γ 57 = some 6 := nr rfl
@[go_sem] theorem st_57 : isStr Γ 57 = some false := nr rfl
theorem mk_57 {nm n : Nat} {kk k' : IntKind} (hn : n < 4294967296) : mkO Γ nm 57 (.int kk (n : Int)) (.int k' (n : Int)) = some (.slice (some ⟨nm, 0, none⟩) n (U 6), { cells := repZ [Value.slice none 0 0, Value.slice none 0 0, Value.int IntKind.i64 0, Value.int IntKind.i64 0, Value.int IntKind.i64 0, Value.int IntKind.i64 0] n, rw := true }) := mkO_ok (i1 := ti127) rfl rfl (by decide) rfl (by decide) hn
theorem bs_57 {C : Rel} {D : DrawR} {Q : Ex → S → Prop} {k : List Fr} {s : S} {base i : Nat} {l : List POp} {d : Option Nat} {len : Nat} {parts : Array (Nat × Operand)} : OpG Γ E C D Q base i (⟨d, none, .buildSlice 57 len parts⟩ :: l) k s = OpK Γ E C D Q base (i + 1) l k s d (base + i) (bsO (base + i) 6 [Value.slice none 0 0, Value.slice none 0 0, Value.int IntKind.i64 0, Value.int IntKind.i64 0, Value.int IntKind.i64 0, Value.int IntKind.i64 0] len (parts.toList.map fun p => (p.1, s.ev p.2))) := op_bs (i1 := ti127) rfl rfl rfl (by decide) rfl
theorem ap_57 {nm : Nat} {x y : Value} {h : Hp} : appendV Γ nm 57 57 x y h = apO 6 nm x h (apT 6 y h) := append_eq (i1 := ti127) rfl rfl (by decide) rfl (by decide) (by decide) rfl
attribute [go_sem] mk_57 bs_57 ap_57
@[go_sem] theorem nn_57 {a : Option Addr} {n c : Nat} : binV Γ E .neq 57 (.slice a n c) (.slice none 0 0) = some (.bool (!a.isNone)) := nr rfl
@[go_sem] theorem en_57 {a : Option Addr} {n c : Nat} : binV Γ E .eql 57 (.slice a n c) (.slice none 0 0) = some (.bool a.isNone) := nr rfl
@[go_sem] theorem ld_57 {n o : Nat} {h : Hp} : ldv Γ 57 (.pointer (some ⟨n, o, none⟩)) h = h.cell n o := nr rfl
@[go_sem] theorem sv_57 {n o : Nat} {x : Value} {h : Hp} : stv Γ 57 (.pointer (some ⟨n, o, none⟩)) x h = stC n o 1 x h := nr rfl
@[go_sem] theorem za_57 {nm : Nat} : (Γ 57).map (fun t => (Value.pointer (some ⟨nm, 0, none⟩), ({ cells := t.zero, rw := true } : Blk))) = some (.pointer (some ⟨nm, 0, none⟩), { cells := [Value.slice none 0 0], rw := true }) := nr rfl
@[go_sem] theorem ld_59 {n o : Nat} {h : Hp} : ldv Γ 59 (.pointer (some ⟨n, o, none⟩)) h = (h.cells n o 2).map fun cs => .agg cs.toArray := nr rfl
@[go_sem] theorem sv_59 {n o : Nat} {x : Value} {h : Hp} : stv Γ 59 (.pointer (some ⟨n, o, none⟩)) x h = stC n o 2 x h := nr rfl
@[go_sem] theorem za_59 {nm : Nat} : (Γ 59).map (fun t => (Value.pointer (some ⟨nm, 0, none⟩), ({ cells := t.zero, rw := true } : Blk))) = some (.pointer (some ⟨nm, 0, none⟩), { cells := [Value.slice none 0 0, Value.int IntKind.i64 0], rw := true }) := nr rfl
@[go_sem] theorem ld_85 {n o : Nat} {h : Hp} : ldv Γ 85 (.pointer (some ⟨n, o, none⟩)) h = h.cell n o := nr rfl
@[go_sem] theorem sv_85 {n o : Nat} {x : Value} {h : Hp} : stv Γ 85 (.pointer (some ⟨n, o, none⟩)) x h = stC n o 1 x h := nr rfl
@[go_sem] theorem za_85 {nm : Nat} : (Γ 85).map (fun t => (Value.pointer (some ⟨nm, 0, none⟩), ({ cells := t.zero, rw := true } : Blk))) = some (.pointer (some ⟨nm, 0, none⟩), { cells := [Value.nilFunc], rw := true }) := nr rfl
@[go_sem] theorem es_122 : es Γ 122 = some 2 := nr rfl
@[go_sem] theorem st_122 : isStr Γ 122 = some false := nr rfl
theorem mk_122 {nm n : Nat} {kk k' : IntKind} (hn : n < 4294967296) : mkO Γ nm 122 (.int kk (n : Int)) (.int k' (n : Int)) = some (.slice (some ⟨nm, 0, none⟩) n (U 2), { cells := repZ [Value.int IntKind.i64 0, Value.slice none 0 0] n, rw := true }) := mkO_ok (i1 := ti130) rfl rfl (by decide) rfl (by decide) hn
theorem bs_122 {C : Rel} {D : DrawR} {Q : Ex → S → Prop} {k : List Fr} {s : S} {base i : Nat} {l : List POp} {d : Option Nat} {len : Nat} {parts : Array (Nat × Operand)} : OpG Γ E C D Q base i (⟨d, none, .buildSlice 122 len parts⟩ :: l) k s = OpK Γ E C D Q base (i + 1) l k s d (base + i) (bsO (base + i) 2 [Value.int IntKind.i64 0, Value.slice none 0 0] len (parts.toList.map fun p => (p.1, s.ev p.2))) := op_bs (i1 := ti130) rfl rfl rfl (by decide) rfl
theorem ap_122 {nm : Nat} {x y : Value} {h : Hp} : appendV Γ nm 122 122 x y h = apO 2 nm x h (apT 2 y h) := append_eq (i1 := ti130) rfl rfl (by decide) rfl (by decide) (by decide) rfl
attribute [go_sem] mk_122 bs_122 ap_122
@[go_sem] theorem nn_122 {a : Option Addr} {n c : Nat} : binV Γ E .neq 122 (.slice a n c) (.slice none 0 0) = some (.bool (!a.isNone)) := nr rfl
@[go_sem] theorem en_122 {a : Option Addr} {n c : Nat} : binV Γ E .eql 122 (.slice a n c) (.slice none 0 0) = some (.bool a.isNone) := nr rfl
@[go_sem] theorem ld_122 {n o : Nat} {h : Hp} : ldv Γ 122 (.pointer (some ⟨n, o, none⟩)) h = h.cell n o := nr rfl
@[go_sem] theorem sv_122 {n o : Nat} {x : Value} {h : Hp} : stv Γ 122 (.pointer (some ⟨n, o, none⟩)) x h = stC n o 1 x h := nr rfl
@[go_sem] theorem za_122 {nm : Nat} : (Γ 122).map (fun t => (Value.pointer (some ⟨nm, 0, none⟩), ({ cells := t.zero, rw := true } : Blk))) = some (.pointer (some ⟨nm, 0, none⟩), { cells := [Value.slice none 0 0], rw := true }) := nr rfl
@[go_sem] theorem es_123 : es Γ 123 = some 5 := nr rfl
@[go_sem] theorem st_123 : isStr Γ 123 = some false := nr rfl
theorem mk_123 {nm n : Nat} {kk k' : IntKind} (hn : n < 4294967296) : mkO Γ nm 123 (.int kk (n : Int)) (.int k' (n : Int)) = some (.slice (some ⟨nm, 0, none⟩) n (U 5), { cells := repZ [Value.int IntKind.i64 0, Value.int IntKind.i64 0, Value.int IntKind.i64 0, Value.int IntKind.i64 0, Value.int IntKind.i64 0] n, rw := true }) := mkO_ok (i1 := ti31) rfl rfl (by decide) rfl (by decide) hn
theorem bs_123 {C : Rel} {D : DrawR} {Q : Ex → S → Prop} {k : List Fr} {s : S} {base i : Nat} {l : List POp} {d : Option Nat} {len : Nat} {parts : Array (Nat × Operand)} : OpG Γ E C D Q base i (⟨d, none, .buildSlice 123 len parts⟩ :: l) k s = OpK Γ E C D Q base (i + 1) l k s d (base + i) (bsO (base + i) 5 [Value.int IntKind.i64 0, Value.int IntKind.i64 0, Value.int IntKind.i64 0, Value.int IntKind.i64 0, Value.int IntKind.i64 0] len (parts.toList.map fun p => (p.1, s.ev p.2))) := op_bs (i1 := ti31) rfl rfl rfl (by decide) rfl
theorem ap_123 {nm : Nat} {x y : Value} {h : Hp} : appendV Γ nm 123 123 x y h = apO 5 nm x h (apT 5 y h) := append_eq (i1 := ti31) rfl rfl (by decide) rfl (by decide) (by decide) rfl
attribute [go_sem] mk_123 bs_123 ap_123
@[go_sem] theorem nn_123 {a : Option Addr} {n c : Nat} : binV Γ E .neq 123 (.slice a n c) (.slice none 0 0) = some (.bool (!a.isNone)) := nr rfl
@[go_sem] theorem en_123 {a : Option Addr} {n c : Nat} : binV Γ E .eql 123 (.slice a n c) (.slice none 0 0) = some (.bool a.isNone) := nr rfl
@[go_sem] theorem ld_123 {n o : Nat} {h : Hp} : ldv Γ 123 (.pointer (some ⟨n, o, none⟩)) h = h.cell n o := nr rfl
@[go_sem] theorem sv_123 {n o : Nat} {x : Value} {h : Hp} : stv Γ 123 (.pointer (some ⟨n, o, none⟩)) x h = stC n o 1 x h := nr rfl
@[go_sem] theorem za_123 {nm : Nat} : (Γ 123).map (fun t => (Value.pointer (some ⟨nm, 0, none⟩), ({ cells := t.zero, rw := true } : Blk))) = some (.pointer (some ⟨nm, 0, none⟩), { cells := [Value.slice none 0 0], rw := true }) := nr rfl
@[go_sem] theorem ld_125 {n o : Nat} {h : Hp} : ldv Γ 125 (.pointer (some ⟨n, o, none⟩)) h = (h.cells n o 4).map fun cs => .agg cs.toArray := nr rfl
@[go_sem] theorem sv_125 {n o : Nat} {x : Value} {h : Hp} : stv Γ 125 (.pointer (some ⟨n, o, none⟩)) x h = stC n o 4 x h := nr rfl
@[go_sem] theorem za_125 {nm : Nat} : (Γ 125).map (fun t => (Value.pointer (some ⟨nm, 0, none⟩), ({ cells := t.zero, rw := true } : Blk))) = some (.pointer (some ⟨nm, 0, none⟩), { cells := [Value.int IntKind.i64 0, Value.int IntKind.i64 0, Value.int IntKind.i64 0, Value.int IntKind.i64 0], rw := true }) := nr rfl
@[go_sem] theorem ld_127 {n o : Nat} {h : Hp} : ldv Γ 127 (.pointer (some ⟨n, o, none⟩)) h = (h.cells n o 6).map fun cs => .agg cs.toArray := nr rfl
@[go_sem] theorem sv_127 {n o : Nat} {x : Value} {h : Hp} : stv Γ 127 (.pointer (some ⟨n, o, none⟩)) x h = stC n o 6 x h := nr rfl
@[go_sem] theorem za_127 {nm : Nat} : (Γ 127).map (fun t => (Value.pointer (some ⟨nm, 0, none⟩), ({ cells := t.zero, rw := true } : Blk))) = some (.pointer (some ⟨nm, 0, none⟩), { cells := [Value.slice none 0 0, Value.slice none 0 0, Value.int IntKind.i64 0, Value.int IntKind.i64 0, Value.int IntKind.i64 0, Value.int IntKind.i64 0], rw := true }) := nr rfl
@[go_sem] theorem es_128 : es Γ 128 = some 2 := nr rfl
@[go_sem] theorem st_128 : isStr Γ 128 = some false := nr rfl
theorem mk_128 {nm n : Nat} {kk k' : IntKind} (hn : n < 4294967296) : mkO Γ nm 128 (.int kk (n : Int)) (.int k' (n : Int)) = some (.slice (some ⟨nm, 0, none⟩) n (U 2), { cells := repZ [Value.int IntKind.i64 0, Value.int IntKind.i64 0] n, rw := true }) := mkO_ok (i1 := ti132) rfl rfl (by decide) rfl (by decide) hn
theorem bs_128 {C : Rel} {D : DrawR} {Q : Ex → S → Prop} {k : List Fr} {s : S} {base i : Nat} {l : List POp} {d : Option Nat} {len : Nat} {parts : Array (Nat × Operand)} : OpG Γ E C D Q base i (⟨d, none, .buildSlice 128 len parts⟩ :: l) k s = OpK Γ E C D Q base (i + 1) l k s d (base + i) (bsO (base + i) 2 [Value.int IntKind.i64 0, Value.int IntKind.i64 0] len (parts.toList.map fun p => (p.1, s.ev p.2))) := op_bs (i1 := ti132) rfl rfl rfl (by decide) rfl
theorem ap_128 {nm : Nat} {x y : Value} {h : Hp} : appendV Γ nm 128 128 x y h = apO 2 nm x h (apT 2 y h) := append_eq (i1 := ti132) rfl rfl (by decide) rfl (by decide) (by decide) rfl
attribute [go_sem] mk_128 bs_128 ap_128
@[go_sem] theorem nn_128 {a : Option Addr} {n c : Nat} : binV Γ E .neq 128 (.slice a n c) (.slice none 0 0) = some (.bool (!a.isNone)) := nr rfl
@[go_sem] theorem en_128 {a : Option Addr} {n c : Nat} : binV Γ E .eql 128 (.slice a n c) (.slice none 0 0) = some (.bool a.isNone) := nr rfl
@[go_sem] theorem ld_128 {n o : Nat} {h : Hp} : ldv Γ 128 (.pointer (some ⟨n, o, none⟩)) h = h.cell n o := nr rfl
@[go_sem] theorem sv_128 {n o : Nat} {x : Value} {h : Hp} : stv Γ 128 (.pointer (some ⟨n, o, none⟩)) x h = stC n o 1 x h := nr rfl
@[go_sem] theorem za_128 {nm : Nat} : (Γ 128).map (fun t => (Value.pointer (some ⟨nm, 0, none⟩), ({ cells := t.zero, rw := true } : Blk))) = some (.pointer (some ⟨nm, 0, none⟩), { cells := [Value.slice none 0 0], rw := true }) := nr rfl
@[go_sem] theorem ld_130 {n o : Nat} {h : Hp} : ldv Γ 130 (.pointer (some ⟨n, o, none⟩)) h = (h.cells n o 2).map fun cs => .agg cs.toArray := nr rfl
@[go_sem] theorem sv_130 {n o : Nat} {x : Value} {h : Hp} : stv Γ 130 (.pointer (some ⟨n, o, none⟩)) x h = stC n o 2 x h := nr rfl
@[go_sem] theorem za_130 {nm : Nat} : (Γ 130).map (fun t => (Value.pointer (some ⟨nm, 0, none⟩), ({ cells := t.zero, rw := true } : Blk))) = some (.pointer (some ⟨nm, 0, none⟩), { cells := [Value.int IntKind.i64 0, Value.slice none 0 0], rw := true }) := nr rfl
@[go_sem] theorem ld_132 {n o : Nat} {h : Hp} : ldv Γ 132 (.pointer (some ⟨n, o, none⟩)) h = (h.cells n o 2).map fun cs => .agg cs.toArray := nr rfl
@[go_sem] theorem sv_132 {n o : Nat} {x : Value} {h : Hp} : stv Γ 132 (.pointer (some ⟨n, o, none⟩)) x h = stC n o 2 x h := nr rfl
@[go_sem] theorem za_132 {nm : Nat} : (Γ 132).map (fun t => (Value.pointer (some ⟨nm, 0, none⟩), ({ cells := t.zero, rw := true } : Blk))) = some (.pointer (some ⟨nm, 0, none⟩), { cells := [Value.int IntKind.i64 0, Value.int IntKind.i64 0], rw := true }) := nr rfl
@[go_sem] theorem es_153 : es Γ 153 = some 1 := nr rfl
@[go_sem] theorem st_153 : isStr Γ 153 = some false := nr rfl
theorem mk_153 {nm n : Nat} {kk k' : IntKind} (hn : n < 4294967296) : mkO Γ nm 153 (.int kk (n : Int)) (.int k' (n : Int)) = some (.slice (some ⟨nm, 0, none⟩) n (U 1), { cells := repZ [Value.bool false] n, rw := true }) := mkO_ok (i1 := ti4) rfl rfl (by decide) rfl (by decide) hn
theorem bs_153 {C : Rel} {D : DrawR} {Q : Ex → S → Prop} {k : List Fr} {s : S} {base i : Nat} {l : List POp} {d : Option Nat} {len : Nat} {parts : Array (Nat × Operand)} : OpG Γ E C D Q base i (⟨d, none, .buildSlice 153 len parts⟩ :: l) k s = OpK Γ E C D Q base (i + 1) l k s d (base + i) (bsO (base + i) 1 [Value.bool false] len (parts.toList.map fun p => (p.1, s.ev p.2))) := op_bs (i1 := ti4) rfl rfl rfl (by decide) rfl
theorem ap_153 {nm : Nat} {x y : Value} {h : Hp} : appendV Γ nm 153 153 x y h = apO 1 nm x h (apT 1 y h) := append_eq (i1 := ti4) rfl rfl (by decide) rfl (by decide) (by decide) rfl
attribute [go_sem] mk_153 bs_153 ap_153
@[go_sem] theorem nn_153 {a : Option Addr} {n c : Nat} : binV Γ E .neq 153 (.slice a n c) (.slice none 0 0) = some (.bool (!a.isNone)) := nr rfl
@[go_sem] theorem en_153 {a : Option Addr} {n c : Nat} : binV Γ E .eql 153 (.slice a n c) (.slice none 0 0) = some (.bool a.isNone) := nr rfl
@[go_sem] theorem ld_153 {n o : Nat} {h : Hp} : ldv Γ 153 (.pointer (some ⟨n, o, none⟩)) h = h.cell n o := nr rfl
@[go_sem] theorem sv_153 {n o : Nat} {x : Value} {h : Hp} : stv Γ 153 (.pointer (some ⟨n, o, none⟩)) x h = stC n o 1 x h := nr rfl
@[go_sem] theorem za_153 {nm : Nat} : (Γ 153).map (fun t => (Value.pointer (some ⟨nm, 0, none⟩), ({ cells := t.zero, rw := true } : Blk))) = some (.pointer (some ⟨nm, 0, none⟩), { cells := [Value.slice none 0 0], rw := true }) := nr rfl
@[go_sem] theorem es_154 : es Γ 154 = some 1 := nr rfl
@[go_sem] theorem st_154 : isStr Γ 154 = some false := nr rfl
theorem mk_154 {nm n : Nat} {kk k' : IntKind} (hn : n < 4294967296) : mkO Γ nm 154 (.int kk (n : Int)) (.int k' (n : Int)) = some (.slice (some ⟨nm, 0, none⟩) n (U 1), { cells := repZ [Value.slice none 0 0] n, rw := true }) := mkO_ok (i1 := ti153) rfl rfl (by decide) rfl (by decide) hn
theorem bs_154 {C : Rel} {D : DrawR} {Q : Ex → S → Prop} {k : List Fr} {s : S} {base i : Nat} {l : List POp} {d : Option Nat} {len : Nat} {parts : Array (Nat × Operand)} : OpG Γ E C D Q base i (⟨d, none, .buildSlice 154 len parts⟩ :: l) k s = OpK Γ E C D Q base (i + 1) l k s d (base + i) (bsO (base + i) 1 [Value.slice none 0 0] len (parts.toList.map fun p => (p.1, s.ev p.2))) := op_bs (i1 := ti153) rfl rfl rfl (by decide) rfl
theorem ap_154 {nm : Nat} {x y : Value} {h : Hp} : appendV Γ nm 154 154 x y h = apO 1 nm x h (apT 1 y h) := append_eq (i1 := ti153) rfl rfl (by decide) rfl (by decide) (by decide) rfl
attribute [go_sem] mk_154 bs_154 ap_154
@[go_sem] theorem nn_154 {a : Option Addr} {n c : Nat} : binV Γ E .neq 154 (.slice a n c) (.slice none 0 0) = some (.bool (!a.isNone)) := nr rfl
@[go_sem] theorem en_154 {a : Option Addr} {n c : Nat} : binV Γ E .eql 154 (.slice a n c) (.slice none 0 0) = some (.bool a.isNone) := nr rfl
@[go_sem] theorem ld_154 {n o : Nat} {h : Hp} : ldv Γ 154 (.pointer (some ⟨n, o, none⟩)) h = h.cell n o := nr rfl
@[go_sem] theorem sv_154 {n o : Nat} {x : Value} {h : Hp} : stv Γ 154 (.pointer (some ⟨n, o, none⟩)) x h = stC n o 1 x h := nr rfl
@[go_sem] theorem za_154 {nm : Nat} : (Γ 154).map (fun t => (Value.pointer (some ⟨nm, 0, none⟩), ({ cells := t.zero, rw := true } : Blk))) = some (.pointer (some ⟨nm, 0, none⟩), { cells := [Value.slice none 0 0], rw := true }) := nr rfl
@[go_sem] theorem es_168 : es Γ 168 = some 2 := nr rfl
@[go_sem] theorem st_168 : isStr Γ 168 = some false := nr rfl
theorem mk_168 {nm n : Nat} {kk k' : IntKind} (hn : n < 4294967296) : mkO Γ nm 168 (.int kk (n : Int)) (.int k' (n : Int)) = some (.slice (some ⟨nm, 0, none⟩) n (U 2), { cells := repZ [Value.int IntKind.i64 0, Value.slice none 0 0] n, rw := true }) := mkO_ok (i1 := ti236) rfl rfl (by decide) rfl (by decide) hn
theorem bs_168 {C : Rel} {D : DrawR} {Q : Ex → S → Prop} {k : List Fr} {s : S} {base i : Nat} {l : List POp} {d : Option Nat} {len : Nat} {parts : Array (Nat × Operand)} : OpG Γ E C D Q base i (⟨d, none, .buildSlice 168 len parts⟩ :: l) k s = OpK Γ E C D Q base (i + 1) l k s d (base + i) (bsO (base + i) 2 [Value.int IntKind.i64 0, Value.slice none 0 0] len (parts.toList.map fun p => (p.1, s.ev p.2))) := op_bs (i1 := ti236) rfl rfl rfl (by decide) rfl
theorem ap_168 {nm : Nat} {x y : Value} {h : Hp} : appendV Γ nm 168 168 x y h = apO 2 nm x h (apT 2 y h) := append_eq (i1 := ti236) rfl rfl (by decide) rfl (by decide) (by decide) rfl
attribute [go_sem] mk_168 bs_168 ap_168
@[go_sem] theorem nn_168 {a : Option Addr} {n c : Nat} : binV Γ E .neq 168 (.slice a n c) (.slice none 0 0) = some (.bool (!a.isNone)) := nr rfl
@[go_sem] theorem en_168 {a : Option Addr} {n c : Nat} : binV Γ E .eql 168 (.slice a n c) (.slice none 0 0) = some (.bool a.isNone) := nr rfl
@[go_sem] theorem ld_168 {n o : Nat} {h : Hp} : ldv Γ 168 (.pointer (some ⟨n, o, none⟩)) h = h.cell n o := nr rfl
@[go_sem] theorem sv_168 {n o : Nat} {x : Value} {h : Hp} : stv Γ 168 (.pointer (some ⟨n, o, none⟩)) x h = stC n o 1 x h := nr rfl
@[go_sem] theorem za_168 {nm : Nat} : (Γ 168).map (fun t => (Value.pointer (some ⟨nm, 0, none⟩), ({ cells := t.zero, rw := true } : Blk))) = some (.pointer (some ⟨nm, 0, none⟩), { cells := [Value.slice none 0 0], rw := true }) := nr rfl
@[go_sem] theorem es_169 : es Γ 169 = some 5 := nr rfl
@[go_sem] theorem st_169 : isStr Γ 169 = some false := nr rfl
theorem mk_169 {nm n : Nat} {kk k' : IntKind} (hn : n < 4294967296) : mkO Γ nm 169 (.int kk (n : Int)) (.int k' (n : Int)) = some (.slice (some ⟨nm, 0, none⟩) n (U 5), { cells := repZ [Value.int IntKind.i64 0, Value.int IntKind.i64 0, Value.int IntKind.i64 0, Value.int IntKind.i64 0, Value.int IntKind.i64 0] n, rw := true }) := mkO_ok (i1 := ti239) rfl rfl (by decide) rfl (by decide) hn
theorem bs_169 {C : Rel} {D : DrawR} {Q : Ex → S → Prop} {k : List Fr} {s : S} {base i : Nat} {l : List POp} {d : Option Nat} {len : Nat} {parts : Array (Nat × Operand)} : OpG Γ E C D Q base i (⟨d, none, .buildSlice 169 len parts⟩ :: l) k s = OpK Γ E C D Q base (i + 1) l k s d (base + i) (bsO (base + i) 5 [Value.int IntKind.i64 0, Value.int IntKind.i64 0, Value.int IntKind.i64 0, Value.int IntKind.i64 0, Value.int IntKind.i64 0] len (parts.toList.map fun p => (p.1, s.ev p.2))) := op_bs (i1 := ti239) rfl rfl rfl (by decide) rfl
theorem ap_169 {nm : Nat} {x y : Value} {h : Hp} : appendV Γ nm 169 169 x y h = apO 5 nm x h (apT 5 y h) := append_eq (i1 := ti239) rfl rfl (by decide) rfl (by decide) (by decide) rfl
attribute [go_sem] mk_169 bs_169 ap_169
@[go_sem] theorem nn_169 {a : Option Addr} {n c : Nat} : binV Γ E .neq 169 (.slice a n c) (.slice none 0 0) = some (.bool (!a.isNone)) := nr rfl
@[go_sem] theorem en_169 {a : Option Addr} {n c : Nat} : binV Γ E .eql 169 (.slice a n c) (.slice none 0 0) = some (.bool a.isNone) := nr rfl
@[go_sem] theorem ld_169 {n o : Nat} {h : Hp} : ldv Γ 169 (.pointer (some ⟨n, o, none⟩)) h = h.cell n o := nr rfl
@[go_sem] theorem sv_169 {n o : Nat} {x : Value} {h : Hp} : stv Γ 169 (.pointer (some ⟨n, o, none⟩)) x h = stC n o 1 x h := nr rfl
@[go_sem] theorem za_169 {nm : Nat} : (Γ 169).map (fun t => (Value.pointer (some ⟨nm, 0, none⟩), ({ cells := t.zero, rw := true } : Blk))) = some (.pointer (some ⟨nm, 0, none⟩), { cells := [Value.slice none 0 0], rw := true }) := nr rfl
@[go_sem] theorem ld_170 {n o : Nat} {h : Hp} : ldv Γ 170 (.pointer (some ⟨n, o, none⟩)) h = (h.cells n o 4).map fun cs => .agg cs.toArray := nr rfl
@[go_sem] theorem sv_170 {n o : Nat} {x : Value} {h : Hp} : stv Γ 170 (.pointer (some ⟨n, o, none⟩)) x h = stC n o 4 x h := nr rfl
@[go_sem] theorem za_170 {nm : Nat} : (Γ 170).map (fun t => (Value.pointer (some ⟨nm, 0, none⟩), ({ cells := t.zero, rw := true } : Blk))) = some (.pointer (some ⟨nm, 0, none⟩), { cells := [Value.int IntKind.i64 0, Value.int IntKind.i64 0, Value.int IntKind.i64 0, Value.int IntKind.i64 0], rw := true }) := nr rfl
@[go_sem] theorem ld_172 {n o : Nat} {h : Hp} : ldv Γ 172 (.pointer (some ⟨n, o, none⟩)) h = (h.cells n o 6).map fun cs => .agg cs.toArray := nr rfl
@[go_sem] theorem sv_172 {n o : Nat} {x : Value} {h : Hp} : stv Γ 172 (.pointer (some ⟨n, o, none⟩)) x h = stC n o 6 x h := nr rfl
@[go_sem] theorem za_172 {nm : Nat} : (Γ 172).map (fun t => (Value.pointer (some ⟨nm, 0, none⟩), ({ cells := t.zero, rw := true } : Blk))) = some (.pointer (some ⟨nm, 0, none⟩), { cells := [Value.slice none 0 0, Value.slice none 0 0, Value.int IntKind.i64 0, Value.int IntKind.i64 0, Value.int IntKind.i64 0, Value.int IntKind.i64 0], rw := true }) := nr rfl
@[go_sem] theorem ld_179 {n o : Nat} {h : Hp} : ldv Γ 179 (.pointer (some ⟨n, o, none⟩)) h = h.cell n o := nr rfl
@[go_sem] theorem sv_179 {n o : Nat} {x : Value} {h : Hp} : stv Γ 179 (.pointer (some ⟨n, o, none⟩)) x h = stC n o 1 x h := nr rfl
@[go_sem] theorem za_179 {nm : Nat} : (Γ 179).map (fun t => (Value.pointer (some ⟨nm, 0, none⟩), ({ cells := t.zero, rw := true } : Blk))) = some (.pointer (some ⟨nm, 0, none⟩), { cells := [Value.nilFunc], rw := true }) := nr rfl
@[go_sem] theorem ld_181 {n o : Nat} {h : Hp} : ldv Γ 181 (.pointer (some ⟨n, o, none⟩)) h = h.cell n o := nr rfl
@[go_sem] theorem sv_181 {n o : Nat} {x : Value} {h : Hp} : stv Γ 181 (.pointer (some ⟨n, o, none⟩)) x h = stC n o 1 x h := nr rfl
@[go_sem] theorem za_181 {nm : Nat} : (Γ 181).map (fun t => (Value.pointer (some ⟨nm, 0, none⟩), ({ cells := t.zero, rw := true } : Blk))) = some (.pointer (some ⟨nm, 0, none⟩), { cells := [Value.nilFunc], rw := true }) := nr rfl
@[go_sem] theorem ld_209 {n o : Nat} {h : Hp} : ldv Γ 209 (.pointer (some ⟨n, o, none⟩)) h = h.cell n o := nr rfl
@[go_sem] theorem sv_209 {n o : Nat} {x : Value} {h : Hp} : stv Γ 209 (.pointer (some ⟨n, o, none⟩)) x h = stC n o 1 x h := nr rfl
@[go_sem] theorem za_209 {nm : Nat} : (Γ 209).map (fun t => (Value.pointer (some ⟨nm, 0, none⟩), ({ cells := t.zero, rw := true } : Blk))) = some (.pointer (some ⟨nm, 0, none⟩), { cells := [Value.nilFunc], rw := true }) := nr rfl
@[go_sem] theorem es_234 : es Γ 234 = some 2 := nr rfl
@[go_sem] theorem st_234 : isStr Γ 234 = some false := nr rfl
theorem mk_234 {nm n : Nat} {kk k' : IntKind} (hn : n < 4294967296) : mkO Γ nm 234 (.int kk (n : Int)) (.int k' (n : Int)) = some (.slice (some ⟨nm, 0, none⟩) n (U 2), { cells := repZ [Value.int IntKind.i64 0, Value.int IntKind.i64 0] n, rw := true }) := mkO_ok (i1 := ti255) rfl rfl (by decide) rfl (by decide) hn
theorem bs_234 {C : Rel} {D : DrawR} {Q : Ex → S → Prop} {k : List Fr} {s : S} {base i : Nat} {l : List POp} {d : Option Nat} {len : Nat} {parts : Array (Nat × Operand)} : OpG Γ E C D Q base i (⟨d, none, .buildSlice 234 len parts⟩ :: l) k s = OpK Γ E C D Q base (i + 1) l k s d (base + i) (bsO (base + i) 2 [Value.int IntKind.i64 0, Value.int IntKind.i64 0] len (parts.toList.map fun p => (p.1, s.ev p.2))) := op_bs (i1 := ti255) rfl rfl rfl (by decide) rfl
theorem ap_234 {nm : Nat} {x y : Value} {h : Hp} : appendV Γ nm 234 234 x y h = apO 2 nm x h (apT 2 y h) := append_eq (i1 := ti255) rfl rfl (by decide) rfl (by decide) (by decide) rfl
attribute [go_sem] mk_234 bs_234 ap_234
@[go_sem] theorem nn_234 {a : Option Addr} {n c : Nat} : binV Γ E .neq 234 (.slice a n c) (.slice none 0 0) = some (.bool (!a.isNone)) := nr rfl
@[go_sem] theorem en_234 {a : Option Addr} {n c : Nat} : binV Γ E .eql 234 (.slice a n c) (.slice none 0 0) = some (.bool a.isNone) := nr rfl
@[go_sem] theorem ld_234 {n o : Nat} {h : Hp} : ldv Γ 234 (.pointer (some ⟨n, o, none⟩)) h = h.cell n o := nr rfl
@[go_sem] theorem sv_234 {n o : Nat} {x : Value} {h : Hp} : stv Γ 234 (.pointer (some ⟨n, o, none⟩)) x h = stC n o 1 x h := nr rfl
@[go_sem] theorem za_234 {nm : Nat} : (Γ 234).map (fun t => (Value.pointer (some ⟨nm, 0, none⟩), ({ cells := t.zero, rw := true } : Blk))) = some (.pointer (some ⟨nm, 0, none⟩), { cells := [Value.slice none 0 0], rw := true }) := nr rfl
@[go_sem] theorem ld_236 {n o : Nat} {h : Hp} : ldv Γ 236 (.pointer (some ⟨n, o, none⟩)) h = (h.cells n o 2).map fun cs => .agg cs.toArray := nr rfl
@[go_sem] theorem sv_236 {n o : Nat} {x : Value} {h : Hp} : stv Γ 236 (.pointer (some ⟨n, o, none⟩)) x h = stC n o 2 x h := nr rfl
@[go_sem] theorem za_236 {nm : Nat} : (Γ 236).map (fun t => (Value.pointer (some ⟨nm, 0, none⟩), ({ cells := t.zero, rw := true } : Blk))) = some (.pointer (some ⟨nm, 0, none⟩), { cells := [Value.int IntKind.i64 0, Value.slice none 0 0], rw := true }) := nr rfl
@[go_sem] theorem ld_239 {n o : Nat} {h : Hp} : ldv Γ 239 (.pointer (some ⟨n, o, none⟩)) h = (h.cells n o 5).map fun cs => .agg cs.toArray := nr rfl
@[go_sem] theorem sv_239 {n o : Nat} {x : Value} {h : Hp} : stv Γ 239 (.pointer (some ⟨n, o, none⟩)) x h = stC n o 5 x h := nr rfl
@[go_sem] theorem za_239 {nm : Nat} : (Γ 239).map (fun t => (Value.pointer (some ⟨nm, 0, none⟩), ({ cells := t.zero, rw := true } : Blk))) = some (.pointer (some ⟨nm, 0, none⟩), { cells := [Value.int IntKind.i64 0, Value.int IntKind.i64 0, Value.int IntKind.i64 0, Value.int IntKind.i64 0, Value.int IntKind.i64 0], rw := true }) := nr rfl
@[go_sem] theorem ld_255 {n o : Nat} {h : Hp} : ldv Γ 255 (.pointer (some ⟨n, o, none⟩)) h = (h.cells n o 2).map fun cs => .agg cs.toArray := nr rfl
@[go_sem] theorem sv_255 {n o : Nat} {x : Value} {h : Hp} : stv Γ 255 (.pointer (some ⟨n, o, none⟩)) x h = stC n o 2 x h := nr rfl
@[go_sem] theorem za_255 {nm : Nat} : (Γ 255).map (fun t => (Value.pointer (some ⟨nm, 0, none⟩), ({ cells := t.zero, rw := true } : Blk))) = some (.pointer (some ⟨nm, 0, none⟩), { cells := [Value.int IntKind.i64 0, Value.int IntKind.i64 0], rw := true }) := nr rfl
@[go_sem] theorem cv_9_22 {C : Rel} {D : DrawR} {Q : Ex → S → Prop} {k : List Fr} {s : S} {base i : Nat} {l : List POp} {d : Option Nat} {x : Operand} : OpG Γ E C D Q base i (⟨d, none, .convert 9 22 x⟩ :: l) k s = OpK Γ E C D Q base (i + 1) l k s d (base + i) (cvB (base + i) (s.ev x)) := op_cvB rfl rfl rfl
def F_laws_FnExactDegree : FuncId := 11
def F_impl_InsDef : FuncId := 24
def F_laws_szFn : FuncId := 35
def F_laws_toFn : FuncId := 37
def F_laws_eqFn : FuncId := 40
def F_spec_Degree : FuncId := 55
def F_impl_Degree : FuncId := 56
def F_spec_l1In : FuncId := 61
def F_impl_in : FuncId := 62
def F_impl_has : FuncId := 68
def F_spec_InsUses : FuncId := 71
def F_spec_l2Makes : FuncId := 73
def F_spec_WordOk : FuncId := 77
def F_slices_Contains_byte : FuncId := 80
def F_laws_szBlockS : FuncId := 90
def F_spec_ShapeOk : FuncId := 91
def F_laws_toBlockS : FuncId := 93
def F_impl_ShapeOk : FuncId := 94
def F_laws_eqBlockS : FuncId := 96
def F_spec_l12Value : FuncId := 106
def F_spec_l12Clashes : FuncId := 107
def F_impl_Clashes : FuncId := 108
def F_spec_l1Bit : FuncId := 112
def F_impl_listed : FuncId := 113
def F_impl_formOf : FuncId := 114
def F_impl_WordOk : FuncId := 116
def F_slices_Index_byte : FuncId := 117
def F_laws_szBlock : FuncId := 125
def F_spec_l2Term : FuncId := 126
def F_spec_l2Phi : FuncId := 127
def F_spec_l2Ins : FuncId := 128
def F_laws_toBlock : FuncId := 129
def F_slices_ContainsFunc_impl_Block : FuncId := 130
def F_impl_ShapeOk_1 : FuncId := 131
def F_impl_termOk : FuncId := 132
def F_slices_ContainsFunc_impl_Phi : FuncId := 133
def F_impl_ShapeOk_1_1 : FuncId := 134
def F_impl_phiOk : FuncId := 135
def F_slices_ContainsFunc_impl_Ins : FuncId := 136
def F_impl_ShapeOk_1_2 : FuncId := 137
def F_impl_insOk : FuncId := 138
def F_laws_eqBlock : FuncId := 139
def F_spec_PlainOk : FuncId := 146
def F_spec_l11In : FuncId := 147
def F_spec_InsDef : FuncId := 148
def F_spec_l11Before : FuncId := 149
def F_impl_PlainOk : FuncId := 150
def F_impl_liveIns : FuncId := 151
def F_impl_atEnd : FuncId := 152
def F_impl_back : FuncId := 153
def F_laws_szPhiS : FuncId := 166
def F_laws_szInsS : FuncId := 167
def F_spec_l2Value : FuncId := 168
def F_laws_toPhiS : FuncId := 169
def F_laws_toInsS : FuncId := 170
def F_laws_toTerm : FuncId := 171
def F_slices_IndexFunc_impl_Block : FuncId := 172
def F_impl_partOk : FuncId := 173
def F_slices_IndexFunc_impl_Phi : FuncId := 174
def F_slices_ContainsFunc_impl_Arm : FuncId := 175
def F_impl_phiOk_1 : FuncId := 176
def F_slices_IndexFunc_impl_Ins : FuncId := 177
def F_laws_eqPhiS : FuncId := 178
def F_laws_eqInsS : FuncId := 179
def F_laws_eqTerm : FuncId := 180
def F_spec_l11End : FuncId := 194
def F_spec_l11Back : FuncId := 195
def F_impl_PlainOk_1 : FuncId := 196
def F_slices_Equal_bool : FuncId := 197
def F_impl_succs : FuncId := 198
def F_slices_Clone_bool : FuncId := 199
def F_impl_TermUses : FuncId := 200
def F_impl_without : FuncId := 201
def F_laws_szPhi : FuncId := 207
def F_laws_toPhi : FuncId := 208
def F_laws_toIns : FuncId := 209
def F_slices_IndexFunc_impl_Arm : FuncId := 210
def F_laws_eqPhi : FuncId := 211
def F_laws_eqIns : FuncId := 212
def F_spec_l11Out : FuncId := 219
def F_spec_TermUses : FuncId := 220
def F_impl_InsUses : FuncId := 221
def F_laws_szArmS : FuncId := 222
def F_laws_toArmS : FuncId := 223
def F_laws_eqArmS : FuncId := 224
def F_spec_l3Succs : FuncId := 226
def F_laws_toArm : FuncId := 227
def F_laws_eqArm : FuncId := 228
noncomputable def F : FuncId → Option Func
  | 11 => some Try.f11
  | 24 => some Try.f24
  | 35 => some Try.f35
  | 37 => some Try.f37
  | 40 => some Try.f40
  | 55 => some Try.f55
  | 56 => some Try.f56
  | 61 => some Try.f61
  | 62 => some Try.f62
  | 68 => some Try.f68
  | 71 => some Try.f71
  | 73 => some Try.f73
  | 77 => some Try.f77
  | 80 => some Try.f80
  | 90 => some Try.f90
  | 91 => some Try.f91
  | 93 => some Try.f93
  | 94 => some Try.f94
  | 96 => some Try.f96
  | 106 => some Try.f106
  | 107 => some Try.f107
  | 108 => some Try.f108
  | 112 => some Try.f112
  | 113 => some Try.f113
  | 114 => some Try.f114
  | 116 => some Try.f116
  | 117 => some Try.f117
  | 125 => some Try.f125
  | 126 => some Try.f126
  | 127 => some Try.f127
  | 128 => some Try.f128
  | 129 => some Try.f129
  | 130 => some Try.f130
  | 131 => some Try.f131
  | 132 => some Try.f132
  | 133 => some Try.f133
  | 134 => some Try.f134
  | 135 => some Try.f135
  | 136 => some Try.f136
  | 137 => some Try.f137
  | 138 => some Try.f138
  | 139 => some Try.f139
  | 146 => some Try.f146
  | 147 => some Try.f147
  | 148 => some Try.f148
  | 149 => some Try.f149
  | 150 => some Try.f150
  | 151 => some Try.f151
  | 152 => some Try.f152
  | 153 => some Try.f153
  | 166 => some Try.f166
  | 167 => some Try.f167
  | 168 => some Try.f168
  | 169 => some Try.f169
  | 170 => some Try.f170
  | 171 => some Try.f171
  | 172 => some Try.f172
  | 173 => some Try.f173
  | 174 => some Try.f174
  | 175 => some Try.f175
  | 176 => some Try.f176
  | 177 => some Try.f177
  | 178 => some Try.f178
  | 179 => some Try.f179
  | 180 => some Try.f180
  | 194 => some Try.f194
  | 195 => some Try.f195
  | 196 => some Try.f196
  | 197 => some Try.f197
  | 198 => some Try.f198
  | 199 => some Try.f199
  | 200 => some Try.f200
  | 201 => some Try.f201
  | 207 => some Try.f207
  | 208 => some Try.f208
  | 209 => some Try.f209
  | 210 => some Try.f210
  | 211 => some Try.f211
  | 212 => some Try.f212
  | 219 => some Try.f219
  | 220 => some Try.f220
  | 221 => some Try.f221
  | 222 => some Try.f222
  | 223 => some Try.f223
  | 224 => some Try.f224
  | 226 => some Try.f226
  | 227 => some Try.f227
  | 228 => some Try.f228
  | _ => none
theorem fok : FOk Try.prog F := by
  intro f fn h
  unfold F at h
  split at h
  · injection h with h; subst h; exact ⟨Try.func11, by kernel_rfl, _, rfl, by kernel_rfl, by kernel_rfl⟩
  · injection h with h; subst h; exact ⟨Try.func24, by kernel_rfl, _, rfl, by kernel_rfl, by kernel_rfl⟩
  · injection h with h; subst h; exact ⟨Try.func35, by kernel_rfl, _, rfl, by kernel_rfl, by kernel_rfl⟩
  · injection h with h; subst h; exact ⟨Try.func37, by kernel_rfl, _, rfl, by kernel_rfl, by kernel_rfl⟩
  · injection h with h; subst h; exact ⟨Try.func40, by kernel_rfl, _, rfl, by kernel_rfl, by kernel_rfl⟩
  · injection h with h; subst h; exact ⟨Try.func55, by kernel_rfl, _, rfl, by kernel_rfl, by kernel_rfl⟩
  · injection h with h; subst h; exact ⟨Try.func56, by kernel_rfl, _, rfl, by kernel_rfl, by kernel_rfl⟩
  · injection h with h; subst h; exact ⟨Try.func61, by kernel_rfl, _, rfl, by kernel_rfl, by kernel_rfl⟩
  · injection h with h; subst h; exact ⟨Try.func62, by kernel_rfl, _, rfl, by kernel_rfl, by kernel_rfl⟩
  · injection h with h; subst h; exact ⟨Try.func68, by kernel_rfl, _, rfl, by kernel_rfl, by kernel_rfl⟩
  · injection h with h; subst h; exact ⟨Try.func71, by kernel_rfl, _, rfl, by kernel_rfl, by kernel_rfl⟩
  · injection h with h; subst h; exact ⟨Try.func73, by kernel_rfl, _, rfl, by kernel_rfl, by kernel_rfl⟩
  · injection h with h; subst h; exact ⟨Try.func77, by kernel_rfl, _, rfl, by kernel_rfl, by kernel_rfl⟩
  · injection h with h; subst h; exact ⟨Try.func80, by kernel_rfl, _, rfl, by kernel_rfl, by kernel_rfl⟩
  · injection h with h; subst h; exact ⟨Try.func90, by kernel_rfl, _, rfl, by kernel_rfl, by kernel_rfl⟩
  · injection h with h; subst h; exact ⟨Try.func91, by kernel_rfl, _, rfl, by kernel_rfl, by kernel_rfl⟩
  · injection h with h; subst h; exact ⟨Try.func93, by kernel_rfl, _, rfl, by kernel_rfl, by kernel_rfl⟩
  · injection h with h; subst h; exact ⟨Try.func94, by kernel_rfl, _, rfl, by kernel_rfl, by kernel_rfl⟩
  · injection h with h; subst h; exact ⟨Try.func96, by kernel_rfl, _, rfl, by kernel_rfl, by kernel_rfl⟩
  · injection h with h; subst h; exact ⟨Try.func106, by kernel_rfl, _, rfl, by kernel_rfl, by kernel_rfl⟩
  · injection h with h; subst h; exact ⟨Try.func107, by kernel_rfl, _, rfl, by kernel_rfl, by kernel_rfl⟩
  · injection h with h; subst h; exact ⟨Try.func108, by kernel_rfl, _, rfl, by kernel_rfl, by kernel_rfl⟩
  · injection h with h; subst h; exact ⟨Try.func112, by kernel_rfl, _, rfl, by kernel_rfl, by kernel_rfl⟩
  · injection h with h; subst h; exact ⟨Try.func113, by kernel_rfl, _, rfl, by kernel_rfl, by kernel_rfl⟩
  · injection h with h; subst h; exact ⟨Try.func114, by kernel_rfl, _, rfl, by kernel_rfl, by kernel_rfl⟩
  · injection h with h; subst h; exact ⟨Try.func116, by kernel_rfl, _, rfl, by kernel_rfl, by kernel_rfl⟩
  · injection h with h; subst h; exact ⟨Try.func117, by kernel_rfl, _, rfl, by kernel_rfl, by kernel_rfl⟩
  · injection h with h; subst h; exact ⟨Try.func125, by kernel_rfl, _, rfl, by kernel_rfl, by kernel_rfl⟩
  · injection h with h; subst h; exact ⟨Try.func126, by kernel_rfl, _, rfl, by kernel_rfl, by kernel_rfl⟩
  · injection h with h; subst h; exact ⟨Try.func127, by kernel_rfl, _, rfl, by kernel_rfl, by kernel_rfl⟩
  · injection h with h; subst h; exact ⟨Try.func128, by kernel_rfl, _, rfl, by kernel_rfl, by kernel_rfl⟩
  · injection h with h; subst h; exact ⟨Try.func129, by kernel_rfl, _, rfl, by kernel_rfl, by kernel_rfl⟩
  · injection h with h; subst h; exact ⟨Try.func130, by kernel_rfl, _, rfl, by kernel_rfl, by kernel_rfl⟩
  · injection h with h; subst h; exact ⟨Try.func131, by kernel_rfl, _, rfl, by kernel_rfl, by kernel_rfl⟩
  · injection h with h; subst h; exact ⟨Try.func132, by kernel_rfl, _, rfl, by kernel_rfl, by kernel_rfl⟩
  · injection h with h; subst h; exact ⟨Try.func133, by kernel_rfl, _, rfl, by kernel_rfl, by kernel_rfl⟩
  · injection h with h; subst h; exact ⟨Try.func134, by kernel_rfl, _, rfl, by kernel_rfl, by kernel_rfl⟩
  · injection h with h; subst h; exact ⟨Try.func135, by kernel_rfl, _, rfl, by kernel_rfl, by kernel_rfl⟩
  · injection h with h; subst h; exact ⟨Try.func136, by kernel_rfl, _, rfl, by kernel_rfl, by kernel_rfl⟩
  · injection h with h; subst h; exact ⟨Try.func137, by kernel_rfl, _, rfl, by kernel_rfl, by kernel_rfl⟩
  · injection h with h; subst h; exact ⟨Try.func138, by kernel_rfl, _, rfl, by kernel_rfl, by kernel_rfl⟩
  · injection h with h; subst h; exact ⟨Try.func139, by kernel_rfl, _, rfl, by kernel_rfl, by kernel_rfl⟩
  · injection h with h; subst h; exact ⟨Try.func146, by kernel_rfl, _, rfl, by kernel_rfl, by kernel_rfl⟩
  · injection h with h; subst h; exact ⟨Try.func147, by kernel_rfl, _, rfl, by kernel_rfl, by kernel_rfl⟩
  · injection h with h; subst h; exact ⟨Try.func148, by kernel_rfl, _, rfl, by kernel_rfl, by kernel_rfl⟩
  · injection h with h; subst h; exact ⟨Try.func149, by kernel_rfl, _, rfl, by kernel_rfl, by kernel_rfl⟩
  · injection h with h; subst h; exact ⟨Try.func150, by kernel_rfl, _, rfl, by kernel_rfl, by kernel_rfl⟩
  · injection h with h; subst h; exact ⟨Try.func151, by kernel_rfl, _, rfl, by kernel_rfl, by kernel_rfl⟩
  · injection h with h; subst h; exact ⟨Try.func152, by kernel_rfl, _, rfl, by kernel_rfl, by kernel_rfl⟩
  · injection h with h; subst h; exact ⟨Try.func153, by kernel_rfl, _, rfl, by kernel_rfl, by kernel_rfl⟩
  · injection h with h; subst h; exact ⟨Try.func166, by kernel_rfl, _, rfl, by kernel_rfl, by kernel_rfl⟩
  · injection h with h; subst h; exact ⟨Try.func167, by kernel_rfl, _, rfl, by kernel_rfl, by kernel_rfl⟩
  · injection h with h; subst h; exact ⟨Try.func168, by kernel_rfl, _, rfl, by kernel_rfl, by kernel_rfl⟩
  · injection h with h; subst h; exact ⟨Try.func169, by kernel_rfl, _, rfl, by kernel_rfl, by kernel_rfl⟩
  · injection h with h; subst h; exact ⟨Try.func170, by kernel_rfl, _, rfl, by kernel_rfl, by kernel_rfl⟩
  · injection h with h; subst h; exact ⟨Try.func171, by kernel_rfl, _, rfl, by kernel_rfl, by kernel_rfl⟩
  · injection h with h; subst h; exact ⟨Try.func172, by kernel_rfl, _, rfl, by kernel_rfl, by kernel_rfl⟩
  · injection h with h; subst h; exact ⟨Try.func173, by kernel_rfl, _, rfl, by kernel_rfl, by kernel_rfl⟩
  · injection h with h; subst h; exact ⟨Try.func174, by kernel_rfl, _, rfl, by kernel_rfl, by kernel_rfl⟩
  · injection h with h; subst h; exact ⟨Try.func175, by kernel_rfl, _, rfl, by kernel_rfl, by kernel_rfl⟩
  · injection h with h; subst h; exact ⟨Try.func176, by kernel_rfl, _, rfl, by kernel_rfl, by kernel_rfl⟩
  · injection h with h; subst h; exact ⟨Try.func177, by kernel_rfl, _, rfl, by kernel_rfl, by kernel_rfl⟩
  · injection h with h; subst h; exact ⟨Try.func178, by kernel_rfl, _, rfl, by kernel_rfl, by kernel_rfl⟩
  · injection h with h; subst h; exact ⟨Try.func179, by kernel_rfl, _, rfl, by kernel_rfl, by kernel_rfl⟩
  · injection h with h; subst h; exact ⟨Try.func180, by kernel_rfl, _, rfl, by kernel_rfl, by kernel_rfl⟩
  · injection h with h; subst h; exact ⟨Try.func194, by kernel_rfl, _, rfl, by kernel_rfl, by kernel_rfl⟩
  · injection h with h; subst h; exact ⟨Try.func195, by kernel_rfl, _, rfl, by kernel_rfl, by kernel_rfl⟩
  · injection h with h; subst h; exact ⟨Try.func196, by kernel_rfl, _, rfl, by kernel_rfl, by kernel_rfl⟩
  · injection h with h; subst h; exact ⟨Try.func197, by kernel_rfl, _, rfl, by kernel_rfl, by kernel_rfl⟩
  · injection h with h; subst h; exact ⟨Try.func198, by kernel_rfl, _, rfl, by kernel_rfl, by kernel_rfl⟩
  · injection h with h; subst h; exact ⟨Try.func199, by kernel_rfl, _, rfl, by kernel_rfl, by kernel_rfl⟩
  · injection h with h; subst h; exact ⟨Try.func200, by kernel_rfl, _, rfl, by kernel_rfl, by kernel_rfl⟩
  · injection h with h; subst h; exact ⟨Try.func201, by kernel_rfl, _, rfl, by kernel_rfl, by kernel_rfl⟩
  · injection h with h; subst h; exact ⟨Try.func207, by kernel_rfl, _, rfl, by kernel_rfl, by kernel_rfl⟩
  · injection h with h; subst h; exact ⟨Try.func208, by kernel_rfl, _, rfl, by kernel_rfl, by kernel_rfl⟩
  · injection h with h; subst h; exact ⟨Try.func209, by kernel_rfl, _, rfl, by kernel_rfl, by kernel_rfl⟩
  · injection h with h; subst h; exact ⟨Try.func210, by kernel_rfl, _, rfl, by kernel_rfl, by kernel_rfl⟩
  · injection h with h; subst h; exact ⟨Try.func211, by kernel_rfl, _, rfl, by kernel_rfl, by kernel_rfl⟩
  · injection h with h; subst h; exact ⟨Try.func212, by kernel_rfl, _, rfl, by kernel_rfl, by kernel_rfl⟩
  · injection h with h; subst h; exact ⟨Try.func219, by kernel_rfl, _, rfl, by kernel_rfl, by kernel_rfl⟩
  · injection h with h; subst h; exact ⟨Try.func220, by kernel_rfl, _, rfl, by kernel_rfl, by kernel_rfl⟩
  · injection h with h; subst h; exact ⟨Try.func221, by kernel_rfl, _, rfl, by kernel_rfl, by kernel_rfl⟩
  · injection h with h; subst h; exact ⟨Try.func222, by kernel_rfl, _, rfl, by kernel_rfl, by kernel_rfl⟩
  · injection h with h; subst h; exact ⟨Try.func223, by kernel_rfl, _, rfl, by kernel_rfl, by kernel_rfl⟩
  · injection h with h; subst h; exact ⟨Try.func224, by kernel_rfl, _, rfl, by kernel_rfl, by kernel_rfl⟩
  · injection h with h; subst h; exact ⟨Try.func226, by kernel_rfl, _, rfl, by kernel_rfl, by kernel_rfl⟩
  · injection h with h; subst h; exact ⟨Try.func227, by kernel_rfl, _, rfl, by kernel_rfl, by kernel_rfl⟩
  · injection h with h; subst h; exact ⟨Try.func228, by kernel_rfl, _, rfl, by kernel_rfl, by kernel_rfl⟩
  · cases h
noncomputable def X0 : Rel := fun _ _ _ _ _ => False
abbrev CC : Rel := Call Γ E F X0 (Draw Γ E)
/-- What region of open order is meant. -/
abbrev DD : DrawR := Draw Γ E CC 0
abbrev OpEq (C : Rel) (D : DrawR) (l l' : List POp) : Prop := ∀ (Q : Ex → S → Prop) (b i : Nat) (k : List Fr) (s : S), OpG Γ E C D Q b i l k s = OpG Γ E C D Q b i l' k s
theorem opEq {C : Rel} {D : DrawR} {l l' : List POp} (h : l = l') : OpEq C D l l' := fun _ _ _ _ _ => by rw [h]
abbrev GoEq (C : Rel) (D : DrawR) (c c' : PC) : Prop := ∀ (Q : Ex → S → Prop) (k : List Fr) (s : S), Go Γ E C D Q c k s = Go Γ E C D Q c' k s
theorem goEq {C : Rel} {D : DrawR} {c c' : PC} (h : c = c') : GoEq C D c c' := fun _ _ _ => by rw [h]
end Go.Proofs.YtgbaininmgdnoaaM
