import Derived.Test.YtonpnjfclelpiaaGreatVDMiV
import Derived.Test.YtonpnjfclelpiaaGreatChecked
import Derived.KernelRfl
/- The tables of the small machine for this program: its types and its functions, and that the program has them so. -/
namespace Go.Proofs.YtonpnjfclelpiaaGreatM
open Go
set_option linter.unusedVariables false
set_option maxRecDepth 100000
noncomputable def ti3 : TI := ⟨.int .i64, 1, 8, [Value.int IntKind.i64 0]⟩
noncomputable def ti4 : TI := ⟨.bool, 1, 1, [Value.bool false]⟩
noncomputable def ti5 : TI := ⟨.int .u8, 1, 1, [Value.int IntKind.u8 0]⟩
noncomputable def ti9 : TI := ⟨.str, 1, 16, [Value.string ByteArray.empty]⟩
noncomputable def ti22 : TI := ⟨.slice 61, 1, 24, [Value.slice none 0 0]⟩
noncomputable def ti24 : TI := ⟨.struct [(0, 22), (1, 3)], 2, 32, [Value.slice none 0 0, Value.int IntKind.i64 0]⟩
noncomputable def ti25 : TI := ⟨.slice 3, 1, 24, [Value.slice none 0 0]⟩
noncomputable def ti27 : TI := ⟨.slice 46, 1, 24, [Value.slice none 0 0]⟩
noncomputable def ti29 : TI := ⟨.struct [(0, 27), (1, 3)], 2, 32, [Value.slice none 0 0, Value.int IntKind.i64 0]⟩
noncomputable def ti41 : TI := ⟨.slice 94, 1, 24, [Value.slice none 0 0]⟩
noncomputable def ti42 : TI := ⟨.slice 49, 1, 24, [Value.slice none 0 0]⟩
noncomputable def ti44 : TI := ⟨.struct [(0, 3), (1, 3), (2, 3), (3, 3)], 4, 32, [Value.int IntKind.i64 0, Value.int IntKind.i64 0, Value.int IntKind.i64 0, Value.int IntKind.i64 0]⟩
noncomputable def ti46 : TI := ⟨.struct [(0, 41), (1, 42), (2, 44)], 6, 80, [Value.slice none 0 0, Value.slice none 0 0, Value.int IntKind.i64 0, Value.int IntKind.i64 0, Value.int IntKind.i64 0, Value.int IntKind.i64 0]⟩
noncomputable def ti49 : TI := ⟨.struct [(0, 3), (1, 3), (2, 3), (3, 3), (4, 3)], 5, 40, [Value.int IntKind.i64 0, Value.int IntKind.i64 0, Value.int IntKind.i64 0, Value.int IntKind.i64 0, Value.int IntKind.i64 0]⟩
noncomputable def ti57 : TI := ⟨.slice 99, 1, 24, [Value.slice none 0 0]⟩
noncomputable def ti58 : TI := ⟨.slice 106, 1, 24, [Value.slice none 0 0]⟩
noncomputable def ti59 : TI := ⟨.struct [(0, 3), (1, 3), (2, 3), (3, 3)], 4, 32, [Value.int IntKind.i64 0, Value.int IntKind.i64 0, Value.int IntKind.i64 0, Value.int IntKind.i64 0]⟩
noncomputable def ti61 : TI := ⟨.struct [(0, 57), (1, 58), (2, 59)], 6, 80, [Value.slice none 0 0, Value.slice none 0 0, Value.int IntKind.i64 0, Value.int IntKind.i64 0, Value.int IntKind.i64 0, Value.int IntKind.i64 0]⟩
noncomputable def ti63 : TI := ⟨.fn, 1, 8, [Value.nilFunc]⟩
noncomputable def ti66 : TI := ⟨.slice 68, 1, 24, [Value.slice none 0 0]⟩
noncomputable def ti68 : TI := ⟨.slice 4, 1, 24, [Value.slice none 0 0]⟩
noncomputable def ti81 : TI := ⟨.fn, 1, 8, [Value.nilFunc]⟩
noncomputable def ti88 : TI := ⟨.slice 5, 1, 24, [Value.slice none 0 0]⟩
noncomputable def ti92 : TI := ⟨.slice 120, 1, 24, [Value.slice none 0 0]⟩
noncomputable def ti94 : TI := ⟨.struct [(0, 3), (1, 92)], 2, 32, [Value.int IntKind.i64 0, Value.slice none 0 0]⟩
noncomputable def ti97 : TI := ⟨.slice 132, 1, 24, [Value.slice none 0 0]⟩
noncomputable def ti99 : TI := ⟨.struct [(0, 3), (1, 97)], 2, 32, [Value.int IntKind.i64 0, Value.slice none 0 0]⟩
noncomputable def ti106 : TI := ⟨.struct [(0, 3), (1, 3), (2, 3), (3, 3), (4, 3)], 5, 40, [Value.int IntKind.i64 0, Value.int IntKind.i64 0, Value.int IntKind.i64 0, Value.int IntKind.i64 0, Value.int IntKind.i64 0]⟩
noncomputable def ti108 : TI := ⟨.fn, 1, 8, [Value.nilFunc]⟩
noncomputable def ti110 : TI := ⟨.fn, 1, 8, [Value.nilFunc]⟩
noncomputable def ti120 : TI := ⟨.struct [(0, 3), (1, 3)], 2, 16, [Value.int IntKind.i64 0, Value.int IntKind.i64 0]⟩
noncomputable def ti128 : TI := ⟨.fn, 1, 8, [Value.nilFunc]⟩
noncomputable def ti132 : TI := ⟨.struct [(0, 3), (1, 3)], 2, 16, [Value.int IntKind.i64 0, Value.int IntKind.i64 0]⟩
noncomputable def Γ : TypeId → Option TI
 | 3 => some ti3
 | 4 => some ti4
 | 5 => some ti5
 | 9 => some ti9
 | 22 => some ti22
 | 24 => some ti24
 | 25 => some ti25
 | 27 => some ti27
 | 29 => some ti29
 | 41 => some ti41
 | 42 => some ti42
 | 44 => some ti44
 | 46 => some ti46
 | 49 => some ti49
 | 57 => some ti57
 | 58 => some ti58
 | 59 => some ti59
 | 61 => some ti61
 | 63 => some ti63
 | 66 => some ti66
 | 68 => some ti68
 | 81 => some ti81
 | 88 => some ti88
 | 92 => some ti92
 | 94 => some ti94
 | 97 => some ti97
 | 99 => some ti99
 | 106 => some ti106
 | 108 => some ti108
 | 110 => some ti110
 | 120 => some ti120
 | 128 => some ti128
 | 132 => some ti132
 | _ => none
def E : TypeId → Nat
 | _ => 0
theorem Γ_cases {t : TypeId} {i : TI} (h : Γ t = some i) : (t = 3 ∧ i = ti3) ∨ (t = 4 ∧ i = ti4) ∨ (t = 5 ∧ i = ti5) ∨ (t = 9 ∧ i = ti9) ∨ (t = 22 ∧ i = ti22) ∨ (t = 24 ∧ i = ti24) ∨ (t = 25 ∧ i = ti25) ∨ (t = 27 ∧ i = ti27) ∨ (t = 29 ∧ i = ti29) ∨ (t = 41 ∧ i = ti41) ∨ (t = 42 ∧ i = ti42) ∨ (t = 44 ∧ i = ti44) ∨ (t = 46 ∧ i = ti46) ∨ (t = 49 ∧ i = ti49) ∨ (t = 57 ∧ i = ti57) ∨ (t = 58 ∧ i = ti58) ∨ (t = 59 ∧ i = ti59) ∨ (t = 61 ∧ i = ti61) ∨ (t = 63 ∧ i = ti63) ∨ (t = 66 ∧ i = ti66) ∨ (t = 68 ∧ i = ti68) ∨ (t = 81 ∧ i = ti81) ∨ (t = 88 ∧ i = ti88) ∨ (t = 92 ∧ i = ti92) ∨ (t = 94 ∧ i = ti94) ∨ (t = 97 ∧ i = ti97) ∨ (t = 99 ∧ i = ti99) ∨ (t = 106 ∧ i = ti106) ∨ (t = 108 ∧ i = ti108) ∨ (t = 110 ∧ i = ti110) ∨ (t = 120 ∧ i = ti120) ∨ (t = 128 ∧ i = ti128) ∨ (t = 132 ∧ i = ti132) := by
 unfold Γ at h
 split at h <;> first | (injection h with h; subst h; simp) | cases h
/-- One row of the table. -/
theorem row_ok {t : TypeId} {i : TI} {d : TypeDesc} (h : (Tryz.prog.info? t).map (fun x => (x.size, x.bytes, x.zero.map fun z => z.cells)) = some (i.size, i.bytes, some i.zero.toArray)) (hp : i.zero.all plainV = true) (hu : Tryz.prog.underlying t = some d) (hs : ShOk d i.sh) :
  ∃ inf, Tryz.prog.info? t = some inf ∧ inf.size = i.size ∧ inf.bytes = i.bytes ∧ (∃ z, inf.zero = some z ∧ z.cells = i.zero.toArray) ∧ (∀ v ∈ i.zero, plainV v = true) ∧ ∃ d, Tryz.prog.underlying t = some d ∧ ShOk d i.sh := by
 obtain ⟨inf, h1, h2⟩ := Option.map_eq_some_iff.1 h
 injection h2 with h2 h3
 injection h3 with h3 h4
 obtain ⟨z, h5, h6⟩ := Option.map_eq_some_iff.1 h4
 exact ⟨inf, h1, h2, h3, ⟨z, h5, h6⟩, fun v hv => List.all_eq_true.1 hp v hv, d, hu, hs⟩
theorem row3 : ∃ inf, Tryz.prog.info? 3 = some inf ∧ inf.size = ti3.size ∧ inf.bytes = ti3.bytes ∧ (∃ z, inf.zero = some z ∧ z.cells = ti3.zero.toArray) ∧ (∀ v ∈ ti3.zero, plainV v = true) ∧ ∃ d, Tryz.prog.underlying 3 = some d ∧ ShOk d ti3.sh :=
 row_ok (by kernel_rfl) rfl Tryz.underlying3 rfl
theorem row4 : ∃ inf, Tryz.prog.info? 4 = some inf ∧ inf.size = ti4.size ∧ inf.bytes = ti4.bytes ∧ (∃ z, inf.zero = some z ∧ z.cells = ti4.zero.toArray) ∧ (∀ v ∈ ti4.zero, plainV v = true) ∧ ∃ d, Tryz.prog.underlying 4 = some d ∧ ShOk d ti4.sh :=
 row_ok (by kernel_rfl) rfl Tryz.underlying4 rfl
theorem row5 : ∃ inf, Tryz.prog.info? 5 = some inf ∧ inf.size = ti5.size ∧ inf.bytes = ti5.bytes ∧ (∃ z, inf.zero = some z ∧ z.cells = ti5.zero.toArray) ∧ (∀ v ∈ ti5.zero, plainV v = true) ∧ ∃ d, Tryz.prog.underlying 5 = some d ∧ ShOk d ti5.sh :=
 row_ok (by kernel_rfl) rfl Tryz.underlying5 rfl
theorem row9 : ∃ inf, Tryz.prog.info? 9 = some inf ∧ inf.size = ti9.size ∧ inf.bytes = ti9.bytes ∧ (∃ z, inf.zero = some z ∧ z.cells = ti9.zero.toArray) ∧ (∀ v ∈ ti9.zero, plainV v = true) ∧ ∃ d, Tryz.prog.underlying 9 = some d ∧ ShOk d ti9.sh :=
 row_ok (by kernel_rfl) rfl Tryz.underlying9 rfl
theorem row22 : ∃ inf, Tryz.prog.info? 22 = some inf ∧ inf.size = ti22.size ∧ inf.bytes = ti22.bytes ∧ (∃ z, inf.zero = some z ∧ z.cells = ti22.zero.toArray) ∧ (∀ v ∈ ti22.zero, plainV v = true) ∧ ∃ d, Tryz.prog.underlying 22 = some d ∧ ShOk d ti22.sh :=
 row_ok (by kernel_rfl) rfl Tryz.underlying22 rfl
theorem row24 : ∃ inf, Tryz.prog.info? 24 = some inf ∧ inf.size = ti24.size ∧ inf.bytes = ti24.bytes ∧ (∃ z, inf.zero = some z ∧ z.cells = ti24.zero.toArray) ∧ (∀ v ∈ ti24.zero, plainV v = true) ∧ ∃ d, Tryz.prog.underlying 24 = some d ∧ ShOk d ti24.sh :=
 row_ok (by kernel_rfl) rfl Tryz.underlying24 ⟨_, rfl, rfl⟩
theorem row25 : ∃ inf, Tryz.prog.info? 25 = some inf ∧ inf.size = ti25.size ∧ inf.bytes = ti25.bytes ∧ (∃ z, inf.zero = some z ∧ z.cells = ti25.zero.toArray) ∧ (∀ v ∈ ti25.zero, plainV v = true) ∧ ∃ d, Tryz.prog.underlying 25 = some d ∧ ShOk d ti25.sh :=
 row_ok (by kernel_rfl) rfl Tryz.underlying25 rfl
theorem row27 : ∃ inf, Tryz.prog.info? 27 = some inf ∧ inf.size = ti27.size ∧ inf.bytes = ti27.bytes ∧ (∃ z, inf.zero = some z ∧ z.cells = ti27.zero.toArray) ∧ (∀ v ∈ ti27.zero, plainV v = true) ∧ ∃ d, Tryz.prog.underlying 27 = some d ∧ ShOk d ti27.sh :=
 row_ok (by kernel_rfl) rfl Tryz.underlying27 rfl
theorem row29 : ∃ inf, Tryz.prog.info? 29 = some inf ∧ inf.size = ti29.size ∧ inf.bytes = ti29.bytes ∧ (∃ z, inf.zero = some z ∧ z.cells = ti29.zero.toArray) ∧ (∀ v ∈ ti29.zero, plainV v = true) ∧ ∃ d, Tryz.prog.underlying 29 = some d ∧ ShOk d ti29.sh :=
 row_ok (by kernel_rfl) rfl Tryz.underlying29 ⟨_, rfl, rfl⟩
theorem row41 : ∃ inf, Tryz.prog.info? 41 = some inf ∧ inf.size = ti41.size ∧ inf.bytes = ti41.bytes ∧ (∃ z, inf.zero = some z ∧ z.cells = ti41.zero.toArray) ∧ (∀ v ∈ ti41.zero, plainV v = true) ∧ ∃ d, Tryz.prog.underlying 41 = some d ∧ ShOk d ti41.sh :=
 row_ok (by kernel_rfl) rfl Tryz.underlying41 rfl
theorem row42 : ∃ inf, Tryz.prog.info? 42 = some inf ∧ inf.size = ti42.size ∧ inf.bytes = ti42.bytes ∧ (∃ z, inf.zero = some z ∧ z.cells = ti42.zero.toArray) ∧ (∀ v ∈ ti42.zero, plainV v = true) ∧ ∃ d, Tryz.prog.underlying 42 = some d ∧ ShOk d ti42.sh :=
 row_ok (by kernel_rfl) rfl Tryz.underlying42 rfl
theorem row44 : ∃ inf, Tryz.prog.info? 44 = some inf ∧ inf.size = ti44.size ∧ inf.bytes = ti44.bytes ∧ (∃ z, inf.zero = some z ∧ z.cells = ti44.zero.toArray) ∧ (∀ v ∈ ti44.zero, plainV v = true) ∧ ∃ d, Tryz.prog.underlying 44 = some d ∧ ShOk d ti44.sh :=
 row_ok (by kernel_rfl) rfl Tryz.underlying44 ⟨_, rfl, rfl⟩
theorem row46 : ∃ inf, Tryz.prog.info? 46 = some inf ∧ inf.size = ti46.size ∧ inf.bytes = ti46.bytes ∧ (∃ z, inf.zero = some z ∧ z.cells = ti46.zero.toArray) ∧ (∀ v ∈ ti46.zero, plainV v = true) ∧ ∃ d, Tryz.prog.underlying 46 = some d ∧ ShOk d ti46.sh :=
 row_ok (by kernel_rfl) rfl Tryz.underlying46 ⟨_, rfl, rfl⟩
theorem row49 : ∃ inf, Tryz.prog.info? 49 = some inf ∧ inf.size = ti49.size ∧ inf.bytes = ti49.bytes ∧ (∃ z, inf.zero = some z ∧ z.cells = ti49.zero.toArray) ∧ (∀ v ∈ ti49.zero, plainV v = true) ∧ ∃ d, Tryz.prog.underlying 49 = some d ∧ ShOk d ti49.sh :=
 row_ok (by kernel_rfl) rfl Tryz.underlying49 ⟨_, rfl, rfl⟩
theorem row57 : ∃ inf, Tryz.prog.info? 57 = some inf ∧ inf.size = ti57.size ∧ inf.bytes = ti57.bytes ∧ (∃ z, inf.zero = some z ∧ z.cells = ti57.zero.toArray) ∧ (∀ v ∈ ti57.zero, plainV v = true) ∧ ∃ d, Tryz.prog.underlying 57 = some d ∧ ShOk d ti57.sh :=
 row_ok (by kernel_rfl) rfl Tryz.underlying57 rfl
theorem row58 : ∃ inf, Tryz.prog.info? 58 = some inf ∧ inf.size = ti58.size ∧ inf.bytes = ti58.bytes ∧ (∃ z, inf.zero = some z ∧ z.cells = ti58.zero.toArray) ∧ (∀ v ∈ ti58.zero, plainV v = true) ∧ ∃ d, Tryz.prog.underlying 58 = some d ∧ ShOk d ti58.sh :=
 row_ok (by kernel_rfl) rfl Tryz.underlying58 rfl
theorem row59 : ∃ inf, Tryz.prog.info? 59 = some inf ∧ inf.size = ti59.size ∧ inf.bytes = ti59.bytes ∧ (∃ z, inf.zero = some z ∧ z.cells = ti59.zero.toArray) ∧ (∀ v ∈ ti59.zero, plainV v = true) ∧ ∃ d, Tryz.prog.underlying 59 = some d ∧ ShOk d ti59.sh :=
 row_ok (by kernel_rfl) rfl Tryz.underlying59 ⟨_, rfl, rfl⟩
theorem row61 : ∃ inf, Tryz.prog.info? 61 = some inf ∧ inf.size = ti61.size ∧ inf.bytes = ti61.bytes ∧ (∃ z, inf.zero = some z ∧ z.cells = ti61.zero.toArray) ∧ (∀ v ∈ ti61.zero, plainV v = true) ∧ ∃ d, Tryz.prog.underlying 61 = some d ∧ ShOk d ti61.sh :=
 row_ok (by kernel_rfl) rfl Tryz.underlying61 ⟨_, rfl, rfl⟩
theorem row63 : ∃ inf, Tryz.prog.info? 63 = some inf ∧ inf.size = ti63.size ∧ inf.bytes = ti63.bytes ∧ (∃ z, inf.zero = some z ∧ z.cells = ti63.zero.toArray) ∧ (∀ v ∈ ti63.zero, plainV v = true) ∧ ∃ d, Tryz.prog.underlying 63 = some d ∧ ShOk d ti63.sh :=
 row_ok (by kernel_rfl) rfl Tryz.underlying63 ⟨_, _, _, rfl⟩
theorem row66 : ∃ inf, Tryz.prog.info? 66 = some inf ∧ inf.size = ti66.size ∧ inf.bytes = ti66.bytes ∧ (∃ z, inf.zero = some z ∧ z.cells = ti66.zero.toArray) ∧ (∀ v ∈ ti66.zero, plainV v = true) ∧ ∃ d, Tryz.prog.underlying 66 = some d ∧ ShOk d ti66.sh :=
 row_ok (by kernel_rfl) rfl Tryz.underlying66 rfl
theorem row68 : ∃ inf, Tryz.prog.info? 68 = some inf ∧ inf.size = ti68.size ∧ inf.bytes = ti68.bytes ∧ (∃ z, inf.zero = some z ∧ z.cells = ti68.zero.toArray) ∧ (∀ v ∈ ti68.zero, plainV v = true) ∧ ∃ d, Tryz.prog.underlying 68 = some d ∧ ShOk d ti68.sh :=
 row_ok (by kernel_rfl) rfl Tryz.underlying68 rfl
theorem row81 : ∃ inf, Tryz.prog.info? 81 = some inf ∧ inf.size = ti81.size ∧ inf.bytes = ti81.bytes ∧ (∃ z, inf.zero = some z ∧ z.cells = ti81.zero.toArray) ∧ (∀ v ∈ ti81.zero, plainV v = true) ∧ ∃ d, Tryz.prog.underlying 81 = some d ∧ ShOk d ti81.sh :=
 row_ok (by kernel_rfl) rfl Tryz.underlying81 ⟨_, _, _, rfl⟩
theorem row88 : ∃ inf, Tryz.prog.info? 88 = some inf ∧ inf.size = ti88.size ∧ inf.bytes = ti88.bytes ∧ (∃ z, inf.zero = some z ∧ z.cells = ti88.zero.toArray) ∧ (∀ v ∈ ti88.zero, plainV v = true) ∧ ∃ d, Tryz.prog.underlying 88 = some d ∧ ShOk d ti88.sh :=
 row_ok (by kernel_rfl) rfl Tryz.underlying88 rfl
theorem row92 : ∃ inf, Tryz.prog.info? 92 = some inf ∧ inf.size = ti92.size ∧ inf.bytes = ti92.bytes ∧ (∃ z, inf.zero = some z ∧ z.cells = ti92.zero.toArray) ∧ (∀ v ∈ ti92.zero, plainV v = true) ∧ ∃ d, Tryz.prog.underlying 92 = some d ∧ ShOk d ti92.sh :=
 row_ok (by kernel_rfl) rfl Tryz.underlying92 rfl
theorem row94 : ∃ inf, Tryz.prog.info? 94 = some inf ∧ inf.size = ti94.size ∧ inf.bytes = ti94.bytes ∧ (∃ z, inf.zero = some z ∧ z.cells = ti94.zero.toArray) ∧ (∀ v ∈ ti94.zero, plainV v = true) ∧ ∃ d, Tryz.prog.underlying 94 = some d ∧ ShOk d ti94.sh :=
 row_ok (by kernel_rfl) rfl Tryz.underlying94 ⟨_, rfl, rfl⟩
theorem row97 : ∃ inf, Tryz.prog.info? 97 = some inf ∧ inf.size = ti97.size ∧ inf.bytes = ti97.bytes ∧ (∃ z, inf.zero = some z ∧ z.cells = ti97.zero.toArray) ∧ (∀ v ∈ ti97.zero, plainV v = true) ∧ ∃ d, Tryz.prog.underlying 97 = some d ∧ ShOk d ti97.sh :=
 row_ok (by kernel_rfl) rfl Tryz.underlying97 rfl
theorem row99 : ∃ inf, Tryz.prog.info? 99 = some inf ∧ inf.size = ti99.size ∧ inf.bytes = ti99.bytes ∧ (∃ z, inf.zero = some z ∧ z.cells = ti99.zero.toArray) ∧ (∀ v ∈ ti99.zero, plainV v = true) ∧ ∃ d, Tryz.prog.underlying 99 = some d ∧ ShOk d ti99.sh :=
 row_ok (by kernel_rfl) rfl Tryz.underlying99 ⟨_, rfl, rfl⟩
theorem row106 : ∃ inf, Tryz.prog.info? 106 = some inf ∧ inf.size = ti106.size ∧ inf.bytes = ti106.bytes ∧ (∃ z, inf.zero = some z ∧ z.cells = ti106.zero.toArray) ∧ (∀ v ∈ ti106.zero, plainV v = true) ∧ ∃ d, Tryz.prog.underlying 106 = some d ∧ ShOk d ti106.sh :=
 row_ok (by kernel_rfl) rfl Tryz.underlying106 ⟨_, rfl, rfl⟩
theorem row108 : ∃ inf, Tryz.prog.info? 108 = some inf ∧ inf.size = ti108.size ∧ inf.bytes = ti108.bytes ∧ (∃ z, inf.zero = some z ∧ z.cells = ti108.zero.toArray) ∧ (∀ v ∈ ti108.zero, plainV v = true) ∧ ∃ d, Tryz.prog.underlying 108 = some d ∧ ShOk d ti108.sh :=
 row_ok (by kernel_rfl) rfl Tryz.underlying108 ⟨_, _, _, rfl⟩
theorem row110 : ∃ inf, Tryz.prog.info? 110 = some inf ∧ inf.size = ti110.size ∧ inf.bytes = ti110.bytes ∧ (∃ z, inf.zero = some z ∧ z.cells = ti110.zero.toArray) ∧ (∀ v ∈ ti110.zero, plainV v = true) ∧ ∃ d, Tryz.prog.underlying 110 = some d ∧ ShOk d ti110.sh :=
 row_ok (by kernel_rfl) rfl Tryz.underlying110 ⟨_, _, _, rfl⟩
theorem row120 : ∃ inf, Tryz.prog.info? 120 = some inf ∧ inf.size = ti120.size ∧ inf.bytes = ti120.bytes ∧ (∃ z, inf.zero = some z ∧ z.cells = ti120.zero.toArray) ∧ (∀ v ∈ ti120.zero, plainV v = true) ∧ ∃ d, Tryz.prog.underlying 120 = some d ∧ ShOk d ti120.sh :=
 row_ok (by kernel_rfl) rfl Tryz.underlying120 ⟨_, rfl, rfl⟩
theorem row128 : ∃ inf, Tryz.prog.info? 128 = some inf ∧ inf.size = ti128.size ∧ inf.bytes = ti128.bytes ∧ (∃ z, inf.zero = some z ∧ z.cells = ti128.zero.toArray) ∧ (∀ v ∈ ti128.zero, plainV v = true) ∧ ∃ d, Tryz.prog.underlying 128 = some d ∧ ShOk d ti128.sh :=
 row_ok (by kernel_rfl) rfl Tryz.underlying128 ⟨_, _, _, rfl⟩
theorem row132 : ∃ inf, Tryz.prog.info? 132 = some inf ∧ inf.size = ti132.size ∧ inf.bytes = ti132.bytes ∧ (∃ z, inf.zero = some z ∧ z.cells = ti132.zero.toArray) ∧ (∀ v ∈ ti132.zero, plainV v = true) ∧ ∃ d, Tryz.prog.underlying 132 = some d ∧ ShOk d ti132.sh :=
 row_ok (by kernel_rfl) rfl Tryz.underlying132 ⟨_, rfl, rfl⟩
theorem know_ty : ∀ t i, Γ t = some i → ∃ inf, Tryz.prog.info? t = some inf ∧ inf.size = i.size ∧ inf.bytes = i.bytes ∧ (∃ z, inf.zero = some z ∧ z.cells = i.zero.toArray) ∧ (∀ v ∈ i.zero, plainV v = true) ∧ ∃ d, Tryz.prog.underlying t = some d ∧ ShOk d i.sh := by
 intro t i h
 unfold Γ at h
 split at h
 ·injection h with h; subst h; exact row3
 ·injection h with h; subst h; exact row4
 ·injection h with h; subst h; exact row5
 ·injection h with h; subst h; exact row9
 ·injection h with h; subst h; exact row22
 ·injection h with h; subst h; exact row24
 ·injection h with h; subst h; exact row25
 ·injection h with h; subst h; exact row27
 ·injection h with h; subst h; exact row29
 ·injection h with h; subst h; exact row41
 ·injection h with h; subst h; exact row42
 ·injection h with h; subst h; exact row44
 ·injection h with h; subst h; exact row46
 ·injection h with h; subst h; exact row49
 ·injection h with h; subst h; exact row57
 ·injection h with h; subst h; exact row58
 ·injection h with h; subst h; exact row59
 ·injection h with h; subst h; exact row61
 ·injection h with h; subst h; exact row63
 ·injection h with h; subst h; exact row66
 ·injection h with h; subst h; exact row68
 ·injection h with h; subst h; exact row81
 ·injection h with h; subst h; exact row88
 ·injection h with h; subst h; exact row92
 ·injection h with h; subst h; exact row94
 ·injection h with h; subst h; exact row97
 ·injection h with h; subst h; exact row99
 ·injection h with h; subst h; exact row106
 ·injection h with h; subst h; exact row108
 ·injection h with h; subst h; exact row110
 ·injection h with h; subst h; exact row120
 ·injection h with h; subst h; exact row128
 ·injection h with h; subst h; exact row132
 ·cases h
theorem know : Know Tryz.prog Γ E := ⟨know_ty, fun t h => absurd rfl h, fun t h => absurd rfl h, by kernel_rfl⟩
@[go_sem] theorem fa_24_0 : fa Γ 24 0 = some 0 := nr rfl
@[go_sem] theorem fa_24_1 : fa Γ 24 1 = some 1 := nr rfl
@[go_sem] theorem fa_29_0 : fa Γ 29 0 = some 0 := nr rfl
@[go_sem] theorem fa_29_1 : fa Γ 29 1 = some 1 := nr rfl
@[go_sem] theorem fa_44_0 : fa Γ 44 0 = some 0 := nr rfl
@[go_sem] theorem fa_44_1 : fa Γ 44 1 = some 1 := nr rfl
@[go_sem] theorem fa_44_2 : fa Γ 44 2 = some 2 := nr rfl
@[go_sem] theorem fa_44_3 : fa Γ 44 3 = some 3 := nr rfl
@[go_sem] theorem fa_46_0 : fa Γ 46 0 = some 0 := nr rfl
@[go_sem] theorem fa_46_1 : fa Γ 46 1 = some 1 := nr rfl
@[go_sem] theorem fa_46_2 : fa Γ 46 2 = some 2 := nr rfl
@[go_sem] theorem fa_49_0 : fa Γ 49 0 = some 0 := nr rfl
@[go_sem] theorem fa_49_1 : fa Γ 49 1 = some 1 := nr rfl
@[go_sem] theorem fa_49_2 : fa Γ 49 2 = some 2 := nr rfl
@[go_sem] theorem fa_49_3 : fa Γ 49 3 = some 3 := nr rfl
@[go_sem] theorem fa_49_4 : fa Γ 49 4 = some 4 := nr rfl
@[go_sem] theorem fa_59_0 : fa Γ 59 0 = some 0 := nr rfl
@[go_sem] theorem fa_59_1 : fa Γ 59 1 = some 1 := nr rfl
@[go_sem] theorem fa_59_2 : fa Γ 59 2 = some 2 := nr rfl
@[go_sem] theorem fa_59_3 : fa Γ 59 3 = some 3 := nr rfl
@[go_sem] theorem fa_61_0 : fa Γ 61 0 = some 0 := nr rfl
@[go_sem] theorem fa_61_1 : fa Γ 61 1 = some 1 := nr rfl
@[go_sem] theorem fa_61_2 : fa Γ 61 2 = some 2 := nr rfl
@[go_sem] theorem fa_94_0 : fa Γ 94 0 = some 0 := nr rfl
@[go_sem] theorem fa_94_1 : fa Γ 94 1 = some 1 := nr rfl
@[go_sem] theorem fa_99_0 : fa Γ 99 0 = some 0 := nr rfl
@[go_sem] theorem fa_99_1 : fa Γ 99 1 = some 1 := nr rfl
@[go_sem] theorem fa_106_0 : fa Γ 106 0 = some 0 := nr rfl
@[go_sem] theorem fa_106_1 : fa Γ 106 1 = some 1 := nr rfl
@[go_sem] theorem fa_106_2 : fa Γ 106 2 = some 2 := nr rfl
@[go_sem] theorem fa_106_3 : fa Γ 106 3 = some 3 := nr rfl
@[go_sem] theorem fa_106_4 : fa Γ 106 4 = some 4 := nr rfl
@[go_sem] theorem fa_120_0 : fa Γ 120 0 = some 0 := nr rfl
@[go_sem] theorem fa_120_1 : fa Γ 120 1 = some 1 := nr rfl
@[go_sem] theorem fa_132_0 : fa Γ 132 0 = some 0 := nr rfl
@[go_sem] theorem fa_132_1 : fa Γ 132 1 = some 1 := nr rfl
@[go_sem] theorem ld_3 {n o : Nat} {h : Hp} : ldv Γ 3 (.pointer (some ⟨n, o, none⟩)) h = h.cell n o := nr rfl
@[go_sem] theorem sv_3 {n o : Nat} {x : Value} {h : Hp} : stv Γ 3 (.pointer (some ⟨n, o, none⟩)) x h = stC n o 1 x h := nr rfl
@[go_sem] theorem za_3 {nm : Nat} : (Γ 3).map (fun t => (Value.pointer (some ⟨nm, 0, none⟩), ({ cells := t.zero, rw := true } : Blk))) = some (.pointer (some ⟨nm, 0, none⟩), { cells := [Value.int IntKind.i64 0], rw := true }) := nr rfl
@[go_sem] theorem nb_4 {a b : Bool} : binV Γ E .neq 4 (.bool a) (.bool b) = some (.bool (!(a == b))) := nr rfl
@[go_sem] theorem eb_4 {a b : Bool} : binV Γ E .eql 4 (.bool a) (.bool b) = some (.bool (a == b)) := nr rfl
@[go_sem] theorem ld_4 {n o : Nat} {h : Hp} : ldv Γ 4 (.pointer (some ⟨n, o, none⟩)) h = h.cell n o := nr rfl
@[go_sem] theorem sv_4 {n o : Nat} {x : Value} {h : Hp} : stv Γ 4 (.pointer (some ⟨n, o, none⟩)) x h = stC n o 1 x h := nr rfl
@[go_sem] theorem za_4 {nm : Nat} : (Γ 4).map (fun t => (Value.pointer (some ⟨nm, 0, none⟩), ({ cells := t.zero, rw := true } : Blk))) = some (.pointer (some ⟨nm, 0, none⟩), { cells := [Value.bool false], rw := true }) := nr rfl
@[go_sem] theorem ld_5 {n o : Nat} {h : Hp} : ldv Γ 5 (.pointer (some ⟨n, o, none⟩)) h = h.cell n o := nr rfl
@[go_sem] theorem sv_5 {n o : Nat} {x : Value} {h : Hp} : stv Γ 5 (.pointer (some ⟨n, o, none⟩)) x h = stC n o 1 x h := nr rfl
@[go_sem] theorem za_5 {nm : Nat} : (Γ 5).map (fun t => (Value.pointer (some ⟨nm, 0, none⟩), ({ cells := t.zero, rw := true } : Blk))) = some (.pointer (some ⟨nm, 0, none⟩), { cells := [Value.int IntKind.u8 0], rw := true }) := nr rfl
@[go_sem] theorem st_9 : isStr Γ 9 = some true := nr rfl
@[go_sem] theorem ld_9 {n o : Nat} {h : Hp} : ldv Γ 9 (.pointer (some ⟨n, o, none⟩)) h = h.cell n o := nr rfl
@[go_sem] theorem sv_9 {n o : Nat} {x : Value} {h : Hp} : stv Γ 9 (.pointer (some ⟨n, o, none⟩)) x h = stC n o 1 x h := nr rfl
@[go_sem] theorem za_9 {nm : Nat} : (Γ 9).map (fun t => (Value.pointer (some ⟨nm, 0, none⟩), ({ cells := t.zero, rw := true } : Blk))) = some (.pointer (some ⟨nm, 0, none⟩), { cells := [Value.string ByteArray.empty], rw := true }) := nr rfl
@[go_sem] theorem es_22 : es Γ 22 = some 6 := nr rfl
@[go_sem] theorem st_22 : isStr Γ 22 = some false := nr rfl
theorem mk_22 {nm n : Nat} {kk k' : IntKind} (hn : n < 4294967296) : mkO Γ nm 22 (.int kk (n : Int)) (.int k' (n : Int)) = some (.slice (some ⟨nm, 0, none⟩) n (U 6), { cells := repZ [Value.slice none 0 0, Value.slice none 0 0, Value.int IntKind.i64 0, Value.int IntKind.i64 0, Value.int IntKind.i64 0, Value.int IntKind.i64 0] n, rw := true }) := mkO_ok (i1 := ti61) rfl rfl (by decide) rfl (by decide) hn
theorem bs_22 {C : Rel} {D : DrawR} {Q : Ex → S → Prop} {k : List Fr} {s : S} {base i : Nat} {l : List POp} {d : Option Nat} {len : Nat} {parts : Array (Nat × Operand)} : OpG Γ E C D Q base i (⟨d, none, .buildSlice 22 len parts⟩ :: l) k s = OpK Γ E C D Q base (i + 1) l k s d (base + i) (bsO (base + i) 6 [Value.slice none 0 0, Value.slice none 0 0, Value.int IntKind.i64 0, Value.int IntKind.i64 0, Value.int IntKind.i64 0, Value.int IntKind.i64 0] len (parts.toList.map fun p => (p.1, s.ev p.2))) := op_bs (i1 := ti61) rfl rfl rfl (by decide) rfl
theorem ap_22 {nm : Nat} {x y : Value} {h : Hp} : appendV Γ nm 22 22 x y h = apO 6 nm x h (apT 6 y h) := append_eq (i1 := ti61) rfl rfl (by decide) rfl (by decide) (by decide) rfl
attribute [go_sem] mk_22 bs_22 ap_22
@[go_sem] theorem nn_22 {a : Option Addr} {n c : Nat} : binV Γ E .neq 22 (.slice a n c) (.slice none 0 0) = some (.bool (!a.isNone)) := nr rfl
@[go_sem] theorem en_22 {a : Option Addr} {n c : Nat} : binV Γ E .eql 22 (.slice a n c) (.slice none 0 0) = some (.bool a.isNone) := nr rfl
@[go_sem] theorem ld_22 {n o : Nat} {h : Hp} : ldv Γ 22 (.pointer (some ⟨n, o, none⟩)) h = h.cell n o := nr rfl
@[go_sem] theorem sv_22 {n o : Nat} {x : Value} {h : Hp} : stv Γ 22 (.pointer (some ⟨n, o, none⟩)) x h = stC n o 1 x h := nr rfl
@[go_sem] theorem za_22 {nm : Nat} : (Γ 22).map (fun t => (Value.pointer (some ⟨nm, 0, none⟩), ({ cells := t.zero, rw := true } : Blk))) = some (.pointer (some ⟨nm, 0, none⟩), { cells := [Value.slice none 0 0], rw := true }) := nr rfl
@[go_sem] theorem ld_24 {n o : Nat} {h : Hp} : ldv Γ 24 (.pointer (some ⟨n, o, none⟩)) h = (h.cells n o 2).map fun cs => .agg cs.toArray := nr rfl
@[go_sem] theorem sv_24 {n o : Nat} {x : Value} {h : Hp} : stv Γ 24 (.pointer (some ⟨n, o, none⟩)) x h = stC n o 2 x h := nr rfl
@[go_sem] theorem za_24 {nm : Nat} : (Γ 24).map (fun t => (Value.pointer (some ⟨nm, 0, none⟩), ({ cells := t.zero, rw := true } : Blk))) = some (.pointer (some ⟨nm, 0, none⟩), { cells := [Value.slice none 0 0, Value.int IntKind.i64 0], rw := true }) := nr rfl
@[go_sem] theorem es_25 : es Γ 25 = some 1 := nr rfl
@[go_sem] theorem st_25 : isStr Γ 25 = some false := nr rfl
theorem mk_25 {nm n : Nat} {kk k' : IntKind} (hn : n < 4294967296) : mkO Γ nm 25 (.int kk (n : Int)) (.int k' (n : Int)) = some (.slice (some ⟨nm, 0, none⟩) n (U 1), { cells := repZ [Value.int IntKind.i64 0] n, rw := true }) := mkO_ok (i1 := ti3) rfl rfl (by decide) rfl (by decide) hn
theorem bs_25 {C : Rel} {D : DrawR} {Q : Ex → S → Prop} {k : List Fr} {s : S} {base i : Nat} {l : List POp} {d : Option Nat} {len : Nat} {parts : Array (Nat × Operand)} : OpG Γ E C D Q base i (⟨d, none, .buildSlice 25 len parts⟩ :: l) k s = OpK Γ E C D Q base (i + 1) l k s d (base + i) (bsO (base + i) 1 [Value.int IntKind.i64 0] len (parts.toList.map fun p => (p.1, s.ev p.2))) := op_bs (i1 := ti3) rfl rfl rfl (by decide) rfl
theorem ap_25 {nm : Nat} {x y : Value} {h : Hp} : appendV Γ nm 25 25 x y h = apO 1 nm x h (apT 1 y h) := append_eq (i1 := ti3) rfl rfl (by decide) rfl (by decide) (by decide) rfl
attribute [go_sem] mk_25 bs_25 ap_25
@[go_sem] theorem nn_25 {a : Option Addr} {n c : Nat} : binV Γ E .neq 25 (.slice a n c) (.slice none 0 0) = some (.bool (!a.isNone)) := nr rfl
@[go_sem] theorem en_25 {a : Option Addr} {n c : Nat} : binV Γ E .eql 25 (.slice a n c) (.slice none 0 0) = some (.bool a.isNone) := nr rfl
@[go_sem] theorem ld_25 {n o : Nat} {h : Hp} : ldv Γ 25 (.pointer (some ⟨n, o, none⟩)) h = h.cell n o := nr rfl
@[go_sem] theorem sv_25 {n o : Nat} {x : Value} {h : Hp} : stv Γ 25 (.pointer (some ⟨n, o, none⟩)) x h = stC n o 1 x h := nr rfl
@[go_sem] theorem za_25 {nm : Nat} : (Γ 25).map (fun t => (Value.pointer (some ⟨nm, 0, none⟩), ({ cells := t.zero, rw := true } : Blk))) = some (.pointer (some ⟨nm, 0, none⟩), { cells := [Value.slice none 0 0], rw := true }) := nr rfl
@[go_sem] theorem es_27 : es Γ 27 = some 6 := nr rfl
@[go_sem] theorem st_27 : isStr Γ 27 = some false := nr rfl
theorem mk_27 {nm n : Nat} {kk k' : IntKind} (hn : n < 4294967296) : mkO Γ nm 27 (.int kk (n : Int)) (.int k' (n : Int)) = some (.slice (some ⟨nm, 0, none⟩) n (U 6), { cells := repZ [Value.slice none 0 0, Value.slice none 0 0, Value.int IntKind.i64 0, Value.int IntKind.i64 0, Value.int IntKind.i64 0, Value.int IntKind.i64 0] n, rw := true }) := mkO_ok (i1 := ti46) rfl rfl (by decide) rfl (by decide) hn
theorem bs_27 {C : Rel} {D : DrawR} {Q : Ex → S → Prop} {k : List Fr} {s : S} {base i : Nat} {l : List POp} {d : Option Nat} {len : Nat} {parts : Array (Nat × Operand)} : OpG Γ E C D Q base i (⟨d, none, .buildSlice 27 len parts⟩ :: l) k s = OpK Γ E C D Q base (i + 1) l k s d (base + i) (bsO (base + i) 6 [Value.slice none 0 0, Value.slice none 0 0, Value.int IntKind.i64 0, Value.int IntKind.i64 0, Value.int IntKind.i64 0, Value.int IntKind.i64 0] len (parts.toList.map fun p => (p.1, s.ev p.2))) := op_bs (i1 := ti46) rfl rfl rfl (by decide) rfl
theorem ap_27 {nm : Nat} {x y : Value} {h : Hp} : appendV Γ nm 27 27 x y h = apO 6 nm x h (apT 6 y h) := append_eq (i1 := ti46) rfl rfl (by decide) rfl (by decide) (by decide) rfl
attribute [go_sem] mk_27 bs_27 ap_27
@[go_sem] theorem nn_27 {a : Option Addr} {n c : Nat} : binV Γ E .neq 27 (.slice a n c) (.slice none 0 0) = some (.bool (!a.isNone)) := nr rfl
@[go_sem] theorem en_27 {a : Option Addr} {n c : Nat} : binV Γ E .eql 27 (.slice a n c) (.slice none 0 0) = some (.bool a.isNone) := nr rfl
@[go_sem] theorem ld_27 {n o : Nat} {h : Hp} : ldv Γ 27 (.pointer (some ⟨n, o, none⟩)) h = h.cell n o := nr rfl
@[go_sem] theorem sv_27 {n o : Nat} {x : Value} {h : Hp} : stv Γ 27 (.pointer (some ⟨n, o, none⟩)) x h = stC n o 1 x h := nr rfl
@[go_sem] theorem za_27 {nm : Nat} : (Γ 27).map (fun t => (Value.pointer (some ⟨nm, 0, none⟩), ({ cells := t.zero, rw := true } : Blk))) = some (.pointer (some ⟨nm, 0, none⟩), { cells := [Value.slice none 0 0], rw := true }) := nr rfl
@[go_sem] theorem ld_29 {n o : Nat} {h : Hp} : ldv Γ 29 (.pointer (some ⟨n, o, none⟩)) h = (h.cells n o 2).map fun cs => .agg cs.toArray := nr rfl
@[go_sem] theorem sv_29 {n o : Nat} {x : Value} {h : Hp} : stv Γ 29 (.pointer (some ⟨n, o, none⟩)) x h = stC n o 2 x h := nr rfl
@[go_sem] theorem za_29 {nm : Nat} : (Γ 29).map (fun t => (Value.pointer (some ⟨nm, 0, none⟩), ({ cells := t.zero, rw := true } : Blk))) = some (.pointer (some ⟨nm, 0, none⟩), { cells := [Value.slice none 0 0, Value.int IntKind.i64 0], rw := true }) := nr rfl
@[go_sem] theorem es_41 : es Γ 41 = some 2 := nr rfl
@[go_sem] theorem st_41 : isStr Γ 41 = some false := nr rfl
theorem mk_41 {nm n : Nat} {kk k' : IntKind} (hn : n < 4294967296) : mkO Γ nm 41 (.int kk (n : Int)) (.int k' (n : Int)) = some (.slice (some ⟨nm, 0, none⟩) n (U 2), { cells := repZ [Value.int IntKind.i64 0, Value.slice none 0 0] n, rw := true }) := mkO_ok (i1 := ti94) rfl rfl (by decide) rfl (by decide) hn
theorem bs_41 {C : Rel} {D : DrawR} {Q : Ex → S → Prop} {k : List Fr} {s : S} {base i : Nat} {l : List POp} {d : Option Nat} {len : Nat} {parts : Array (Nat × Operand)} : OpG Γ E C D Q base i (⟨d, none, .buildSlice 41 len parts⟩ :: l) k s = OpK Γ E C D Q base (i + 1) l k s d (base + i) (bsO (base + i) 2 [Value.int IntKind.i64 0, Value.slice none 0 0] len (parts.toList.map fun p => (p.1, s.ev p.2))) := op_bs (i1 := ti94) rfl rfl rfl (by decide) rfl
theorem ap_41 {nm : Nat} {x y : Value} {h : Hp} : appendV Γ nm 41 41 x y h = apO 2 nm x h (apT 2 y h) := append_eq (i1 := ti94) rfl rfl (by decide) rfl (by decide) (by decide) rfl
attribute [go_sem] mk_41 bs_41 ap_41
@[go_sem] theorem nn_41 {a : Option Addr} {n c : Nat} : binV Γ E .neq 41 (.slice a n c) (.slice none 0 0) = some (.bool (!a.isNone)) := nr rfl
@[go_sem] theorem en_41 {a : Option Addr} {n c : Nat} : binV Γ E .eql 41 (.slice a n c) (.slice none 0 0) = some (.bool a.isNone) := nr rfl
@[go_sem] theorem ld_41 {n o : Nat} {h : Hp} : ldv Γ 41 (.pointer (some ⟨n, o, none⟩)) h = h.cell n o := nr rfl
@[go_sem] theorem sv_41 {n o : Nat} {x : Value} {h : Hp} : stv Γ 41 (.pointer (some ⟨n, o, none⟩)) x h = stC n o 1 x h := nr rfl
@[go_sem] theorem za_41 {nm : Nat} : (Γ 41).map (fun t => (Value.pointer (some ⟨nm, 0, none⟩), ({ cells := t.zero, rw := true } : Blk))) = some (.pointer (some ⟨nm, 0, none⟩), { cells := [Value.slice none 0 0], rw := true }) := nr rfl
@[go_sem] theorem es_42 : es Γ 42 = some 5 := nr rfl
@[go_sem] theorem st_42 : isStr Γ 42 = some false := nr rfl
theorem mk_42 {nm n : Nat} {kk k' : IntKind} (hn : n < 4294967296) : mkO Γ nm 42 (.int kk (n : Int)) (.int k' (n : Int)) = some (.slice (some ⟨nm, 0, none⟩) n (U 5), { cells := repZ [Value.int IntKind.i64 0, Value.int IntKind.i64 0, Value.int IntKind.i64 0, Value.int IntKind.i64 0, Value.int IntKind.i64 0] n, rw := true }) := mkO_ok (i1 := ti49) rfl rfl (by decide) rfl (by decide) hn
theorem bs_42 {C : Rel} {D : DrawR} {Q : Ex → S → Prop} {k : List Fr} {s : S} {base i : Nat} {l : List POp} {d : Option Nat} {len : Nat} {parts : Array (Nat × Operand)} : OpG Γ E C D Q base i (⟨d, none, .buildSlice 42 len parts⟩ :: l) k s = OpK Γ E C D Q base (i + 1) l k s d (base + i) (bsO (base + i) 5 [Value.int IntKind.i64 0, Value.int IntKind.i64 0, Value.int IntKind.i64 0, Value.int IntKind.i64 0, Value.int IntKind.i64 0] len (parts.toList.map fun p => (p.1, s.ev p.2))) := op_bs (i1 := ti49) rfl rfl rfl (by decide) rfl
theorem ap_42 {nm : Nat} {x y : Value} {h : Hp} : appendV Γ nm 42 42 x y h = apO 5 nm x h (apT 5 y h) := append_eq (i1 := ti49) rfl rfl (by decide) rfl (by decide) (by decide) rfl
attribute [go_sem] mk_42 bs_42 ap_42
@[go_sem] theorem nn_42 {a : Option Addr} {n c : Nat} : binV Γ E .neq 42 (.slice a n c) (.slice none 0 0) = some (.bool (!a.isNone)) := nr rfl
@[go_sem] theorem en_42 {a : Option Addr} {n c : Nat} : binV Γ E .eql 42 (.slice a n c) (.slice none 0 0) = some (.bool a.isNone) := nr rfl
@[go_sem] theorem ld_42 {n o : Nat} {h : Hp} : ldv Γ 42 (.pointer (some ⟨n, o, none⟩)) h = h.cell n o := nr rfl
@[go_sem] theorem sv_42 {n o : Nat} {x : Value} {h : Hp} : stv Γ 42 (.pointer (some ⟨n, o, none⟩)) x h = stC n o 1 x h := nr rfl
@[go_sem] theorem za_42 {nm : Nat} : (Γ 42).map (fun t => (Value.pointer (some ⟨nm, 0, none⟩), ({ cells := t.zero, rw := true } : Blk))) = some (.pointer (some ⟨nm, 0, none⟩), { cells := [Value.slice none 0 0], rw := true }) := nr rfl
@[go_sem] theorem ld_44 {n o : Nat} {h : Hp} : ldv Γ 44 (.pointer (some ⟨n, o, none⟩)) h = (h.cells n o 4).map fun cs => .agg cs.toArray := nr rfl
@[go_sem] theorem sv_44 {n o : Nat} {x : Value} {h : Hp} : stv Γ 44 (.pointer (some ⟨n, o, none⟩)) x h = stC n o 4 x h := nr rfl
@[go_sem] theorem za_44 {nm : Nat} : (Γ 44).map (fun t => (Value.pointer (some ⟨nm, 0, none⟩), ({ cells := t.zero, rw := true } : Blk))) = some (.pointer (some ⟨nm, 0, none⟩), { cells := [Value.int IntKind.i64 0, Value.int IntKind.i64 0, Value.int IntKind.i64 0, Value.int IntKind.i64 0], rw := true }) := nr rfl
@[go_sem] theorem ld_46 {n o : Nat} {h : Hp} : ldv Γ 46 (.pointer (some ⟨n, o, none⟩)) h = (h.cells n o 6).map fun cs => .agg cs.toArray := nr rfl
@[go_sem] theorem sv_46 {n o : Nat} {x : Value} {h : Hp} : stv Γ 46 (.pointer (some ⟨n, o, none⟩)) x h = stC n o 6 x h := nr rfl
@[go_sem] theorem za_46 {nm : Nat} : (Γ 46).map (fun t => (Value.pointer (some ⟨nm, 0, none⟩), ({ cells := t.zero, rw := true } : Blk))) = some (.pointer (some ⟨nm, 0, none⟩), { cells := [Value.slice none 0 0, Value.slice none 0 0, Value.int IntKind.i64 0, Value.int IntKind.i64 0, Value.int IntKind.i64 0, Value.int IntKind.i64 0], rw := true }) := nr rfl
@[go_sem] theorem ld_49 {n o : Nat} {h : Hp} : ldv Γ 49 (.pointer (some ⟨n, o, none⟩)) h = (h.cells n o 5).map fun cs => .agg cs.toArray := nr rfl
@[go_sem] theorem sv_49 {n o : Nat} {x : Value} {h : Hp} : stv Γ 49 (.pointer (some ⟨n, o, none⟩)) x h = stC n o 5 x h := nr rfl
@[go_sem] theorem za_49 {nm : Nat} : (Γ 49).map (fun t => (Value.pointer (some ⟨nm, 0, none⟩), ({ cells := t.zero, rw := true } : Blk))) = some (.pointer (some ⟨nm, 0, none⟩), { cells := [Value.int IntKind.i64 0, Value.int IntKind.i64 0, Value.int IntKind.i64 0, Value.int IntKind.i64 0, Value.int IntKind.i64 0], rw := true }) := nr rfl
@[go_sem] theorem es_57 : es Γ 57 = some 2 := nr rfl
@[go_sem] theorem st_57 : isStr Γ 57 = some false := nr rfl
theorem mk_57 {nm n : Nat} {kk k' : IntKind} (hn : n < 4294967296) : mkO Γ nm 57 (.int kk (n : Int)) (.int k' (n : Int)) = some (.slice (some ⟨nm, 0, none⟩) n (U 2), { cells := repZ [Value.int IntKind.i64 0, Value.slice none 0 0] n, rw := true }) := mkO_ok (i1 := ti99) rfl rfl (by decide) rfl (by decide) hn
theorem bs_57 {C : Rel} {D : DrawR} {Q : Ex → S → Prop} {k : List Fr} {s : S} {base i : Nat} {l : List POp} {d : Option Nat} {len : Nat} {parts : Array (Nat × Operand)} : OpG Γ E C D Q base i (⟨d, none, .buildSlice 57 len parts⟩ :: l) k s = OpK Γ E C D Q base (i + 1) l k s d (base + i) (bsO (base + i) 2 [Value.int IntKind.i64 0, Value.slice none 0 0] len (parts.toList.map fun p => (p.1, s.ev p.2))) := op_bs (i1 := ti99) rfl rfl rfl (by decide) rfl
theorem ap_57 {nm : Nat} {x y : Value} {h : Hp} : appendV Γ nm 57 57 x y h = apO 2 nm x h (apT 2 y h) := append_eq (i1 := ti99) rfl rfl (by decide) rfl (by decide) (by decide) rfl
attribute [go_sem] mk_57 bs_57 ap_57
@[go_sem] theorem nn_57 {a : Option Addr} {n c : Nat} : binV Γ E .neq 57 (.slice a n c) (.slice none 0 0) = some (.bool (!a.isNone)) := nr rfl
@[go_sem] theorem en_57 {a : Option Addr} {n c : Nat} : binV Γ E .eql 57 (.slice a n c) (.slice none 0 0) = some (.bool a.isNone) := nr rfl
@[go_sem] theorem ld_57 {n o : Nat} {h : Hp} : ldv Γ 57 (.pointer (some ⟨n, o, none⟩)) h = h.cell n o := nr rfl
@[go_sem] theorem sv_57 {n o : Nat} {x : Value} {h : Hp} : stv Γ 57 (.pointer (some ⟨n, o, none⟩)) x h = stC n o 1 x h := nr rfl
@[go_sem] theorem za_57 {nm : Nat} : (Γ 57).map (fun t => (Value.pointer (some ⟨nm, 0, none⟩), ({ cells := t.zero, rw := true } : Blk))) = some (.pointer (some ⟨nm, 0, none⟩), { cells := [Value.slice none 0 0], rw := true }) := nr rfl
@[go_sem] theorem es_58 : es Γ 58 = some 5 := nr rfl
@[go_sem] theorem st_58 : isStr Γ 58 = some false := nr rfl
theorem mk_58 {nm n : Nat} {kk k' : IntKind} (hn : n < 4294967296) : mkO Γ nm 58 (.int kk (n : Int)) (.int k' (n : Int)) = some (.slice (some ⟨nm, 0, none⟩) n (U 5), { cells := repZ [Value.int IntKind.i64 0, Value.int IntKind.i64 0, Value.int IntKind.i64 0, Value.int IntKind.i64 0, Value.int IntKind.i64 0] n, rw := true }) := mkO_ok (i1 := ti106) rfl rfl (by decide) rfl (by decide) hn
theorem bs_58 {C : Rel} {D : DrawR} {Q : Ex → S → Prop} {k : List Fr} {s : S} {base i : Nat} {l : List POp} {d : Option Nat} {len : Nat} {parts : Array (Nat × Operand)} : OpG Γ E C D Q base i (⟨d, none, .buildSlice 58 len parts⟩ :: l) k s = OpK Γ E C D Q base (i + 1) l k s d (base + i) (bsO (base + i) 5 [Value.int IntKind.i64 0, Value.int IntKind.i64 0, Value.int IntKind.i64 0, Value.int IntKind.i64 0, Value.int IntKind.i64 0] len (parts.toList.map fun p => (p.1, s.ev p.2))) := op_bs (i1 := ti106) rfl rfl rfl (by decide) rfl
theorem ap_58 {nm : Nat} {x y : Value} {h : Hp} : appendV Γ nm 58 58 x y h = apO 5 nm x h (apT 5 y h) := append_eq (i1 := ti106) rfl rfl (by decide) rfl (by decide) (by decide) rfl
attribute [go_sem] mk_58 bs_58 ap_58
@[go_sem] theorem nn_58 {a : Option Addr} {n c : Nat} : binV Γ E .neq 58 (.slice a n c) (.slice none 0 0) = some (.bool (!a.isNone)) := nr rfl
@[go_sem] theorem en_58 {a : Option Addr} {n c : Nat} : binV Γ E .eql 58 (.slice a n c) (.slice none 0 0) = some (.bool a.isNone) := nr rfl
@[go_sem] theorem ld_58 {n o : Nat} {h : Hp} : ldv Γ 58 (.pointer (some ⟨n, o, none⟩)) h = h.cell n o := nr rfl
@[go_sem] theorem sv_58 {n o : Nat} {x : Value} {h : Hp} : stv Γ 58 (.pointer (some ⟨n, o, none⟩)) x h = stC n o 1 x h := nr rfl
@[go_sem] theorem za_58 {nm : Nat} : (Γ 58).map (fun t => (Value.pointer (some ⟨nm, 0, none⟩), ({ cells := t.zero, rw := true } : Blk))) = some (.pointer (some ⟨nm, 0, none⟩), { cells := [Value.slice none 0 0], rw := true }) := nr rfl
@[go_sem] theorem ld_59 {n o : Nat} {h : Hp} : ldv Γ 59 (.pointer (some ⟨n, o, none⟩)) h = (h.cells n o 4).map fun cs => .agg cs.toArray := nr rfl
@[go_sem] theorem sv_59 {n o : Nat} {x : Value} {h : Hp} : stv Γ 59 (.pointer (some ⟨n, o, none⟩)) x h = stC n o 4 x h := nr rfl
@[go_sem] theorem za_59 {nm : Nat} : (Γ 59).map (fun t => (Value.pointer (some ⟨nm, 0, none⟩), ({ cells := t.zero, rw := true } : Blk))) = some (.pointer (some ⟨nm, 0, none⟩), { cells := [Value.int IntKind.i64 0, Value.int IntKind.i64 0, Value.int IntKind.i64 0, Value.int IntKind.i64 0], rw := true }) := nr rfl
@[go_sem] theorem ld_61 {n o : Nat} {h : Hp} : ldv Γ 61 (.pointer (some ⟨n, o, none⟩)) h = (h.cells n o 6).map fun cs => .agg cs.toArray := nr rfl
@[go_sem] theorem sv_61 {n o : Nat} {x : Value} {h : Hp} : stv Γ 61 (.pointer (some ⟨n, o, none⟩)) x h = stC n o 6 x h := nr rfl
@[go_sem] theorem za_61 {nm : Nat} : (Γ 61).map (fun t => (Value.pointer (some ⟨nm, 0, none⟩), ({ cells := t.zero, rw := true } : Blk))) = some (.pointer (some ⟨nm, 0, none⟩), { cells := [Value.slice none 0 0, Value.slice none 0 0, Value.int IntKind.i64 0, Value.int IntKind.i64 0, Value.int IntKind.i64 0, Value.int IntKind.i64 0], rw := true }) := nr rfl
@[go_sem] theorem ld_63 {n o : Nat} {h : Hp} : ldv Γ 63 (.pointer (some ⟨n, o, none⟩)) h = h.cell n o := nr rfl
@[go_sem] theorem sv_63 {n o : Nat} {x : Value} {h : Hp} : stv Γ 63 (.pointer (some ⟨n, o, none⟩)) x h = stC n o 1 x h := nr rfl
@[go_sem] theorem za_63 {nm : Nat} : (Γ 63).map (fun t => (Value.pointer (some ⟨nm, 0, none⟩), ({ cells := t.zero, rw := true } : Blk))) = some (.pointer (some ⟨nm, 0, none⟩), { cells := [Value.nilFunc], rw := true }) := nr rfl
@[go_sem] theorem es_66 : es Γ 66 = some 1 := nr rfl
@[go_sem] theorem st_66 : isStr Γ 66 = some false := nr rfl
theorem mk_66 {nm n : Nat} {kk k' : IntKind} (hn : n < 4294967296) : mkO Γ nm 66 (.int kk (n : Int)) (.int k' (n : Int)) = some (.slice (some ⟨nm, 0, none⟩) n (U 1), { cells := repZ [Value.slice none 0 0] n, rw := true }) := mkO_ok (i1 := ti68) rfl rfl (by decide) rfl (by decide) hn
theorem bs_66 {C : Rel} {D : DrawR} {Q : Ex → S → Prop} {k : List Fr} {s : S} {base i : Nat} {l : List POp} {d : Option Nat} {len : Nat} {parts : Array (Nat × Operand)} : OpG Γ E C D Q base i (⟨d, none, .buildSlice 66 len parts⟩ :: l) k s = OpK Γ E C D Q base (i + 1) l k s d (base + i) (bsO (base + i) 1 [Value.slice none 0 0] len (parts.toList.map fun p => (p.1, s.ev p.2))) := op_bs (i1 := ti68) rfl rfl rfl (by decide) rfl
theorem ap_66 {nm : Nat} {x y : Value} {h : Hp} : appendV Γ nm 66 66 x y h = apO 1 nm x h (apT 1 y h) := append_eq (i1 := ti68) rfl rfl (by decide) rfl (by decide) (by decide) rfl
attribute [go_sem] mk_66 bs_66 ap_66
@[go_sem] theorem nn_66 {a : Option Addr} {n c : Nat} : binV Γ E .neq 66 (.slice a n c) (.slice none 0 0) = some (.bool (!a.isNone)) := nr rfl
@[go_sem] theorem en_66 {a : Option Addr} {n c : Nat} : binV Γ E .eql 66 (.slice a n c) (.slice none 0 0) = some (.bool a.isNone) := nr rfl
@[go_sem] theorem ld_66 {n o : Nat} {h : Hp} : ldv Γ 66 (.pointer (some ⟨n, o, none⟩)) h = h.cell n o := nr rfl
@[go_sem] theorem sv_66 {n o : Nat} {x : Value} {h : Hp} : stv Γ 66 (.pointer (some ⟨n, o, none⟩)) x h = stC n o 1 x h := nr rfl
@[go_sem] theorem za_66 {nm : Nat} : (Γ 66).map (fun t => (Value.pointer (some ⟨nm, 0, none⟩), ({ cells := t.zero, rw := true } : Blk))) = some (.pointer (some ⟨nm, 0, none⟩), { cells := [Value.slice none 0 0], rw := true }) := nr rfl
@[go_sem] theorem es_68 : es Γ 68 = some 1 := nr rfl
@[go_sem] theorem st_68 : isStr Γ 68 = some false := nr rfl
theorem mk_68 {nm n : Nat} {kk k' : IntKind} (hn : n < 4294967296) : mkO Γ nm 68 (.int kk (n : Int)) (.int k' (n : Int)) = some (.slice (some ⟨nm, 0, none⟩) n (U 1), { cells := repZ [Value.bool false] n, rw := true }) := mkO_ok (i1 := ti4) rfl rfl (by decide) rfl (by decide) hn
theorem bs_68 {C : Rel} {D : DrawR} {Q : Ex → S → Prop} {k : List Fr} {s : S} {base i : Nat} {l : List POp} {d : Option Nat} {len : Nat} {parts : Array (Nat × Operand)} : OpG Γ E C D Q base i (⟨d, none, .buildSlice 68 len parts⟩ :: l) k s = OpK Γ E C D Q base (i + 1) l k s d (base + i) (bsO (base + i) 1 [Value.bool false] len (parts.toList.map fun p => (p.1, s.ev p.2))) := op_bs (i1 := ti4) rfl rfl rfl (by decide) rfl
theorem ap_68 {nm : Nat} {x y : Value} {h : Hp} : appendV Γ nm 68 68 x y h = apO 1 nm x h (apT 1 y h) := append_eq (i1 := ti4) rfl rfl (by decide) rfl (by decide) (by decide) rfl
attribute [go_sem] mk_68 bs_68 ap_68
@[go_sem] theorem nn_68 {a : Option Addr} {n c : Nat} : binV Γ E .neq 68 (.slice a n c) (.slice none 0 0) = some (.bool (!a.isNone)) := nr rfl
@[go_sem] theorem en_68 {a : Option Addr} {n c : Nat} : binV Γ E .eql 68 (.slice a n c) (.slice none 0 0) = some (.bool a.isNone) := nr rfl
@[go_sem] theorem ld_68 {n o : Nat} {h : Hp} : ldv Γ 68 (.pointer (some ⟨n, o, none⟩)) h = h.cell n o := nr rfl
@[go_sem] theorem sv_68 {n o : Nat} {x : Value} {h : Hp} : stv Γ 68 (.pointer (some ⟨n, o, none⟩)) x h = stC n o 1 x h := nr rfl
@[go_sem] theorem za_68 {nm : Nat} : (Γ 68).map (fun t => (Value.pointer (some ⟨nm, 0, none⟩), ({ cells := t.zero, rw := true } : Blk))) = some (.pointer (some ⟨nm, 0, none⟩), { cells := [Value.slice none 0 0], rw := true }) := nr rfl
@[go_sem] theorem ld_81 {n o : Nat} {h : Hp} : ldv Γ 81 (.pointer (some ⟨n, o, none⟩)) h = h.cell n o := nr rfl
@[go_sem] theorem sv_81 {n o : Nat} {x : Value} {h : Hp} : stv Γ 81 (.pointer (some ⟨n, o, none⟩)) x h = stC n o 1 x h := nr rfl
@[go_sem] theorem za_81 {nm : Nat} : (Γ 81).map (fun t => (Value.pointer (some ⟨nm, 0, none⟩), ({ cells := t.zero, rw := true } : Blk))) = some (.pointer (some ⟨nm, 0, none⟩), { cells := [Value.nilFunc], rw := true }) := nr rfl
@[go_sem] theorem es_88 : es Γ 88 = some 1 := nr rfl
@[go_sem] theorem st_88 : isStr Γ 88 = some false := nr rfl
theorem mk_88 {nm n : Nat} {kk k' : IntKind} (hn : n < 4294967296) : mkO Γ nm 88 (.int kk (n : Int)) (.int k' (n : Int)) = some (.slice (some ⟨nm, 0, none⟩) n (U 1), { cells := repZ [Value.int IntKind.u8 0] n, rw := true }) := mkO_ok (i1 := ti5) rfl rfl (by decide) rfl (by decide) hn
theorem bs_88 {C : Rel} {D : DrawR} {Q : Ex → S → Prop} {k : List Fr} {s : S} {base i : Nat} {l : List POp} {d : Option Nat} {len : Nat} {parts : Array (Nat × Operand)} : OpG Γ E C D Q base i (⟨d, none, .buildSlice 88 len parts⟩ :: l) k s = OpK Γ E C D Q base (i + 1) l k s d (base + i) (bsO (base + i) 1 [Value.int IntKind.u8 0] len (parts.toList.map fun p => (p.1, s.ev p.2))) := op_bs (i1 := ti5) rfl rfl rfl (by decide) rfl
theorem ap_88 {nm : Nat} {x y : Value} {h : Hp} : appendV Γ nm 88 88 x y h = apO 1 nm x h (apT 1 y h) := append_eq (i1 := ti5) rfl rfl (by decide) rfl (by decide) (by decide) rfl
attribute [go_sem] mk_88 bs_88 ap_88
@[go_sem] theorem nn_88 {a : Option Addr} {n c : Nat} : binV Γ E .neq 88 (.slice a n c) (.slice none 0 0) = some (.bool (!a.isNone)) := nr rfl
@[go_sem] theorem en_88 {a : Option Addr} {n c : Nat} : binV Γ E .eql 88 (.slice a n c) (.slice none 0 0) = some (.bool a.isNone) := nr rfl
@[go_sem] theorem ld_88 {n o : Nat} {h : Hp} : ldv Γ 88 (.pointer (some ⟨n, o, none⟩)) h = h.cell n o := nr rfl
@[go_sem] theorem sv_88 {n o : Nat} {x : Value} {h : Hp} : stv Γ 88 (.pointer (some ⟨n, o, none⟩)) x h = stC n o 1 x h := nr rfl
@[go_sem] theorem za_88 {nm : Nat} : (Γ 88).map (fun t => (Value.pointer (some ⟨nm, 0, none⟩), ({ cells := t.zero, rw := true } : Blk))) = some (.pointer (some ⟨nm, 0, none⟩), { cells := [Value.slice none 0 0], rw := true }) := nr rfl
@[go_sem] theorem es_92 : es Γ 92 = some 2 := nr rfl
@[go_sem] theorem st_92 : isStr Γ 92 = some false := nr rfl
theorem mk_92 {nm n : Nat} {kk k' : IntKind} (hn : n < 4294967296) : mkO Γ nm 92 (.int kk (n : Int)) (.int k' (n : Int)) = some (.slice (some ⟨nm, 0, none⟩) n (U 2), { cells := repZ [Value.int IntKind.i64 0, Value.int IntKind.i64 0] n, rw := true }) := mkO_ok (i1 := ti120) rfl rfl (by decide) rfl (by decide) hn
theorem bs_92 {C : Rel} {D : DrawR} {Q : Ex → S → Prop} {k : List Fr} {s : S} {base i : Nat} {l : List POp} {d : Option Nat} {len : Nat} {parts : Array (Nat × Operand)} : OpG Γ E C D Q base i (⟨d, none, .buildSlice 92 len parts⟩ :: l) k s = OpK Γ E C D Q base (i + 1) l k s d (base + i) (bsO (base + i) 2 [Value.int IntKind.i64 0, Value.int IntKind.i64 0] len (parts.toList.map fun p => (p.1, s.ev p.2))) := op_bs (i1 := ti120) rfl rfl rfl (by decide) rfl
theorem ap_92 {nm : Nat} {x y : Value} {h : Hp} : appendV Γ nm 92 92 x y h = apO 2 nm x h (apT 2 y h) := append_eq (i1 := ti120) rfl rfl (by decide) rfl (by decide) (by decide) rfl
attribute [go_sem] mk_92 bs_92 ap_92
@[go_sem] theorem nn_92 {a : Option Addr} {n c : Nat} : binV Γ E .neq 92 (.slice a n c) (.slice none 0 0) = some (.bool (!a.isNone)) := nr rfl
@[go_sem] theorem en_92 {a : Option Addr} {n c : Nat} : binV Γ E .eql 92 (.slice a n c) (.slice none 0 0) = some (.bool a.isNone) := nr rfl
@[go_sem] theorem ld_92 {n o : Nat} {h : Hp} : ldv Γ 92 (.pointer (some ⟨n, o, none⟩)) h = h.cell n o := nr rfl
@[go_sem] theorem sv_92 {n o : Nat} {x : Value} {h : Hp} : stv Γ 92 (.pointer (some ⟨n, o, none⟩)) x h = stC n o 1 x h := nr rfl
@[go_sem] theorem za_92 {nm : Nat} : (Γ 92).map (fun t => (Value.pointer (some ⟨nm, 0, none⟩), ({ cells := t.zero, rw := true } : Blk))) = some (.pointer (some ⟨nm, 0, none⟩), { cells := [Value.slice none 0 0], rw := true }) := nr rfl
@[go_sem] theorem ld_94 {n o : Nat} {h : Hp} : ldv Γ 94 (.pointer (some ⟨n, o, none⟩)) h = (h.cells n o 2).map fun cs => .agg cs.toArray := nr rfl
@[go_sem] theorem sv_94 {n o : Nat} {x : Value} {h : Hp} : stv Γ 94 (.pointer (some ⟨n, o, none⟩)) x h = stC n o 2 x h := nr rfl
@[go_sem] theorem za_94 {nm : Nat} : (Γ 94).map (fun t => (Value.pointer (some ⟨nm, 0, none⟩), ({ cells := t.zero, rw := true } : Blk))) = some (.pointer (some ⟨nm, 0, none⟩), { cells := [Value.int IntKind.i64 0, Value.slice none 0 0], rw := true }) := nr rfl
@[go_sem] theorem es_97 : es Γ 97 = some 2 := nr rfl
@[go_sem] theorem st_97 : isStr Γ 97 = some false := nr rfl
theorem mk_97 {nm n : Nat} {kk k' : IntKind} (hn : n < 4294967296) : mkO Γ nm 97 (.int kk (n : Int)) (.int k' (n : Int)) = some (.slice (some ⟨nm, 0, none⟩) n (U 2), { cells := repZ [Value.int IntKind.i64 0, Value.int IntKind.i64 0] n, rw := true }) := mkO_ok (i1 := ti132) rfl rfl (by decide) rfl (by decide) hn
theorem bs_97 {C : Rel} {D : DrawR} {Q : Ex → S → Prop} {k : List Fr} {s : S} {base i : Nat} {l : List POp} {d : Option Nat} {len : Nat} {parts : Array (Nat × Operand)} : OpG Γ E C D Q base i (⟨d, none, .buildSlice 97 len parts⟩ :: l) k s = OpK Γ E C D Q base (i + 1) l k s d (base + i) (bsO (base + i) 2 [Value.int IntKind.i64 0, Value.int IntKind.i64 0] len (parts.toList.map fun p => (p.1, s.ev p.2))) := op_bs (i1 := ti132) rfl rfl rfl (by decide) rfl
theorem ap_97 {nm : Nat} {x y : Value} {h : Hp} : appendV Γ nm 97 97 x y h = apO 2 nm x h (apT 2 y h) := append_eq (i1 := ti132) rfl rfl (by decide) rfl (by decide) (by decide) rfl
attribute [go_sem] mk_97 bs_97 ap_97
@[go_sem] theorem nn_97 {a : Option Addr} {n c : Nat} : binV Γ E .neq 97 (.slice a n c) (.slice none 0 0) = some (.bool (!a.isNone)) := nr rfl
@[go_sem] theorem en_97 {a : Option Addr} {n c : Nat} : binV Γ E .eql 97 (.slice a n c) (.slice none 0 0) = some (.bool a.isNone) := nr rfl
@[go_sem] theorem ld_97 {n o : Nat} {h : Hp} : ldv Γ 97 (.pointer (some ⟨n, o, none⟩)) h = h.cell n o := nr rfl
@[go_sem] theorem sv_97 {n o : Nat} {x : Value} {h : Hp} : stv Γ 97 (.pointer (some ⟨n, o, none⟩)) x h = stC n o 1 x h := nr rfl
@[go_sem] theorem za_97 {nm : Nat} : (Γ 97).map (fun t => (Value.pointer (some ⟨nm, 0, none⟩), ({ cells := t.zero, rw := true } : Blk))) = some (.pointer (some ⟨nm, 0, none⟩), { cells := [Value.slice none 0 0], rw := true }) := nr rfl
@[go_sem] theorem ld_99 {n o : Nat} {h : Hp} : ldv Γ 99 (.pointer (some ⟨n, o, none⟩)) h = (h.cells n o 2).map fun cs => .agg cs.toArray := nr rfl
@[go_sem] theorem sv_99 {n o : Nat} {x : Value} {h : Hp} : stv Γ 99 (.pointer (some ⟨n, o, none⟩)) x h = stC n o 2 x h := nr rfl
@[go_sem] theorem za_99 {nm : Nat} : (Γ 99).map (fun t => (Value.pointer (some ⟨nm, 0, none⟩), ({ cells := t.zero, rw := true } : Blk))) = some (.pointer (some ⟨nm, 0, none⟩), { cells := [Value.int IntKind.i64 0, Value.slice none 0 0], rw := true }) := nr rfl
@[go_sem] theorem ld_106 {n o : Nat} {h : Hp} : ldv Γ 106 (.pointer (some ⟨n, o, none⟩)) h = (h.cells n o 5).map fun cs => .agg cs.toArray := nr rfl
@[go_sem] theorem sv_106 {n o : Nat} {x : Value} {h : Hp} : stv Γ 106 (.pointer (some ⟨n, o, none⟩)) x h = stC n o 5 x h := nr rfl
@[go_sem] theorem za_106 {nm : Nat} : (Γ 106).map (fun t => (Value.pointer (some ⟨nm, 0, none⟩), ({ cells := t.zero, rw := true } : Blk))) = some (.pointer (some ⟨nm, 0, none⟩), { cells := [Value.int IntKind.i64 0, Value.int IntKind.i64 0, Value.int IntKind.i64 0, Value.int IntKind.i64 0, Value.int IntKind.i64 0], rw := true }) := nr rfl
@[go_sem] theorem ld_108 {n o : Nat} {h : Hp} : ldv Γ 108 (.pointer (some ⟨n, o, none⟩)) h = h.cell n o := nr rfl
@[go_sem] theorem sv_108 {n o : Nat} {x : Value} {h : Hp} : stv Γ 108 (.pointer (some ⟨n, o, none⟩)) x h = stC n o 1 x h := nr rfl
@[go_sem] theorem za_108 {nm : Nat} : (Γ 108).map (fun t => (Value.pointer (some ⟨nm, 0, none⟩), ({ cells := t.zero, rw := true } : Blk))) = some (.pointer (some ⟨nm, 0, none⟩), { cells := [Value.nilFunc], rw := true }) := nr rfl
@[go_sem] theorem ld_110 {n o : Nat} {h : Hp} : ldv Γ 110 (.pointer (some ⟨n, o, none⟩)) h = h.cell n o := nr rfl
@[go_sem] theorem sv_110 {n o : Nat} {x : Value} {h : Hp} : stv Γ 110 (.pointer (some ⟨n, o, none⟩)) x h = stC n o 1 x h := nr rfl
@[go_sem] theorem za_110 {nm : Nat} : (Γ 110).map (fun t => (Value.pointer (some ⟨nm, 0, none⟩), ({ cells := t.zero, rw := true } : Blk))) = some (.pointer (some ⟨nm, 0, none⟩), { cells := [Value.nilFunc], rw := true }) := nr rfl
@[go_sem] theorem ld_120 {n o : Nat} {h : Hp} : ldv Γ 120 (.pointer (some ⟨n, o, none⟩)) h = (h.cells n o 2).map fun cs => .agg cs.toArray := nr rfl
@[go_sem] theorem sv_120 {n o : Nat} {x : Value} {h : Hp} : stv Γ 120 (.pointer (some ⟨n, o, none⟩)) x h = stC n o 2 x h := nr rfl
@[go_sem] theorem za_120 {nm : Nat} : (Γ 120).map (fun t => (Value.pointer (some ⟨nm, 0, none⟩), ({ cells := t.zero, rw := true } : Blk))) = some (.pointer (some ⟨nm, 0, none⟩), { cells := [Value.int IntKind.i64 0, Value.int IntKind.i64 0], rw := true }) := nr rfl
@[go_sem] theorem ld_128 {n o : Nat} {h : Hp} : ldv Γ 128 (.pointer (some ⟨n, o, none⟩)) h = h.cell n o := nr rfl
@[go_sem] theorem sv_128 {n o : Nat} {x : Value} {h : Hp} : stv Γ 128 (.pointer (some ⟨n, o, none⟩)) x h = stC n o 1 x h := nr rfl
@[go_sem] theorem za_128 {nm : Nat} : (Γ 128).map (fun t => (Value.pointer (some ⟨nm, 0, none⟩), ({ cells := t.zero, rw := true } : Blk))) = some (.pointer (some ⟨nm, 0, none⟩), { cells := [Value.nilFunc], rw := true }) := nr rfl
@[go_sem] theorem ld_132 {n o : Nat} {h : Hp} : ldv Γ 132 (.pointer (some ⟨n, o, none⟩)) h = (h.cells n o 2).map fun cs => .agg cs.toArray := nr rfl
@[go_sem] theorem sv_132 {n o : Nat} {x : Value} {h : Hp} : stv Γ 132 (.pointer (some ⟨n, o, none⟩)) x h = stC n o 2 x h := nr rfl
@[go_sem] theorem za_132 {nm : Nat} : (Γ 132).map (fun t => (Value.pointer (some ⟨nm, 0, none⟩), ({ cells := t.zero, rw := true } : Blk))) = some (.pointer (some ⟨nm, 0, none⟩), { cells := [Value.int IntKind.i64 0, Value.int IntKind.i64 0], rw := true }) := nr rfl
@[go_sem] theorem cv_9_88 {C : Rel} {D : DrawR} {Q : Ex → S → Prop} {k : List Fr} {s : S} {base i : Nat} {l : List POp} {d : Option Nat} {x : Operand} : OpG Γ E C D Q base i (⟨d, none, .convert 9 88 x⟩ :: l) k s = OpK Γ E C D Q base (i + 1) l k s d (base + i) (cvB (base + i) (s.ev x)) := op_cvB rfl rfl rfl
def F_laws_FnExactRenamed : FuncId := 3
def F_laws_szFn : FuncId := 4
def F_spec_Renamed : FuncId := 5
def F_laws_toFn : FuncId := 6
def F_laws_toIntS : FuncId := 7
def F_impl_Renamed : FuncId := 8
def F_laws_eqFn : FuncId := 9
def F_laws_eqIntS : FuncId := 10
def F_laws_markFn : FuncId := 11
def F_laws_markIntS : FuncId := 12
def F_laws_heldFn : FuncId := 13
def F_laws_szBlockS : FuncId := 14
def F_spec_HomesOk : FuncId := 15
def F_spec_TermUses : FuncId := 16
def F_spec_InsUses : FuncId := 17
def F_spec_InsDef : FuncId := 18
def F_laws_toBlockS : FuncId := 19
def F_impl_HomesOk : FuncId := 20
def F_impl_renamedIns : FuncId := 21
def F_impl_TermUses : FuncId := 22
def F_laws_eqBlockS : FuncId := 23
def F_laws_markBlockS : FuncId := 24
def F_laws_heldBlockS : FuncId := 25
def F_laws_szBlock : FuncId := 26
def F_spec_PlainOk : FuncId := 27
def F_spec_l13Homes : FuncId := 28
def F_spec_WordOk : FuncId := 29
def F_spec_l2Makes : FuncId := 30
def F_laws_toBlock : FuncId := 31
def F_impl_PlainOk : FuncId := 32
def F_slices_ContainsFunc_int : FuncId := 33
def F_impl_HomesOk_1 : FuncId := 34
def F_impl_isHome : FuncId := 35
def F_impl_Clashes : FuncId := 36
def F_impl_listed : FuncId := 37
def F_impl_has : FuncId := 38
def F_laws_eqBlock : FuncId := 39
def F_laws_markPhiS : FuncId := 40
def F_laws_markInsS : FuncId := 41
def F_laws_heldPhiS : FuncId := 42
def F_laws_heldInsS : FuncId := 43
def F_laws_szPhiS : FuncId := 44
def F_laws_szInsS : FuncId := 45
def F_spec_ShapeOk : FuncId := 46
def F_spec_l12Clashes : FuncId := 47
def F_spec_l1In : FuncId := 48
def F_laws_toPhiS : FuncId := 49
def F_laws_toInsS : FuncId := 50
def F_laws_toTerm : FuncId := 51
def F_impl_ShapeOk : FuncId := 52
def F_slices_ContainsFunc_impl_Block : FuncId := 53
def F_impl_PlainOk_1 : FuncId := 54
def F_slices_IndexFunc_int : FuncId := 55
def F_impl_in : FuncId := 56
def F_impl_liveIns : FuncId := 57
def F_impl_atEnd : FuncId := 58
def F_impl_InsDef : FuncId := 59
def F_impl_back : FuncId := 60
def F_impl_formOf : FuncId := 61
def F_slices_Contains_byte : FuncId := 62
def F_laws_eqPhiS : FuncId := 63
def F_laws_eqInsS : FuncId := 64
def F_laws_eqTerm : FuncId := 65
def F_laws_markArmS : FuncId := 66
def F_laws_heldArmS : FuncId := 67
def F_laws_szPhi : FuncId := 68
def F_spec_l2Term : FuncId := 69
def F_spec_l2Phi : FuncId := 70
def F_spec_l2Ins : FuncId := 71
def F_spec_l11In : FuncId := 72
def F_spec_l11Before : FuncId := 73
def F_laws_toPhi : FuncId := 74
def F_laws_toIns : FuncId := 75
def F_impl_ShapeOk_1 : FuncId := 76
def F_impl_termOk : FuncId := 77
def F_slices_ContainsFunc_impl_Phi : FuncId := 78
def F_impl_ShapeOk_1_1 : FuncId := 79
def F_impl_phiOk : FuncId := 80
def F_slices_ContainsFunc_impl_Ins : FuncId := 81
def F_impl_ShapeOk_1_2 : FuncId := 82
def F_impl_insOk : FuncId := 83
def F_slices_IndexFunc_impl_Block : FuncId := 84
def F_slices_Equal_bool : FuncId := 85
def F_impl_succs : FuncId := 86
def F_slices_Clone_bool : FuncId := 87
def F_impl_without : FuncId := 88
def F_impl_WordOk : FuncId := 89
def F_slices_Index_byte : FuncId := 90
def F_laws_eqPhi : FuncId := 91
def F_laws_eqIns : FuncId := 92
def F_laws_szArmS : FuncId := 93
def F_spec_l2Value : FuncId := 94
def F_spec_l11End : FuncId := 95
def F_spec_l11Back : FuncId := 96
def F_laws_toArmS : FuncId := 97
def F_impl_partOk : FuncId := 98
def F_slices_IndexFunc_impl_Phi : FuncId := 99
def F_slices_ContainsFunc_impl_Arm : FuncId := 100
def F_impl_phiOk_1 : FuncId := 101
def F_slices_IndexFunc_impl_Ins : FuncId := 102
def F_impl_InsUses : FuncId := 103
def F_laws_eqArmS : FuncId := 104
def F_spec_l11Out : FuncId := 105
def F_laws_toArm : FuncId := 106
def F_slices_IndexFunc_impl_Arm : FuncId := 107
def F_laws_eqArm : FuncId := 108
def F_spec_l3Succs : FuncId := 109
noncomputable def F : FuncId → Option Func
 | 3 => some Tryz.f3
 | 4 => some Tryz.f4
 | 5 => some Tryz.f5
 | 6 => some Tryz.f6
 | 7 => some Tryz.f7
 | 8 => some Tryz.f8
 | 9 => some Tryz.f9
 | 10 => some Tryz.f10
 | 11 => some Tryz.f11
 | 12 => some Tryz.f12
 | 13 => some Tryz.f13
 | 14 => some Tryz.f14
 | 15 => some Tryz.f15
 | 16 => some Tryz.f16
 | 17 => some Tryz.f17
 | 18 => some Tryz.f18
 | 19 => some Tryz.f19
 | 20 => some Tryz.f20
 | 21 => some Tryz.f21
 | 22 => some Tryz.f22
 | 23 => some Tryz.f23
 | 24 => some Tryz.f24
 | 25 => some Tryz.f25
 | 26 => some Tryz.f26
 | 27 => some Tryz.f27
 | 28 => some Tryz.f28
 | 29 => some Tryz.f29
 | 30 => some Tryz.f30
 | 31 => some Tryz.f31
 | 32 => some Tryz.f32
 | 33 => some Tryz.f33
 | 34 => some Tryz.f34
 | 35 => some Tryz.f35
 | 36 => some Tryz.f36
 | 37 => some Tryz.f37
 | 38 => some Tryz.f38
 | 39 => some Tryz.f39
 | 40 => some Tryz.f40
 | 41 => some Tryz.f41
 | 42 => some Tryz.f42
 | 43 => some Tryz.f43
 | 44 => some Tryz.f44
 | 45 => some Tryz.f45
 | 46 => some Tryz.f46
 | 47 => some Tryz.f47
 | 48 => some Tryz.f48
 | 49 => some Tryz.f49
 | 50 => some Tryz.f50
 | 51 => some Tryz.f51
 | 52 => some Tryz.f52
 | 53 => some Tryz.f53
 | 54 => some Tryz.f54
 | 55 => some Tryz.f55
 | 56 => some Tryz.f56
 | 57 => some Tryz.f57
 | 58 => some Tryz.f58
 | 59 => some Tryz.f59
 | 60 => some Tryz.f60
 | 61 => some Tryz.f61
 | 62 => some Tryz.f62
 | 63 => some Tryz.f63
 | 64 => some Tryz.f64
 | 65 => some Tryz.f65
 | 66 => some Tryz.f66
 | 67 => some Tryz.f67
 | 68 => some Tryz.f68
 | 69 => some Tryz.f69
 | 70 => some Tryz.f70
 | 71 => some Tryz.f71
 | 72 => some Tryz.f72
 | 73 => some Tryz.f73
 | 74 => some Tryz.f74
 | 75 => some Tryz.f75
 | 76 => some Tryz.f76
 | 77 => some Tryz.f77
 | 78 => some Tryz.f78
 | 79 => some Tryz.f79
 | 80 => some Tryz.f80
 | 81 => some Tryz.f81
 | 82 => some Tryz.f82
 | 83 => some Tryz.f83
 | 84 => some Tryz.f84
 | 85 => some Tryz.f85
 | 86 => some Tryz.f86
 | 87 => some Tryz.f87
 | 88 => some Tryz.f88
 | 89 => some Tryz.f89
 | 90 => some Tryz.f90
 | 91 => some Tryz.f91
 | 92 => some Tryz.f92
 | 93 => some Tryz.f93
 | 94 => some Tryz.f94
 | 95 => some Tryz.f95
 | 96 => some Tryz.f96
 | 97 => some Tryz.f97
 | 98 => some Tryz.f98
 | 99 => some Tryz.f99
 | 100 => some Tryz.f100
 | 101 => some Tryz.f101
 | 102 => some Tryz.f102
 | 103 => some Tryz.f103
 | 104 => some Tryz.f104
 | 105 => some Tryz.f105
 | 106 => some Tryz.f106
 | 107 => some Tryz.f107
 | 108 => some Tryz.f108
 | 109 => some Tryz.f109
 | _ => none
theorem fok : FOk Tryz.prog F := by
 intro f fn h
 unfold F at h
 split at h
 ·injection h with h; subst h; exact ⟨Tryz.func3, by kernel_rfl, _, rfl, by kernel_rfl, by kernel_rfl⟩
 ·injection h with h; subst h; exact ⟨Tryz.func4, by kernel_rfl, _, rfl, by kernel_rfl, by kernel_rfl⟩
 ·injection h with h; subst h; exact ⟨Tryz.func5, by kernel_rfl, _, rfl, by kernel_rfl, by kernel_rfl⟩
 ·injection h with h; subst h; exact ⟨Tryz.func6, by kernel_rfl, _, rfl, by kernel_rfl, by kernel_rfl⟩
 ·injection h with h; subst h; exact ⟨Tryz.func7, by kernel_rfl, _, rfl, by kernel_rfl, by kernel_rfl⟩
 ·injection h with h; subst h; exact ⟨Tryz.func8, by kernel_rfl, _, rfl, by kernel_rfl, by kernel_rfl⟩
 ·injection h with h; subst h; exact ⟨Tryz.func9, by kernel_rfl, _, rfl, by kernel_rfl, by kernel_rfl⟩
 ·injection h with h; subst h; exact ⟨Tryz.func10, by kernel_rfl, _, rfl, by kernel_rfl, by kernel_rfl⟩
 ·injection h with h; subst h; exact ⟨Tryz.func11, by kernel_rfl, _, rfl, by kernel_rfl, by kernel_rfl⟩
 ·injection h with h; subst h; exact ⟨Tryz.func12, by kernel_rfl, _, rfl, by kernel_rfl, by kernel_rfl⟩
 ·injection h with h; subst h; exact ⟨Tryz.func13, by kernel_rfl, _, rfl, by kernel_rfl, by kernel_rfl⟩
 ·injection h with h; subst h; exact ⟨Tryz.func14, by kernel_rfl, _, rfl, by kernel_rfl, by kernel_rfl⟩
 ·injection h with h; subst h; exact ⟨Tryz.func15, by kernel_rfl, _, rfl, by kernel_rfl, by kernel_rfl⟩
 ·injection h with h; subst h; exact ⟨Tryz.func16, by kernel_rfl, _, rfl, by kernel_rfl, by kernel_rfl⟩
 ·injection h with h; subst h; exact ⟨Tryz.func17, by kernel_rfl, _, rfl, by kernel_rfl, by kernel_rfl⟩
 ·injection h with h; subst h; exact ⟨Tryz.func18, by kernel_rfl, _, rfl, by kernel_rfl, by kernel_rfl⟩
 ·injection h with h; subst h; exact ⟨Tryz.func19, by kernel_rfl, _, rfl, by kernel_rfl, by kernel_rfl⟩
 ·injection h with h; subst h; exact ⟨Tryz.func20, by kernel_rfl, _, rfl, by kernel_rfl, by kernel_rfl⟩
 ·injection h with h; subst h; exact ⟨Tryz.func21, by kernel_rfl, _, rfl, by kernel_rfl, by kernel_rfl⟩
 ·injection h with h; subst h; exact ⟨Tryz.func22, by kernel_rfl, _, rfl, by kernel_rfl, by kernel_rfl⟩
 ·injection h with h; subst h; exact ⟨Tryz.func23, by kernel_rfl, _, rfl, by kernel_rfl, by kernel_rfl⟩
 ·injection h with h; subst h; exact ⟨Tryz.func24, by kernel_rfl, _, rfl, by kernel_rfl, by kernel_rfl⟩
 ·injection h with h; subst h; exact ⟨Tryz.func25, by kernel_rfl, _, rfl, by kernel_rfl, by kernel_rfl⟩
 ·injection h with h; subst h; exact ⟨Tryz.func26, by kernel_rfl, _, rfl, by kernel_rfl, by kernel_rfl⟩
 ·injection h with h; subst h; exact ⟨Tryz.func27, by kernel_rfl, _, rfl, by kernel_rfl, by kernel_rfl⟩
 ·injection h with h; subst h; exact ⟨Tryz.func28, by kernel_rfl, _, rfl, by kernel_rfl, by kernel_rfl⟩
 ·injection h with h; subst h; exact ⟨Tryz.func29, by kernel_rfl, _, rfl, by kernel_rfl, by kernel_rfl⟩
 ·injection h with h; subst h; exact ⟨Tryz.func30, by kernel_rfl, _, rfl, by kernel_rfl, by kernel_rfl⟩
 ·injection h with h; subst h; exact ⟨Tryz.func31, by kernel_rfl, _, rfl, by kernel_rfl, by kernel_rfl⟩
 ·injection h with h; subst h; exact ⟨Tryz.func32, by kernel_rfl, _, rfl, by kernel_rfl, by kernel_rfl⟩
 ·injection h with h; subst h; exact ⟨Tryz.func33, by kernel_rfl, _, rfl, by kernel_rfl, by kernel_rfl⟩
 ·injection h with h; subst h; exact ⟨Tryz.func34, by kernel_rfl, _, rfl, by kernel_rfl, by kernel_rfl⟩
 ·injection h with h; subst h; exact ⟨Tryz.func35, by kernel_rfl, _, rfl, by kernel_rfl, by kernel_rfl⟩
 ·injection h with h; subst h; exact ⟨Tryz.func36, by kernel_rfl, _, rfl, by kernel_rfl, by kernel_rfl⟩
 ·injection h with h; subst h; exact ⟨Tryz.func37, by kernel_rfl, _, rfl, by kernel_rfl, by kernel_rfl⟩
 ·injection h with h; subst h; exact ⟨Tryz.func38, by kernel_rfl, _, rfl, by kernel_rfl, by kernel_rfl⟩
 ·injection h with h; subst h; exact ⟨Tryz.func39, by kernel_rfl, _, rfl, by kernel_rfl, by kernel_rfl⟩
 ·injection h with h; subst h; exact ⟨Tryz.func40, by kernel_rfl, _, rfl, by kernel_rfl, by kernel_rfl⟩
 ·injection h with h; subst h; exact ⟨Tryz.func41, by kernel_rfl, _, rfl, by kernel_rfl, by kernel_rfl⟩
 ·injection h with h; subst h; exact ⟨Tryz.func42, by kernel_rfl, _, rfl, by kernel_rfl, by kernel_rfl⟩
 ·injection h with h; subst h; exact ⟨Tryz.func43, by kernel_rfl, _, rfl, by kernel_rfl, by kernel_rfl⟩
 ·injection h with h; subst h; exact ⟨Tryz.func44, by kernel_rfl, _, rfl, by kernel_rfl, by kernel_rfl⟩
 ·injection h with h; subst h; exact ⟨Tryz.func45, by kernel_rfl, _, rfl, by kernel_rfl, by kernel_rfl⟩
 ·injection h with h; subst h; exact ⟨Tryz.func46, by kernel_rfl, _, rfl, by kernel_rfl, by kernel_rfl⟩
 ·injection h with h; subst h; exact ⟨Tryz.func47, by kernel_rfl, _, rfl, by kernel_rfl, by kernel_rfl⟩
 ·injection h with h; subst h; exact ⟨Tryz.func48, by kernel_rfl, _, rfl, by kernel_rfl, by kernel_rfl⟩
 ·injection h with h; subst h; exact ⟨Tryz.func49, by kernel_rfl, _, rfl, by kernel_rfl, by kernel_rfl⟩
 ·injection h with h; subst h; exact ⟨Tryz.func50, by kernel_rfl, _, rfl, by kernel_rfl, by kernel_rfl⟩
 ·injection h with h; subst h; exact ⟨Tryz.func51, by kernel_rfl, _, rfl, by kernel_rfl, by kernel_rfl⟩
 ·injection h with h; subst h; exact ⟨Tryz.func52, by kernel_rfl, _, rfl, by kernel_rfl, by kernel_rfl⟩
 ·injection h with h; subst h; exact ⟨Tryz.func53, by kernel_rfl, _, rfl, by kernel_rfl, by kernel_rfl⟩
 ·injection h with h; subst h; exact ⟨Tryz.func54, by kernel_rfl, _, rfl, by kernel_rfl, by kernel_rfl⟩
 ·injection h with h; subst h; exact ⟨Tryz.func55, by kernel_rfl, _, rfl, by kernel_rfl, by kernel_rfl⟩
 ·injection h with h; subst h; exact ⟨Tryz.func56, by kernel_rfl, _, rfl, by kernel_rfl, by kernel_rfl⟩
 ·injection h with h; subst h; exact ⟨Tryz.func57, by kernel_rfl, _, rfl, by kernel_rfl, by kernel_rfl⟩
 ·injection h with h; subst h; exact ⟨Tryz.func58, by kernel_rfl, _, rfl, by kernel_rfl, by kernel_rfl⟩
 ·injection h with h; subst h; exact ⟨Tryz.func59, by kernel_rfl, _, rfl, by kernel_rfl, by kernel_rfl⟩
 ·injection h with h; subst h; exact ⟨Tryz.func60, by kernel_rfl, _, rfl, by kernel_rfl, by kernel_rfl⟩
 ·injection h with h; subst h; exact ⟨Tryz.func61, by kernel_rfl, _, rfl, by kernel_rfl, by kernel_rfl⟩
 ·injection h with h; subst h; exact ⟨Tryz.func62, by kernel_rfl, _, rfl, by kernel_rfl, by kernel_rfl⟩
 ·injection h with h; subst h; exact ⟨Tryz.func63, by kernel_rfl, _, rfl, by kernel_rfl, by kernel_rfl⟩
 ·injection h with h; subst h; exact ⟨Tryz.func64, by kernel_rfl, _, rfl, by kernel_rfl, by kernel_rfl⟩
 ·injection h with h; subst h; exact ⟨Tryz.func65, by kernel_rfl, _, rfl, by kernel_rfl, by kernel_rfl⟩
 ·injection h with h; subst h; exact ⟨Tryz.func66, by kernel_rfl, _, rfl, by kernel_rfl, by kernel_rfl⟩
 ·injection h with h; subst h; exact ⟨Tryz.func67, by kernel_rfl, _, rfl, by kernel_rfl, by kernel_rfl⟩
 ·injection h with h; subst h; exact ⟨Tryz.func68, by kernel_rfl, _, rfl, by kernel_rfl, by kernel_rfl⟩
 ·injection h with h; subst h; exact ⟨Tryz.func69, by kernel_rfl, _, rfl, by kernel_rfl, by kernel_rfl⟩
 ·injection h with h; subst h; exact ⟨Tryz.func70, by kernel_rfl, _, rfl, by kernel_rfl, by kernel_rfl⟩
 ·injection h with h; subst h; exact ⟨Tryz.func71, by kernel_rfl, _, rfl, by kernel_rfl, by kernel_rfl⟩
 ·injection h with h; subst h; exact ⟨Tryz.func72, by kernel_rfl, _, rfl, by kernel_rfl, by kernel_rfl⟩
 ·injection h with h; subst h; exact ⟨Tryz.func73, by kernel_rfl, _, rfl, by kernel_rfl, by kernel_rfl⟩
 ·injection h with h; subst h; exact ⟨Tryz.func74, by kernel_rfl, _, rfl, by kernel_rfl, by kernel_rfl⟩
 ·injection h with h; subst h; exact ⟨Tryz.func75, by kernel_rfl, _, rfl, by kernel_rfl, by kernel_rfl⟩
 ·injection h with h; subst h; exact ⟨Tryz.func76, by kernel_rfl, _, rfl, by kernel_rfl, by kernel_rfl⟩
 ·injection h with h; subst h; exact ⟨Tryz.func77, by kernel_rfl, _, rfl, by kernel_rfl, by kernel_rfl⟩
 ·injection h with h; subst h; exact ⟨Tryz.func78, by kernel_rfl, _, rfl, by kernel_rfl, by kernel_rfl⟩
 ·injection h with h; subst h; exact ⟨Tryz.func79, by kernel_rfl, _, rfl, by kernel_rfl, by kernel_rfl⟩
 ·injection h with h; subst h; exact ⟨Tryz.func80, by kernel_rfl, _, rfl, by kernel_rfl, by kernel_rfl⟩
 ·injection h with h; subst h; exact ⟨Tryz.func81, by kernel_rfl, _, rfl, by kernel_rfl, by kernel_rfl⟩
 ·injection h with h; subst h; exact ⟨Tryz.func82, by kernel_rfl, _, rfl, by kernel_rfl, by kernel_rfl⟩
 ·injection h with h; subst h; exact ⟨Tryz.func83, by kernel_rfl, _, rfl, by kernel_rfl, by kernel_rfl⟩
 ·injection h with h; subst h; exact ⟨Tryz.func84, by kernel_rfl, _, rfl, by kernel_rfl, by kernel_rfl⟩
 ·injection h with h; subst h; exact ⟨Tryz.func85, by kernel_rfl, _, rfl, by kernel_rfl, by kernel_rfl⟩
 ·injection h with h; subst h; exact ⟨Tryz.func86, by kernel_rfl, _, rfl, by kernel_rfl, by kernel_rfl⟩
 ·injection h with h; subst h; exact ⟨Tryz.func87, by kernel_rfl, _, rfl, by kernel_rfl, by kernel_rfl⟩
 ·injection h with h; subst h; exact ⟨Tryz.func88, by kernel_rfl, _, rfl, by kernel_rfl, by kernel_rfl⟩
 ·injection h with h; subst h; exact ⟨Tryz.func89, by kernel_rfl, _, rfl, by kernel_rfl, by kernel_rfl⟩
 ·injection h with h; subst h; exact ⟨Tryz.func90, by kernel_rfl, _, rfl, by kernel_rfl, by kernel_rfl⟩
 ·injection h with h; subst h; exact ⟨Tryz.func91, by kernel_rfl, _, rfl, by kernel_rfl, by kernel_rfl⟩
 ·injection h with h; subst h; exact ⟨Tryz.func92, by kernel_rfl, _, rfl, by kernel_rfl, by kernel_rfl⟩
 ·injection h with h; subst h; exact ⟨Tryz.func93, by kernel_rfl, _, rfl, by kernel_rfl, by kernel_rfl⟩
 ·injection h with h; subst h; exact ⟨Tryz.func94, by kernel_rfl, _, rfl, by kernel_rfl, by kernel_rfl⟩
 ·injection h with h; subst h; exact ⟨Tryz.func95, by kernel_rfl, _, rfl, by kernel_rfl, by kernel_rfl⟩
 ·injection h with h; subst h; exact ⟨Tryz.func96, by kernel_rfl, _, rfl, by kernel_rfl, by kernel_rfl⟩
 ·injection h with h; subst h; exact ⟨Tryz.func97, by kernel_rfl, _, rfl, by kernel_rfl, by kernel_rfl⟩
 ·injection h with h; subst h; exact ⟨Tryz.func98, by kernel_rfl, _, rfl, by kernel_rfl, by kernel_rfl⟩
 ·injection h with h; subst h; exact ⟨Tryz.func99, by kernel_rfl, _, rfl, by kernel_rfl, by kernel_rfl⟩
 ·injection h with h; subst h; exact ⟨Tryz.func100, by kernel_rfl, _, rfl, by kernel_rfl, by kernel_rfl⟩
 ·injection h with h; subst h; exact ⟨Tryz.func101, by kernel_rfl, _, rfl, by kernel_rfl, by kernel_rfl⟩
 ·injection h with h; subst h; exact ⟨Tryz.func102, by kernel_rfl, _, rfl, by kernel_rfl, by kernel_rfl⟩
 ·injection h with h; subst h; exact ⟨Tryz.func103, by kernel_rfl, _, rfl, by kernel_rfl, by kernel_rfl⟩
 ·injection h with h; subst h; exact ⟨Tryz.func104, by kernel_rfl, _, rfl, by kernel_rfl, by kernel_rfl⟩
 ·injection h with h; subst h; exact ⟨Tryz.func105, by kernel_rfl, _, rfl, by kernel_rfl, by kernel_rfl⟩
 ·injection h with h; subst h; exact ⟨Tryz.func106, by kernel_rfl, _, rfl, by kernel_rfl, by kernel_rfl⟩
 ·injection h with h; subst h; exact ⟨Tryz.func107, by kernel_rfl, _, rfl, by kernel_rfl, by kernel_rfl⟩
 ·injection h with h; subst h; exact ⟨Tryz.func108, by kernel_rfl, _, rfl, by kernel_rfl, by kernel_rfl⟩
 ·injection h with h; subst h; exact ⟨Tryz.func109, by kernel_rfl, _, rfl, by kernel_rfl, by kernel_rfl⟩
 ·cases h
noncomputable def X0 : Rel := fun _ _ _ _ _ => False
abbrev CC : Rel := Call Γ E F X0 (Draw Γ E)
/-- What region of open order is meant. -/
abbrev DD : DrawR := Draw Γ E CC 0
abbrev OpEq (C : Rel) (D : DrawR) (l l' : List POp) : Prop := ∀ (Q : Ex → S → Prop) (b i : Nat) (k : List Fr) (s : S), OpG Γ E C D Q b i l k s = OpG Γ E C D Q b i l' k s
theorem opEq {C : Rel} {D : DrawR} {l l' : List POp} (h : l = l') : OpEq C D l l' := fun _ _ _ _ _ => by rw [h]
abbrev GoEq (C : Rel) (D : DrawR) (c c' : PC) : Prop := ∀ (Q : Ex → S → Prop) (k : List Fr) (s : S), Go Γ E C D Q c k s = Go Γ E C D Q c' k s
theorem goEq {C : Rel} {D : DrawR} {c c' : PC} (h : c = c') : GoEq C D c c' := fun _ _ _ => by rw [h]
end Go.Proofs.YtonpnjfclelpiaaGreatM
