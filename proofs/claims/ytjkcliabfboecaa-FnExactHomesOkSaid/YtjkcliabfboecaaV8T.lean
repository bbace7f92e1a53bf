import Derived.Test.YtjkcliabfboecaaV8MiV
import Derived.Test.YtjkcliabfboecaaChecked
import Derived.KernelRfl
/- The tables of the small machine for this program: its types and its functions, and that the program has them so. -/
namespace Go.Proofs.YtjkcliabfboecaaM
open Go
set_option linter.unusedVariables false
set_option maxRecDepth 100000
noncomputable def ti3 : TI := ⟨.int .i64, 1, 8, [Value.int IntKind.i64 0]⟩
noncomputable def ti4 : TI := ⟨.bool, 1, 1, [Value.bool false]⟩
noncomputable def ti5 : TI := ⟨.int .u8, 1, 1, [Value.int IntKind.u8 0]⟩
noncomputable def ti9 : TI := ⟨.str, 1, 16, [Value.string ByteArray.empty]⟩
noncomputable def ti22 : TI := ⟨.slice 78, 1, 24, [Value.slice none 0 0]⟩
noncomputable def ti24 : TI := ⟨.struct [(0, 22), (1, 3)], 2, 32, [Value.slice none 0 0, Value.int IntKind.i64 0]⟩
noncomputable def ti25 : TI := ⟨.slice 3, 1, 24, [Value.slice none 0 0]⟩
noncomputable def ti28 : TI := ⟨.slice 63, 1, 24, [Value.slice none 0 0]⟩
noncomputable def ti30 : TI := ⟨.struct [(0, 28), (1, 3)], 2, 32, [Value.slice none 0 0, Value.int IntKind.i64 0]⟩
noncomputable def ti45 : TI := ⟨.slice 54, 1, 24, [Value.slice none 0 0]⟩
noncomputable def ti53 : TI := ⟨.fn, 1, 8, [Value.nilFunc]⟩
noncomputable def ti54 : TI := ⟨.slice 4, 1, 24, [Value.slice none 0 0]⟩
noncomputable def ti58 : TI := ⟨.slice 98, 1, 24, [Value.slice none 0 0]⟩
noncomputable def ti59 : TI := ⟨.slice 69, 1, 24, [Value.slice none 0 0]⟩
noncomputable def ti61 : TI := ⟨.struct [(0, 3), (1, 3), (2, 3), (3, 3)], 4, 32, [Value.int IntKind.i64 0, Value.int IntKind.i64 0, Value.int IntKind.i64 0, Value.int IntKind.i64 0]⟩
noncomputable def ti63 : TI := ⟨.struct [(0, 58), (1, 59), (2, 61)], 6, 80, [Value.slice none 0 0, Value.slice none 0 0, Value.int IntKind.i64 0, Value.int IntKind.i64 0, Value.int IntKind.i64 0, Value.int IntKind.i64 0]⟩
noncomputable def ti69 : TI := ⟨.struct [(0, 3), (1, 3), (2, 3), (3, 3), (4, 3)], 5, 40, [Value.int IntKind.i64 0, Value.int IntKind.i64 0, Value.int IntKind.i64 0, Value.int IntKind.i64 0, Value.int IntKind.i64 0]⟩
noncomputable def ti74 : TI := ⟨.slice 120, 1, 24, [Value.slice none 0 0]⟩
noncomputable def ti75 : TI := ⟨.slice 126, 1, 24, [Value.slice none 0 0]⟩
noncomputable def ti76 : TI := ⟨.struct [(0, 3), (1, 3), (2, 3), (3, 3)], 4, 32, [Value.int IntKind.i64 0, Value.int IntKind.i64 0, Value.int IntKind.i64 0, Value.int IntKind.i64 0]⟩
noncomputable def ti78 : TI := ⟨.struct [(0, 74), (1, 75), (2, 76)], 6, 80, [Value.slice none 0 0, Value.slice none 0 0, Value.int IntKind.i64 0, Value.int IntKind.i64 0, Value.int IntKind.i64 0, Value.int IntKind.i64 0]⟩
noncomputable def ti81 : TI := ⟨.fn, 1, 8, [Value.nilFunc]⟩
noncomputable def ti96 : TI := ⟨.slice 123, 1, 24, [Value.slice none 0 0]⟩
noncomputable def ti98 : TI := ⟨.struct [(0, 3), (1, 96)], 2, 32, [Value.int IntKind.i64 0, Value.slice none 0 0]⟩
noncomputable def ti104 : TI := ⟨.fn, 1, 8, [Value.nilFunc]⟩
noncomputable def ti106 : TI := ⟨.fn, 1, 8, [Value.nilFunc]⟩
noncomputable def ti116 : TI := ⟨.slice 5, 1, 24, [Value.slice none 0 0]⟩
noncomputable def ti118 : TI := ⟨.slice 140, 1, 24, [Value.slice none 0 0]⟩
noncomputable def ti120 : TI := ⟨.struct [(0, 3), (1, 118)], 2, 32, [Value.int IntKind.i64 0, Value.slice none 0 0]⟩
noncomputable def ti123 : TI := ⟨.struct [(0, 3), (1, 3)], 2, 16, [Value.int IntKind.i64 0, Value.int IntKind.i64 0]⟩
noncomputable def ti126 : TI := ⟨.struct [(0, 3), (1, 3), (2, 3), (3, 3), (4, 3)], 5, 40, [Value.int IntKind.i64 0, Value.int IntKind.i64 0, Value.int IntKind.i64 0, Value.int IntKind.i64 0, Value.int IntKind.i64 0]⟩
noncomputable def ti130 : TI := ⟨.fn, 1, 8, [Value.nilFunc]⟩
noncomputable def ti140 : TI := ⟨.struct [(0, 3), (1, 3)], 2, 16, [Value.int IntKind.i64 0, Value.int IntKind.i64 0]⟩
noncomputable def Γ : TypeId → Option TI
  | 3 => some ti3
  | 4 => some ti4
  | 5 => some ti5
  | 9 => some ti9
  | 22 => some ti22
  | 24 => some ti24
  | 25 => some ti25
  | 28 => some ti28
  | 30 => some ti30
  | 45 => some ti45
  | 53 => some ti53
  | 54 => some ti54
  | 58 => some ti58
  | 59 => some ti59
  | 61 => some ti61
  | 63 => some ti63
  | 69 => some ti69
  | 74 => some ti74
  | 75 => some ti75
  | 76 => some ti76
  | 78 => some ti78
  | 81 => some ti81
  | 96 => some ti96
  | 98 => some ti98
  | 104 => some ti104
  | 106 => some ti106
  | 116 => some ti116
  | 118 => some ti118
  | 120 => some ti120
  | 123 => some ti123
  | 126 => some ti126
  | 130 => some ti130
  | 140 => some ti140
  | _ => none
def E : TypeId → Nat
  | _ => 0
theorem Γ_cases {t : TypeId} {i : TI} (h : Γ t = some i) : (t = 3 ∧ i = ti3) ∨ (t = 4 ∧ i = ti4) ∨ (t = 5 ∧ i = ti5) ∨ (t = 9 ∧ i = ti9) ∨ (t = 22 ∧ i = ti22) ∨ (t = 24 ∧ i = ti24) ∨ (t = 25 ∧ i = ti25) ∨ (t = 28 ∧ i = ti28) ∨ (t = 30 ∧ i = ti30) ∨ (t = 45 ∧ i = ti45) ∨ (t = 53 ∧ i = ti53) ∨ (t = 54 ∧ i = ti54) ∨ (t = 58 ∧ i = ti58) ∨ (t = 59 ∧ i = ti59) ∨ (t = 61 ∧ i = ti61) ∨ (t = 63 ∧ i = ti63) ∨ (t = 69 ∧ i = ti69) ∨ (t = 74 ∧ i = ti74) ∨ (t = 75 ∧ i = ti75) ∨ (t = 76 ∧ i = ti76) ∨ (t = 78 ∧ i = ti78) ∨ (t = 81 ∧ i = ti81) ∨ (t = 96 ∧ i = ti96) ∨ (t = 98 ∧ i = ti98) ∨ (t = 104 ∧ i = ti104) ∨ (t = 106 ∧ i = ti106) ∨ (t = 116 ∧ i = ti116) ∨ (t = 118 ∧ i = ti118) ∨ (t = 120 ∧ i = ti120) ∨ (t = 123 ∧ i = ti123) ∨ (t = 126 ∧ i = ti126) ∨ (t = 130 ∧ i = ti130) ∨ (t = 140 ∧ i = ti140) := by
  unfold Γ at h
  split at h <;> first | (injection h with h; subst h; simp) | cases h
/-- One row of the table. -/
theorem row_ok {t : TypeId} {i : TI} {d : TypeDesc} (h : (Try.prog.info? t).map (fun x => (x.size, x.bytes, x.zero.map fun z => z.cells)) = some (i.size, i.bytes, some i.zero.toArray)) (hp : i.zero.all plainV = true) (hu : Try.prog.underlying t = some d) (hs : ShOk d i.sh) :
    ∃ inf, Try.prog.info? t = some inf ∧ inf.size = i.size ∧ inf.bytes = i.bytes ∧ (∃ z, inf.zero = some z ∧ z.cells = i.zero.toArray) ∧ (∀ v ∈ i.zero, plainV v = true) ∧ ∃ d, Try.prog.underlying t = some d ∧ ShOk d i.sh := by
  obtain ⟨inf, h1, h2⟩ := Option.map_eq_some_iff.1 h
  injection h2 with h2 h3
  injection h3 with h3 h4
  obtain ⟨z, h5, h6⟩ := Option.map_eq_some_iff.1 h4
  exact ⟨inf, h1, h2, h3, ⟨z, h5, h6⟩, fun v hv => List.all_eq_true.1 hp v hv, d, hu, hs⟩
theorem row3 : ∃ inf, Try.prog.info? 3 = some inf ∧ inf.size = ti3.size ∧ inf.bytes = ti3.bytes ∧ (∃ z, inf.zero = some z ∧ z.cells = ti3.zero.toArray) ∧ (∀ v ∈ ti3.zero, plainV v = true) ∧ ∃ d, Try.prog.underlying 3 = some d ∧ ShOk d ti3.sh :=
  row_ok (by kernel_rfl) rfl Try.underlying3 rfl
theorem row4 : ∃ inf, Try.prog.info? 4 = some inf ∧ inf.size = ti4.size ∧ inf.bytes = ti4.bytes ∧ (∃ z, inf.zero = some z ∧ z.cells = ti4.zero.toArray) ∧ (∀ v ∈ ti4.zero, plainV v = true) ∧ ∃ d, Try.prog.underlying 4 = some d ∧ ShOk d ti4.sh :=
  row_ok (by kernel_rfl) rfl Try.underlying4 rfl
theorem row5 : ∃ inf, Try.prog.info? 5 = some inf ∧ inf.size = ti5.size ∧ inf.bytes = ti5.bytes ∧ (∃ z, inf.zero = some z ∧ z.cells = ti5.zero.toArray) ∧ (∀ v ∈ ti5.zero, plainV v = true) ∧ ∃ d, Try.prog.underlying 5 = some d ∧ ShOk d ti5.sh :=
  row_ok (by kernel_rfl) rfl Try.underlying5 rfl
theorem row9 : ∃ inf, Try.prog.info? 9 = some inf ∧ inf.size = ti9.size ∧ inf.bytes = ti9.bytes ∧ (∃ z, inf.zero = some z ∧ z.cells = ti9.zero.toArray) ∧ (∀ v ∈ ti9.zero, plainV v = true) ∧ ∃ d, Try.prog.underlying 9 = some d ∧ ShOk d ti9.sh :=
  row_ok (by kernel_rfl) rfl Try.underlying9 rfl
theorem row22 : ∃ inf, Try.prog.info? 22 = some inf ∧ inf.size = ti22.size ∧ inf.bytes = ti22.bytes ∧ (∃ z, inf.zero = some z ∧ z.cells = ti22.zero.toArray) ∧ (∀ v ∈ ti22.zero, plainV v = true) ∧ ∃ d, Try.prog.underlying 22 = some d ∧ ShOk d ti22.sh :=
  row_ok (by kernel_rfl) rfl Try.underlying22 rfl
theorem row24 : ∃ inf, Try.prog.info? 24 = some inf ∧ inf.size = ti24.size ∧ inf.bytes = ti24.bytes ∧ (∃ z, inf.zero = some z ∧ z.cells = ti24.zero.toArray) ∧ (∀ v ∈ ti24.zero, plainV v = true) ∧ ∃ d, Try.prog.underlying 24 = some d ∧ ShOk d ti24.sh :=
  row_ok (by kernel_rfl) rfl Try.underlying24 ⟨_, rfl, rfl⟩
theorem row25 : ∃ inf, Try.prog.info? 25 = some inf ∧ inf.size = ti25.size ∧ inf.bytes = ti25.bytes ∧ (∃ z, inf.zero = some z ∧ z.cells = ti25.zero.toArray) ∧ (∀ v ∈ ti25.zero, plainV v = true) ∧ ∃ d, Try.prog.underlying 25 = some d ∧ ShOk d ti25.sh :=
  row_ok (by kernel_rfl) rfl Try.underlying25 rfl
theorem row28 : ∃ inf, Try.prog.info? 28 = some inf ∧ inf.size = ti28.size ∧ inf.bytes = ti28.bytes ∧ (∃ z, inf.zero = some z ∧ z.cells = ti28.zero.toArray) ∧ (∀ v ∈ ti28.zero, plainV v = true) ∧ ∃ d, Try.prog.underlying 28 = some d ∧ ShOk d ti28.sh :=
  row_ok (by kernel_rfl) rfl Try.underlying28 rfl
theorem row30 : ∃ inf, Try.prog.info? 30 = some inf ∧ inf.size = ti30.size ∧ inf.bytes = ti30.bytes ∧ (∃ z, inf.zero = some z ∧ z.cells = ti30.zero.toArray) ∧ (∀ v ∈ ti30.zero, plainV v = true) ∧ ∃ d, Try.prog.underlying 30 = some d ∧ ShOk d ti30.sh :=
  row_ok (by kernel_rfl) rfl Try.underlying30 ⟨_, rfl, rfl⟩
theorem row45 : ∃ inf, Try.prog.info? 45 = some inf ∧ inf.size = ti45.size ∧ inf.bytes = ti45.bytes ∧ (∃ z, inf.zero = some z ∧ z.cells = ti45.zero.toArray) ∧ (∀ v ∈ ti45.zero, plainV v = true) ∧ ∃ d, Try.prog.underlying 45 = some d ∧ ShOk d ti45.sh :=
  row_ok (by kernel_rfl) rfl Try.underlying45 rfl
theorem row53 : ∃ inf, Try.prog.info? 53 = some inf ∧ inf.size = ti53.size ∧ inf.bytes = ti53.bytes ∧ (∃ z, inf.zero = some z ∧ z.cells = ti53.zero.toArray) ∧ (∀ v ∈ ti53.zero, plainV v = true) ∧ ∃ d, Try.prog.underlying 53 = some d ∧ ShOk d ti53.sh :=
  row_ok (by kernel_rfl) rfl Try.underlying53 ⟨_, _, _, rfl⟩
theorem row54 : ∃ inf, Try.prog.info? 54 = some inf ∧ inf.size = ti54.size ∧ inf.bytes = ti54.bytes ∧ (∃ z, inf.zero = some z ∧ z.cells = ti54.zero.toArray) ∧ (∀ v ∈ ti54.zero, plainV v = true) ∧ ∃ d, Try.prog.underlying 54 = some d ∧ ShOk d ti54.sh :=
  row_ok (by kernel_rfl) rfl Try.underlying54 rfl
theorem row58 : ∃ inf, Try.prog.info? 58 = some inf ∧ inf.size = ti58.size ∧ inf.bytes = ti58.bytes ∧ (∃ z, inf.zero = some z ∧ z.cells = ti58.zero.toArray) ∧ (∀ v ∈ ti58.zero, plainV v = true) ∧ ∃ d, Try.prog.underlying 58 = some d ∧ ShOk d ti58.sh :=
  row_ok (by kernel_rfl) rfl Try.underlying58 rfl
theorem row59 : ∃ inf, Try.prog.info? 59 = some inf ∧ inf.size = ti59.size ∧ inf.bytes = ti59.bytes ∧ (∃ z, inf.zero = some z ∧ z.cells = ti59.zero.toArray) ∧ (∀ v ∈ ti59.zero, plainV v = true) ∧ ∃ d, Try.prog.underlying 59 = some d ∧ ShOk d ti59.sh :=
  row_ok (by kernel_rfl) rfl Try.underlying59 rfl
theorem row61 : ∃ inf, Try.prog.info? 61 = some inf ∧ inf.size = ti61.size ∧ inf.bytes = ti61.bytes ∧ (∃ z, inf.zero = some z ∧ z.cells = ti61.zero.toArray) ∧ (∀ v ∈ ti61.zero, plainV v = true) ∧ ∃ d, Try.prog.underlying 61 = some d ∧ ShOk d ti61.sh :=
  row_ok (by kernel_rfl) rfl Try.underlying61 ⟨_, rfl, rfl⟩
theorem row63 : ∃ inf, Try.prog.info? 63 = some inf ∧ inf.size = ti63.size ∧ inf.bytes = ti63.bytes ∧ (∃ z, inf.zero = some z ∧ z.cells = ti63.zero.toArray) ∧ (∀ v ∈ ti63.zero, plainV v = true) ∧ ∃ d, Try.prog.underlying 63 = some d ∧ ShOk d ti63.sh :=
  row_ok (by kernel_rfl) rfl Try.underlying63 ⟨_, rfl, rfl⟩
theorem row69 : ∃ inf, Try.prog.info? 69 = some inf ∧ inf.size = ti69.size ∧ inf.bytes = ti69.bytes ∧ (∃ z, inf.zero = some z ∧ z.cells = ti69.zero.toArray) ∧ (∀ v ∈ ti69.zero, plainV v = true) ∧ ∃ d, Try.prog.underlying 69 = some d ∧ ShOk d ti69.sh :=
  row_ok (by kernel_rfl) rfl Try.underlying69 ⟨_, rfl, rfl⟩
theorem row74 : ∃ inf, Try.prog.info? 74 = some inf ∧ inf.size = ti74.size ∧ inf.bytes = ti74.bytes ∧ (∃ z, inf.zero = some z ∧ z.cells = ti74.zero.toArray) ∧ (∀ v ∈ ti74.zero, plainV v = true) ∧ ∃ d, Try.prog.underlying 74 = some d ∧ ShOk d ti74.sh :=
  row_ok (by kernel_rfl) rfl Try.underlying74 rfl
theorem row75 : ∃ inf, Try.prog.info? 75 = some inf ∧ inf.size = ti75.size ∧ inf.bytes = ti75.bytes ∧ (∃ z, inf.zero = some z ∧ z.cells = ti75.zero.toArray) ∧ (∀ v ∈ ti75.zero, plainV v = true) ∧ ∃ d, Try.prog.underlying 75 = some d ∧ ShOk d ti75.sh :=
  row_ok (by kernel_rfl) rfl Try.underlying75 rfl
theorem row76 : ∃ inf, Try.prog.info? 76 = some inf ∧ inf.size = ti76.size ∧ inf.bytes = ti76.bytes ∧ (∃ z, inf.zero = some z ∧ z.cells = ti76.zero.toArray) ∧ (∀ v ∈ ti76.zero, plainV v = true) ∧ ∃ d, Try.prog.underlying 76 = some d ∧ ShOk d ti76.sh :=
  row_ok (by kernel_rfl) rfl Try.underlying76 ⟨_, rfl, rfl⟩
theorem row78 : ∃ inf, Try.prog.info? 78 = some inf ∧ inf.size = ti78.size ∧ inf.bytes = ti78.bytes ∧ (∃ z, inf.zero = some z ∧ z.cells = ti78.zero.toArray) ∧ (∀ v ∈ ti78.zero, plainV v = true) ∧ ∃ d, Try.prog.underlying 78 = some d ∧ ShOk d ti78.sh :=
  row_ok (by kernel_rfl) rfl Try.underlying78 ⟨_, rfl, rfl⟩
theorem row81 : ∃ inf, Try.prog.info? 81 = some inf ∧ inf.size = ti81.size ∧ inf.bytes = ti81.bytes ∧ (∃ z, inf.zero = some z ∧ z.cells = ti81.zero.toArray) ∧ (∀ v ∈ ti81.zero, plainV v = true) ∧ ∃ d, Try.prog.underlying 81 = some d ∧ ShOk d ti81.sh :=
  row_ok (by kernel_rfl) rfl Try.underlying81 ⟨_, _, _, rfl⟩
theorem row96 : ∃ inf, Try.prog.info? 96 = some inf ∧ inf.size = ti96.size ∧ inf.bytes = ti96.bytes ∧ (∃ z, inf.zero = some z ∧ z.cells = ti96.zero.toArray) ∧ (∀ v ∈ ti96.zero, plainV v = true) ∧ ∃ d, Try.prog.underlying 96 = some d ∧ ShOk d ti96.sh :=
  row_ok (by kernel_rfl) rfl Try.underlying96 rfl
theorem row98 : ∃ inf, Try.prog.info? 98 = some inf ∧ inf.size = ti98.size ∧ inf.bytes = ti98.bytes ∧ (∃ z, inf.zero = some z ∧ z.cells = ti98.zero.toArray) ∧ (∀ v ∈ ti98.zero, plainV v = true) ∧ ∃ d, Try.prog.underlying 98 = some d ∧ ShOk d ti98.sh :=
  row_ok (by kernel_rfl) rfl Try.underlying98 ⟨_, rfl, rfl⟩
theorem row104 : ∃ inf, Try.prog.info? 104 = some inf ∧ inf.size = ti104.size ∧ inf.bytes = ti104.bytes ∧ (∃ z, inf.zero = some z ∧ z.cells = ti104.zero.toArray) ∧ (∀ v ∈ ti104.zero, plainV v = true) ∧ ∃ d, Try.prog.underlying 104 = some d ∧ ShOk d ti104.sh :=
  row_ok (by kernel_rfl) rfl Try.underlying104 ⟨_, _, _, rfl⟩
theorem row106 : ∃ inf, Try.prog.info? 106 = some inf ∧ inf.size = ti106.size ∧ inf.bytes = ti106.bytes ∧ (∃ z, inf.zero = some z ∧ z.cells = ti106.zero.toArray) ∧ (∀ v ∈ ti106.zero, plainV v = true) ∧ ∃ d, Try.prog.underlying 106 = some d ∧ ShOk d ti106.sh :=
  row_ok (by kernel_rfl) rfl Try.underlying106 ⟨_, _, _, rfl⟩
theorem row116 : ∃ inf, Try.prog.info? 116 = some inf ∧ inf.size = ti116.size ∧ inf.bytes = ti116.bytes ∧ (∃ z, inf.zero = some z ∧ z.cells = ti116.zero.toArray) ∧ (∀ v ∈ ti116.zero, plainV v = true) ∧ ∃ d, Try.prog.underlying 116 = some d ∧ ShOk d ti116.sh :=
  row_ok (by kernel_rfl) rfl Try.underlying116 rfl
theorem row118 : ∃ inf, Try.prog.info? 118 = some inf ∧ inf.size = ti118.size ∧ inf.bytes = ti118.bytes ∧ (∃ z, inf.zero = some z ∧ z.cells = ti118.zero.toArray) ∧ (∀ v ∈ ti118.zero, plainV v = true) ∧ ∃ d, Try.prog.underlying 118 = some d ∧ ShOk d ti118.sh :=
  row_ok (by kernel_rfl) rfl Try.underlying118 rfl
theorem row120 : ∃ inf, Try.prog.info? 120 = some inf ∧ inf.size = ti120.size ∧ inf.bytes = ti120.bytes ∧ (∃ z, inf.zero = some z ∧ z.cells = ti120.zero.toArray) ∧ (∀ v ∈ ti120.zero, plainV v = true) ∧ ∃ d, Try.prog.underlying 120 = some d ∧ ShOk d ti120.sh :=
  row_ok (by kernel_rfl) rfl Try.underlying120 ⟨_, rfl, rfl⟩
theorem row123 : ∃ inf, Try.prog.info? 123 = some inf ∧ inf.size = ti123.size ∧ inf.bytes = ti123.bytes ∧ (∃ z, inf.zero = some z ∧ z.cells = ti123.zero.toArray) ∧ (∀ v ∈ ti123.zero, plainV v = true) ∧ ∃ d, Try.prog.underlying 123 = some d ∧ ShOk d ti123.sh :=
  row_ok (by kernel_rfl) rfl Try.underlying123 ⟨_, rfl, rfl⟩
theorem row126 : ∃ inf, Try.prog.info? 126 = some inf ∧ inf.size = ti126.size ∧ inf.bytes = ti126.bytes ∧ (∃ z, inf.zero = some z ∧ z.cells = ti126.zero.toArray) ∧ (∀ v ∈ ti126.zero, plainV v = true) ∧ ∃ d, Try.prog.underlying 126 = some d ∧ ShOk d ti126.sh :=
  row_ok (by kernel_rfl) rfl Try.underlying126 ⟨_, rfl, rfl⟩
theorem row130 : ∃ inf, Try.prog.info? 130 = some inf ∧ inf.size = ti130.size ∧ inf.bytes = ti130.bytes ∧ (∃ z, inf.zero = some z ∧ z.cells = ti130.zero.toArray) ∧ (∀ v ∈ ti130.zero, plainV v = true) ∧ ∃ d, Try.prog.underlying 130 = some d ∧ ShOk d ti130.sh :=
  row_ok (by kernel_rfl) rfl Try.underlying130 ⟨_, _, _, rfl⟩
theorem row140 : ∃ inf, Try.prog.info? 140 = some inf ∧ inf.size = ti140.size ∧ inf.bytes = ti140.bytes ∧ (∃ z, inf.zero = some z ∧ z.cells = ti140.zero.toArray) ∧ (∀ v ∈ ti140.zero, plainV v = true) ∧ ∃ d, Try.prog.underlying 140 = some d ∧ ShOk d ti140.sh :=
  row_ok (by kernel_rfl) rfl Try.underlying140 ⟨_, rfl, rfl⟩
theorem know_ty : ∀ t i, Γ t = some i → ∃ inf, Try.prog.info? t = some inf ∧ inf.size = i.size ∧ inf.bytes = i.bytes ∧ (∃ z, inf.zero = some z ∧ z.cells = i.zero.toArray) ∧ (∀ v ∈ i.zero, plainV v = true) ∧ ∃ d, Try.prog.underlying t = some d ∧ ShOk d i.sh := by
  intro t i h
  unfold Γ at h
  split at h
  · injection h with h; subst h; exact row3
  · injection h with h; subst h; exact row4
  · injection h with h; subst h; exact row5
  · injection h with h; subst h; exact row9
  · injection h with h; subst h; exact row22
  · injection h with h; subst h; exact row24
  · injection h with h; subst h; exact row25
  · injection h with h; subst h; exact row28
  · injection h with h; subst h; exact row30
  · injection h with h; subst h; exact row45
  · injection h with h; subst h; exact row53
  · injection h with h; subst h; exact row54
  · injection h with h; subst h; exact row58
  · injection h with h; subst h; exact row59
  · injection h with h; subst h; exact row61
  · injection h with h; subst h; exact row63
  · injection h with h; subst h; exact row69
  · injection h with h; subst h; exact row74
  · injection h with h; subst h; exact row75
  · injection h with h; subst h; exact row76
  · injection h with h; subst h; exact row78
  · injection h with h; subst h; exact row81
  · injection h with h; subst h; exact row96
  · injection h with h; subst h; exact row98
  · injection h with h; subst h; exact row104
  · injection h with h; subst h; exact row106
  · injection h with h; subst h; exact row116
  · injection h with h; subst h; exact row118
  · injection h with h; subst h; exact row120
  · injection h with h; subst h; exact row123
  · injection h with h; subst h; exact row126
  · injection h with h; subst h; exact row130
  · injection h with h; subst h; exact row140
  · cases h
theorem know : Know Try.prog Γ E := ⟨know_ty, fun t h => absurd rfl h, fun t h => absurd rfl h, by kernel_rfl⟩
@[go_sem] theorem fa_24_0 : fa Γ 24 0 = some 0 := nr rfl
@[go_sem] theorem fa_24_1 : fa Γ 24 1 = some 1 := nr rfl
@[go_sem] theorem fa_30_0 : fa Γ 30 0 = some 0 := nr rfl
@[go_sem] theorem fa_30_1 : fa Γ 30 1 = some 1 := nr rfl
@[go_sem] theorem fa_61_0 : fa Γ 61 0 = some 0 := nr rfl
@[go_sem] theorem fa_61_1 : fa Γ 61 1 = some 1 := nr rfl
@[go_sem] theorem fa_61_2 : fa Γ 61 2 = some 2 := nr rfl
@[go_sem] theorem fa_61_3 : fa Γ 61 3 = some 3 := nr rfl
@[go_sem] theorem fa_63_0 : fa Γ 63 0 = some 0 := nr rfl
@[go_sem] theorem fa_63_1 : fa Γ 63 1 = some 1 := nr rfl
@[go_sem] theorem fa_63_2 : fa Γ 63 2 = some 2 := nr rfl
@[go_sem] theorem fa_69_0 : fa Γ 69 0 = some 0 := nr rfl
@[go_sem] theorem fa_69_1 : fa Γ 69 1 = some 1 := nr rfl
@[go_sem] theorem fa_69_2 : fa Γ 69 2 = some 2 := nr rfl
@[go_sem] theorem fa_69_3 : fa Γ 69 3 = some 3 := nr rfl
@[go_sem] theorem fa_69_4 : fa Γ 69 4 = some 4 := nr rfl
@[go_sem] theorem fa_76_0 : fa Γ 76 0 = some 0 := nr rfl
@[go_sem] theorem fa_76_1 : fa Γ 76 1 = some 1 := nr rfl
@[go_sem] theorem fa_76_2 : fa Γ 76 2 = some 2 := nr rfl
@[go_sem] theorem fa_76_3 : fa Γ 76 3 = some 3 := nr rfl
@[go_sem] theorem fa_78_0 : fa Γ 78 0 = some 0 := nr rfl
@[go_sem] theorem fa_78_1 : fa Γ 78 1 = some 1 := nr rfl
@[go_sem] theorem fa_78_2 : fa Γ 78 2 = some 2 := nr rfl
@[go_sem] theorem fa_98_0 : fa Γ 98 0 = some 0 := nr rfl
@[go_sem] theorem fa_98_1 : fa Γ 98 1 = some 1 := nr rfl
@[go_sem] theorem fa_120_0 : fa Γ 120 0 = some 0 := nr rfl
@[go_sem] theorem fa_120_1 : fa Γ 120 1 = some 1 := nr rfl
@[go_sem] theorem fa_123_0 : fa Γ 123 0 = some 0 := nr rfl
@[go_sem] theorem fa_123_1 : fa Γ 123 1 = some 1 := nr rfl
@[go_sem] theorem fa_126_0 : fa Γ 126 0 = some 0 := nr rfl
@[go_sem] theorem fa_126_1 : fa Γ 126 1 = some 1 := nr rfl
@[go_sem] theorem fa_126_2 : fa Γ 126 2 = some 2 := nr rfl
@[go_sem] theorem fa_126_3 : fa Γ 126 3 = some 3 := nr rfl
@[go_sem] theorem fa_126_4 : fa Γ 126 4 = some 4 := nr rfl
@[go_sem] theorem fa_140_0 : fa Γ 140 0 = some 0 := nr rfl
@[go_sem] theorem fa_140_1 : fa Γ 140 1 = some 1 := nr rfl
@[go_sem] theorem ld_3 {n o : Nat} {h : Hp} : ldv Γ 3 (.pointer (some ⟨n, o, none⟩)) h = h.cell n o := nr rfl
@[go_sem] theorem sv_3 {n o : Nat} {x : Value} {h : Hp} : stv Γ 3 (.pointer (some ⟨n, o, none⟩)) x h = stC n o 1 x h := nr rfl
@[go_sem] theorem za_3 {nm : Nat} : (Γ 3).map (fun t => (Value.pointer (some ⟨nm, 0, none⟩), ({ cells := t.zero, rw := true } : Blk))) = some (.pointer (some ⟨nm, 0, none⟩), { cells := [Value.int IntKind.i64 0], rw := true }) := nr rfl
@[go_sem] theorem nb_4 {a b : Bool} : binV Γ E .neq 4 (.bool a) (.bool b) = some (.bool (!(a == b))) := nr rfl
@[go_sem] theorem eb_4 {a b : Bool} : binV Γ E .eql 4 (.bool a) (.bool b) = some (.bool (a == b)) := nr rfl
@[go_sem] theorem ld_4 {n o : Nat} {h : Hp} : ldv Γ 4 (.pointer (some ⟨n, o, none⟩)) h = h.cell n o := nr rfl
@[go_sem] theorem sv_4 {n o : Nat} {x : Value} {h : Hp} : stv Γ 4 (.pointer (some ⟨n, o, none⟩)) x h = stC n o 1 x h := nr rfl
@[go_sem] theorem za_4 {nm : Nat} : (Γ 4).map (fun t => (Value.pointer (some ⟨nm, 0, none⟩), ({ cells := t.zero, rw := true } : Blk))) = some (.pointer (some ⟨nm, 0, none⟩), { cells := [Value.bool false], rw := true }) := nr rfl
@[go_sem] theorem ld_5 {n o : Nat} {h : Hp} : ldv Γ 5 (.pointer (some ⟨n, o, none⟩)) h = h.cell n o := nr rfl
@[go_sem] theorem sv_5 {n o : Nat} {x : Value} {h : Hp} : stv Γ 5 (.pointer (some ⟨n, o, none⟩)) x h = stC n o 1 x h := nr rfl
@[go_sem] theorem za_5 {nm : Nat} : (Γ 5).map (fun t => (Value.pointer (some ⟨nm, 0, none⟩), ({ cells := t.zero, rw := true } : Blk))) = some (.pointer (some ⟨nm, 0, none⟩), { cells := [Value.int IntKind.u8 0], rw := true }) := nr rfl
@[go_sem] theorem st_9 : isStr Γ 9 = some true := nr rfl
@[go_sem] theorem ld_9 {n o : Nat} {h : Hp} : ldv Γ 9 (.pointer (some ⟨n, o, none⟩)) h = h.cell n o := nr rfl
@[go_sem] theorem sv_9 {n o : Nat} {x : Value} {h : Hp} : stv Γ 9 (.pointer (some ⟨n, o, none⟩)) x h = stC n o 1 x h := nr rfl
@[go_sem] theorem za_9 {nm : Nat} : (Γ 9).map (fun t => (Value.pointer (some ⟨nm, 0, none⟩), ({ cells := t.zero, rw := true } : Blk))) = some (.pointer (some ⟨nm, 0, none⟩), { cells := [Value.string ByteArray.empty], rw := true }) := nr rfl
@[go_sem] theorem es_22 : es Γ 22 = some 6 := nr rfl
@[go_sem] theorem st_22 : isStr Γ 22 = some false := nr rfl
theorem mk_22 {nm n : Nat} {kk k' : IntKind} (hn : n < 4294967296) : mkO Γ nm 22 (.int kk (n : Int)) (.int k' (n : Int)) = some (.slice (some ⟨nm, 0, none⟩) n (U 6), { cells := repZ [Value.slice none 0 0, Value.slice none 0 0, Value.int IntKind.i64 0, Value.int IntKind.i64 0, Value.int IntKind.i64 0, Value.int IntKind.i64 0] n, rw := true }) := mkO_ok (i1 := ti78) rfl rfl (by decide) rfl (by decide) hn
theorem bs_22 {C : Rel} {D : DrawR} {Q : Ex → S → Prop} {k : List Fr} {s : S} {base i : Nat} {l : List POp} {d : Option Nat} {len : Nat} {parts : Array (Nat × Operand)} : OpG Γ E C D Q base i (⟨d, none, .buildSlice 22 len parts⟩ :: l) k s = OpK Γ E C D Q base (i + 1) l k s d (base + i) (bsO (base + i) 6 [Value.slice none 0 0, Value.slice none 0 0, Value.int IntKind.i64 0, Value.int IntKind.i64 0, Value.int IntKind.i64 0, Value.int IntKind.i64 0] len (parts.toList.map fun p => (p.1, s.ev p.2))) := op_bs (i1 := ti78) rfl rfl rfl (by decide) rfl
theorem ap_22 {nm : Nat} {x y : Value} {h : Hp} : appendV Γ nm 22 22 x y h = apO 6 nm x h (apT 6 y h) := append_eq (i1 := ti78) rfl rfl (by decide) rfl (by decide) (by decide) rfl
attribute [go_sem] mk_22 bs_22 ap_22
@[go_sem] theorem nn_22 {a : Option Addr} {n c : Nat} : binV Γ E .neq 22 (.slice a n c) (.slice none 0 0) = some (.bool (!a.isNone)) := nr rfl
@[go_sem] theorem en_22 {a : Option Addr} {n c : Nat} : binV Γ E .eql 22 (.slice a n c) (.slice none 0 0) = some (.bool a.isNone) := nr rfl
@[go_sem] theorem ld_22 {n o : Nat} {h : Hp} : ldv Γ 22 (.pointer (some ⟨n, o, none⟩)) h = h.cell n o := nr rfl
@[go_sem] theorem sv_22 {n o : Nat} {x : Value} {h : Hp} : stv Γ 22 (.pointer (some ⟨n, o, none⟩)) x h = stC n o 1 x h := nr rfl
@[go_sem] theorem za_22 {nm : Nat} : (Γ 22).map (fun t => (Value.pointer (some ⟨nm, 0, none⟩), ({ cells := t.zero, rw := true } : Blk))) = some (.pointer (some ⟨nm, 0, none⟩), { cells := [Value.slice none 0 0], rw := true }) := nr rfl
@[go_sem] theorem ld_24 {n o : Nat} {h : Hp} : ldv Γ 24 (.pointer (some ⟨n, o, none⟩)) h = (h.cells n o 2).map fun cs => .agg cs.toArray := nr rfl
@[go_sem] theorem sv_24 {n o : Nat} {x : Value} {h : Hp} : stv Γ 24 (.pointer (some ⟨n, o, none⟩)) x h = stC n o 2 x h := nr rfl
@[go_sem] theorem za_24 {nm : Nat} : (Γ 24).map (fun t => (Value.pointer (some ⟨nm, 0, none⟩), ({ cells := t.zero, rw := true } : Blk))) = some (.pointer (some ⟨nm, 0, none⟩), { cells := [Value.slice none 0 0, Value.int IntKind.i64 0], rw := true }) := nr rfl
@[go_sem] theorem es_25 : es Γ 25 = some 1 := nr rfl
@[go_sem] theorem st_25 : isStr Γ 25 = some false := nr rfl
theorem mk_25 {nm n : Nat} {kk k' : IntKind} (hn : n < 4294967296) : mkO Γ nm 25 (.int kk (n : Int)) (.int k' (n : Int)) = some (.slice (some ⟨nm, 0, none⟩) n (U 1), { cells := repZ [Value.int IntKind.i64 0] n, rw := true }) := mkO_ok (i1 := ti3) rfl rfl (by decide) rfl (by decide) hn
theorem bs_25 {C : Rel} {D : DrawR} {Q : Ex → S → Prop} {k : List Fr} {s : S} {base i : Nat} {l : List POp} {d : Option Nat} {len : Nat} {parts : Array (Nat × Operand)} : OpG Γ E C D Q base i (⟨d, none, .buildSlice 25 len parts⟩ :: l) k s = OpK Γ E C D Q base (i + 1) l k s d (base + i) (bsO (base + i) 1 [Value.int IntKind.i64 0] len (parts.toList.map fun p => (p.1, s.ev p.2))) := op_bs (i1 := ti3) rfl rfl rfl (by decide) rfl
theorem ap_25 {nm : Nat} {x y : Value} {h : Hp} : appendV Γ nm 25 25 x y h = apO 1 nm x h (apT 1 y h) := append_eq (i1 := ti3) rfl rfl (by decide) rfl (by decide) (by decide) rfl
attribute [go_sem] mk_25 bs_25 ap_25
@[go_sem] theorem nn_25 {a : Option Addr} {n c : Nat} : binV Γ E .neq 25 (.slice a n c) (.slice none 0 0) = some (.bool (!a.isNone)) := nr rfl
@[go_sem] theorem en_25 {a : Option Addr} {n c : Nat} : binV Γ E .eql 25 (.slice a n c) (.slice none 0 0) = some (.bool a.isNone) := nr rfl
@[go_sem] theorem ld_25 {n o : Nat} {h : Hp} : ldv Γ 25 (.pointer (some ⟨n, o, none⟩)) h = h.cell n o := nr rfl
@[go_sem] theorem sv_25 {n o : Nat} {x : Value} {h : Hp} : stv Γ 25 (.pointer (some ⟨n, o, none⟩)) x h = stC n o 1 x h := nr rfl
@[go_sem] theorem za_25 {nm : Nat} : (Γ 25).map (fun t => (Value.pointer (some ⟨nm, 0, none⟩), ({ cells := t.zero, rw := true } : Blk))) = some (.pointer (some ⟨nm, 0, none⟩), { cells := [Value.slice none 0 0], rw := true }) := nr rfl
@[go_sem] theorem es_28 : es Γ 28 = some 6 := nr rfl
@[go_sem] theorem st_28 : isStr Γ 28 = some false := nr rfl
theorem mk_28 {nm n : Nat} {kk k' : IntKind} (hn : n < 4294967296) : mkO Γ nm 28 (.int kk (n : Int)) (.int k' (n : Int)) = some (.slice (some ⟨nm, 0, none⟩) n (U 6), { cells := repZ [Value.slice none 0 0, Value.slice none 0 0, Value.int IntKind.i64 0, Value.int IntKind.i64 0, Value.int IntKind.i64 0, Value.int IntKind.i64 0] n, rw := true }) := mkO_ok (i1 := ti63) rfl rfl (by decide) rfl (by decide) hn
theorem bs_28 {C : Rel} {D : DrawR} {Q : Ex → S → Prop} {k : List Fr} {s : S} {base i : Nat} {l : List POp} {d : Option Nat} {len : Nat} {parts : Array (Nat × Operand)} : OpG Γ E C D Q base i (⟨d, none, .buildSlice 28 len parts⟩ :: l) k s = OpK Γ E C D Q base (i + 1) l k s d (base + i) (bsO (base + i) 6 [Value.slice none 0 0, Value.slice none 0 0, Value.int IntKind.i64 0, Value.int IntKind.i64 0, Value.int IntKind.i64 0, Value.int IntKind.i64 0] len (parts.toList.map fun p => (p.1, s.ev p.2))) := op_bs (i1 := ti63) rfl rfl rfl (by decide) rfl
theorem ap_28 {nm : Nat} {x y : Value} {h : Hp} : appendV Γ nm 28 28 x y h = apO 6 nm x h (apT 6 y h) := append_eq (i1 := ti63) rfl rfl (by decide) rfl (by decide) (by decide) rfl
attribute [go_sem] mk_28 bs_28 ap_28
@[go_sem] theorem nn_28 {a : Option Addr} {n c : Nat} : binV Γ E .neq 28 (.slice a n c) (.slice none 0 0) = some (.bool (!a.isNone)) := nr rfl
@[go_sem] theorem en_28 {a : Option Addr} {n c : Nat} : binV Γ E .eql 28 (.slice a n c) (.slice none 0 0) = some (.bool a.isNone) := nr rfl
@[go_sem] theorem ld_28 {n o : Nat} {h : Hp} : ldv Γ 28 (.pointer (some ⟨n, o, none⟩)) h = h.cell n o := nr rfl
@[go_sem] theorem sv_28 {n o : Nat} {x : Value} {h : Hp} : stv Γ 28 (.pointer (some ⟨n, o, none⟩)) x h = stC n o 1 x h := nr rfl
@[go_sem] theorem za_28 {nm : Nat} : (Γ 28).map (fun t => (Value.pointer (some ⟨nm, 0, none⟩), ({ cells := t.zero, rw := true } : Blk))) = some (.pointer (some ⟨nm, 0, none⟩), { cells := [Value.slice none 0 0], rw := true }) := nr rfl
@[go_sem] theorem ld_30 {n o : Nat} {h : Hp} : ldv Γ 30 (.pointer (some ⟨n, o, none⟩)) h = (h.cells n o 2).map fun cs => .agg cs.toArray := nr rfl
@[go_sem] theorem sv_30 {n o : Nat} {x : Value} {h : Hp} : stv Γ 30 (.pointer (some ⟨n, o, none⟩)) x h = stC n o 2 x h := nr rfl
@[go_sem] theorem za_30 {nm : Nat} : (Γ 30).map (fun t => (Value.pointer (some ⟨nm, 0, none⟩), ({ cells := t.zero, rw := true } : Blk))) = some (.pointer (some ⟨nm, 0, none⟩), { cells := [Value.slice none 0 0, Value.int IntKind.i64 0], rw := true }) := nr rfl
@[go_sem] theorem es_45 : es Γ 45 = some 1 := nr rfl
@[go_sem] theorem st_45 : isStr Γ 45 = some false := nr rfl
theorem mk_45 {nm n : Nat} {kk k' : IntKind} (hn : n < 4294967296) : mkO Γ nm 45 (.int kk (n : Int)) (.int k' (n : Int)) = some (.slice (some ⟨nm, 0, none⟩) n (U 1), { cells := repZ [Value.slice none 0 0] n, rw := true }) := mkO_ok (i1 := ti54) rfl rfl (by decide) rfl (by decide) hn
theorem bs_45 {C : Rel} {D : DrawR} {Q : Ex → S → Prop} {k : List Fr} {s : S} {base i : Nat} {l : List POp} {d : Option Nat} {len : Nat} {parts : Array (Nat × Operand)} : OpG Γ E C D Q base i (⟨d, none, .buildSlice 45 len parts⟩ :: l) k s = OpK Γ E C D Q base (i + 1) l k s d (base + i) (bsO (base + i) 1 [Value.slice none 0 0] len (parts.toList.map fun p => (p.1, s.ev p.2))) := op_bs (i1 := ti54) rfl rfl rfl (by decide) rfl
theorem ap_45 {nm : Nat} {x y : Value} {h : Hp} : appendV Γ nm 45 45 x y h = apO 1 nm x h (apT 1 y h) := append_eq (i1 := ti54) rfl rfl (by decide) rfl (by decide) (by decide) rfl
attribute [go_sem] mk_45 bs_45 ap_45
@[go_sem] theorem nn_45 {a : Option Addr} {n c : Nat} : binV Γ E .neq 45 (.slice a n c) (.slice none 0 0) = some (.bool (!a.isNone)) := nr rfl
@[go_sem] theorem en_45 {a : Option Addr} {n c : Nat} : binV Γ E .eql 45 (.slice a n c) (.slice none 0 0) = some (.bool a.isNone) := nr rfl
@[go_sem] theorem ld_45 {n o : Nat} {h : Hp} : ldv Γ 45 (.pointer (some ⟨n, o, none⟩)) h = h.cell n o := nr rfl
@[go_sem] theorem sv_45 {n o : Nat} {x : Value} {h : Hp} : stv Γ 45 (.pointer (some ⟨n, o, none⟩)) x h = stC n o 1 x h := nr rfl
@[go_sem] theorem za_45 {nm : Nat} : (Γ 45).map (fun t => (Value.pointer (some ⟨nm, 0, none⟩), ({ cells := t.zero, rw := true } : Blk))) = some (.pointer (some ⟨nm, 0, none⟩), { cells := [Value.slice none 0 0], rw := true }) := nr rfl
@[go_sem] theorem ld_53 {n o : Nat} {h : Hp} : ldv Γ 53 (.pointer (some ⟨n, o, none⟩)) h = h.cell n o := nr rfl
@[go_sem] theorem sv_53 {n o : Nat} {x : Value} {h : Hp} : stv Γ 53 (.pointer (some ⟨n, o, none⟩)) x h = stC n o 1 x h := nr rfl
@[go_sem] theorem za_53 {nm : Nat} : (Γ 53).map (fun t => (Value.pointer (some ⟨nm, 0, none⟩), ({ cells := t.zero, rw := true } : Blk))) = some (.pointer (some ⟨nm, 0, none⟩), { cells := [Value.nilFunc], rw := true }) := nr rfl
@[go_sem] theorem es_54 : es Γ 54 = some 1 := nr rfl
@[go_sem] theorem st_54 : isStr Γ 54 = some false := nr rfl
theorem mk_54 {nm n : Nat} {kk k' : IntKind} (hn : n < 4294967296) : mkO Γ nm 54 (.int kk (n : Int)) (.int k' (n : Int)) = some (.slice (some ⟨nm, 0, none⟩) n (U 1), { cells := repZ [Value.bool false] n, rw := true }) := mkO_ok (i1 := ti4) rfl rfl (by decide) rfl (by decide) hn
theorem bs_54 {C : Rel} {D : DrawR} {Q : Ex → S → Prop} {k : List Fr} {s : S} {base i : Nat} {l : List POp} {d : Option Nat} {len : Nat} {parts : Array (Nat × Operand)} : OpG Γ E C D Q base i (⟨d, none, .buildSlice 54 len parts⟩ :: l) k s = OpK Γ E C D Q base (i + 1) l k s d (base + i) (bsO (base + i) 1 [Value.bool false] len (parts.toList.map fun p => (p.1, s.ev p.2))) := op_bs (i1 := ti4) rfl rfl rfl (by decide) rfl
theorem ap_54 {nm : Nat} {x y : Value} {h : Hp} : appendV Γ nm 54 54 x y h = apO 1 nm x h (apT 1 y h) := append_eq (i1 := ti4) rfl rfl (by decide) rfl (by decide) (by decide) rfl
attribute [go_sem] mk_54 bs_54 ap_54
@[go_sem] theorem nn_54 {a : Option Addr} {n c : Nat} : binV Γ E .neq 54 (.slice a n c) (.slice none 0 0) = some (.bool (!a.isNone)) := nr rfl
@[go_sem] theorem en_54 {a : Option Addr} {n c : Nat} : binV Γ E .eql 54 (.slice a n c) (.slice none 0 0) = some (.bool a.isNone) := nr rfl
@[go_sem] theorem ld_54 {n o : Nat} {h : Hp} : ldv Γ 54 (.pointer (some ⟨n, o, none⟩)) h = h.cell n o := nr rfl
@[go_sem] theorem sv_54 {n o : Nat} {x : Value} {h : Hp} : stv Γ 54 (.pointer (some ⟨n, o, none⟩)) x h = stC n o 1 x h := nr rfl
@[go_sem] theorem za_54 {nm : Nat} : (Γ 54).map (fun t => (Value.pointer (some ⟨nm, 0, none⟩), ({ cells := t.zero, rw := true } : Blk))) = some (.pointer (some ⟨nm, 0, none⟩), { cells := [Value.slice none 0 0], rw := true }) := nr rfl
@[go_sem] theorem es_58 : es Γ 58 = some 2 := nr rfl
@[go_sem] theorem st_58 : isStr Γ 58 = some false := nr rfl
theorem mk_58 {nm n : Nat} {kk k' : IntKind} (hn : n < 4294967296) : mkO Γ nm 58 (.int kk (n : Int)) (.int k' (n : Int)) = some (.slice (some ⟨nm, 0, none⟩) n (U 2), { cells := repZ [Value.int IntKind.i64 0, Value.slice none 0 0] n, rw := true }) := mkO_ok (i1 := ti98) rfl rfl (by decide) rfl (by decide) hn
theorem bs_58 {C : Rel} {D : DrawR} {Q : Ex → S → Prop} {k : List Fr} {s : S} {base i : Nat} {l : List POp} {d : Option Nat} {len : Nat} {parts : Array (Nat × Operand)} : OpG Γ E C D Q base i (⟨d, none, .buildSlice 58 len parts⟩ :: l) k s = OpK Γ E C D Q base (i + 1) l k s d (base + i) (bsO (base + i) 2 [Value.int IntKind.i64 0, Value.slice none 0 0] len (parts.toList.map fun p => (p.1, s.ev p.2))) := op_bs (i1 := ti98) rfl rfl rfl (by decide) rfl
theorem ap_58 {nm : Nat} {x y : Value} {h : Hp} : appendV Γ nm 58 58 x y h = apO 2 nm x h (apT 2 y h) := append_eq (i1 := ti98) rfl rfl (by decide) rfl (by decide) (by decide) rfl
attribute [go_sem] mk_58 bs_58 ap_58
@[go_sem] theorem nn_58 {a : Option Addr} {n c : Nat} : binV Γ E .neq 58 (.slice a n c) (.slice none 0 0) = some (.bool (!a.isNone)) := nr rfl
@[go_sem] theorem en_58 {a : Option Addr} {n c : Nat} : binV Γ E .eql 58 (.slice a n c) (.slice none 0 0) = some (.bool a.isNone) := nr rfl
@[go_sem] theorem ld_58 {n o : Nat} {h : Hp} : ldv Γ 58 (.pointer (some ⟨n, o, none⟩)) h = h.cell n o := nr rfl
@[go_sem] theorem sv_58 {n o : Nat} {x : Value} {h : Hp} : stv Γ 58 (.pointer (some ⟨n, o, none⟩)) x h = stC n o 1 x h := nr rfl
@[go_sem] theorem za_58 {nm : Nat} : (Γ 58).map (fun t => (Value.pointer (some ⟨nm, 0, none⟩), ({ cells := t.zero, rw := true } : Blk))) = some (.pointer (some ⟨nm, 0, none⟩), { cells := [Value.slice none 0 0], rw := true }) := nr rfl
@[go_sem] theorem es_59 : es Γ 59 = some 5 := nr rfl
@[go_sem] theorem st_59 : isStr Γ 59 = some false := nr rfl
theorem mk_59 {nm n : Nat} {kk k' : IntKind} (hn : n < 4294967296) : mkO Γ nm 59 (.int kk (n : Int)) (.int k' (n : Int)) = some (.slice (some ⟨nm, 0, none⟩) n (U 5), { cells := repZ [Value.int IntKind.i64 0, Value.int IntKind.i64 0, Value.int IntKind.i64 0, Value.int IntKind.i64 0, Value.int IntKind.i64 0] n, rw := true }) := mkO_ok (i1 := ti69) rfl rfl (by decide) rfl (by decide) hn
theorem bs_59 {C : Rel} {D : DrawR} {Q : Ex → S → Prop} {k : List Fr} {s : S} {base i : Nat} {l : List POp} {d : Option Nat} {len : Nat} {parts : Array (Nat × Operand)} : OpG Γ E C D Q base i (⟨d, none, .buildSlice 59 len parts⟩ :: l) k s = OpK Γ E C D Q base (i + 1) l k s d (base + i) (bsO (base + i) 5 [Value.int IntKind.i64 0, Value.int IntKind.i64 0, Value.int IntKind.i64 0, Value.int IntKind.i64 0, Value.int IntKind.i64 0] len (parts.toList.map fun p => (p.1, s.ev p.2))) := op_bs (i1 := ti69) rfl rfl rfl (by decide) rfl
theorem ap_59 {nm : Nat} {x y : Value} {h : Hp} : appendV Γ nm 59 59 x y h = apO 5 nm x h (apT 5 y h) := append_eq (i1 := ti69) rfl rfl (by decide) rfl (by decide) (by decide) rfl
attribute [go_sem] mk_59 bs_59 ap_59
@[go_sem] theorem nn_59 {a : Option Addr} {n c : Nat} : binV Γ E .neq 59 (.slice a n c) (.slice none 0 0) = some (.bool (!a.isNone)) := nr rfl
@[go_sem] theorem en_59 {a : Option Addr} {n c : Nat} : binV Γ E .eql 59 (.slice a n c) (.slice none 0 0) = some (.bool a.isNone) := nr rfl
@[go_sem] theorem ld_59 {n o : Nat} {h : Hp} : ldv Γ 59 (.pointer (some ⟨n, o, none⟩)) h = h.cell n o := nr rfl
@[go_sem] theorem sv_59 {n o : Nat} {x : Value} {h : Hp} : stv Γ 59 (.pointer (some ⟨n, o, none⟩)) x h = stC n o 1 x h := nr rfl
@[go_sem] theorem za_59 {nm : Nat} : (Γ 59).map (fun t => (Value.pointer (some ⟨nm, 0, none⟩), ({ cells := t.zero, rw := true } : Blk))) = some (.pointer (some ⟨nm, 0, none⟩), { cells := [Value.slice none 0 0], rw := true }) := nr rfl
@[go_sem] theorem ld_61 {n o : Nat} {h : Hp} : ldv Γ 61 (.pointer (some ⟨n, o, none⟩)) h = (h.cells n o 4).map fun cs => .agg cs.toArray := nr rfl
@[go_sem] theorem sv_61 {n o : Nat} {x : Value} {h : Hp} : stv Γ 61 (.pointer (some ⟨n, o, none⟩)) x h = stC n o 4 x h := nr rfl
@[go_sem] theorem za_61 {nm : Nat} : (Γ 61).map (fun t => (Value.pointer (some ⟨nm, 0, none⟩), ({ cells := t.zero, rw := true } : Blk))) = some (.pointer (some ⟨nm, 0, none⟩), { cells := [Value.int IntKind.i64 0, Value.int IntKind.i64 0, Value.int IntKind.i64 0, Value.int IntKind.i64 0], rw := true }) := nr rfl
@[go_sem] theorem ld_63 {n o : Nat} {h : Hp} : ldv Γ 63 (.pointer (some ⟨n, o, none⟩)) h = (h.cells n o 6).map fun cs => .agg cs.toArray := nr rfl
@[go_sem] theorem sv_63 {n o : Nat} {x : Value} {h : Hp} : stv Γ 63 (.pointer (some ⟨n, o, none⟩)) x h = stC n o 6 x h := nr rfl
@[go_sem] theorem za_63 {nm : Nat} : (Γ 63).map (fun t => (Value.pointer (some ⟨nm, 0, none⟩), ({ cells := t.zero, rw := true } : Blk))) = some (.pointer (some ⟨nm, 0, none⟩), { cells := [Value.slice none 0 0, Value.slice none 0 0, Value.int IntKind.i64 0, Value.int IntKind.i64 0, Value.int IntKind.i64 0, Value.int IntKind.i64 0], rw := true }) := nr rfl
@[go_sem] theorem ld_69 {n o : Nat} {h : Hp} : ldv Γ 69 (.pointer (some ⟨n, o, none⟩)) h = (h.cells n o 5).map fun cs => .agg cs.toArray := nr rfl
@[go_sem] theorem sv_69 {n o : Nat} {x : Value} {h : Hp} : stv Γ 69 (.pointer (some ⟨n, o, none⟩)) x h = stC n o 5 x h := nr rfl
@[go_sem] theorem za_69 {nm : Nat} : (Γ 69).map (fun t => (Value.pointer (some ⟨nm, 0, none⟩), ({ cells := t.zero, rw := true } : Blk))) = some (.pointer (some ⟨nm, 0, none⟩), { cells := [Value.int IntKind.i64 0, Value.int IntKind.i64 0, Value.int IntKind.i64 0, Value.int IntKind.i64 0, Value.int IntKind.i64 0], rw := true }) := nr rfl
@[go_sem] theorem es_74 : es Γ 74 = some 2 := nr rfl
@[go_sem] theorem st_74 : isStr Γ 74 = some false := nr rfl
theorem mk_74 {nm n : Nat} {kk k' : IntKind} (hn : n < 4294967296) : mkO Γ nm 74 (.int kk (n : Int)) (.int k' (n : Int)) = some (.slice (some ⟨nm, 0, none⟩) n (U 2), { cells := repZ [Value.int IntKind.i64 0, Value.slice none 0 0] n, rw := true }) := mkO_ok (i1 := ti120) rfl rfl (by decide) rfl (by decide) hn
theorem bs_74 {C : Rel} {D : DrawR} {Q : Ex → S → Prop} {k : List Fr} {s : S} {base i : Nat} {l : List POp} {d : Option Nat} {len : Nat} {parts : Array (Nat × Operand)} : OpG Γ E C D Q base i (⟨d, none, .buildSlice 74 len parts⟩ :: l) k s = OpK Γ E C D Q base (i + 1) l k s d (base + i) (bsO (base + i) 2 [Value.int IntKind.i64 0, Value.slice none 0 0] len (parts.toList.map fun p => (p.1, s.ev p.2))) := op_bs (i1 := ti120) rfl rfl rfl (by decide) rfl
theorem ap_74 {nm : Nat} {x y : Value} {h : Hp} : appendV Γ nm 74 74 x y h = apO 2 nm x h (apT 2 y h) := append_eq (i1 := ti120) rfl rfl (by decide) rfl (by decide) (by decide) rfl
attribute [go_sem] mk_74 bs_74 ap_74
@[go_sem] theorem nn_74 {a : Option Addr} {n c : Nat} : binV Γ E .neq 74 (.slice a n c) (.slice none 0 0) = some (.bool (!a.isNone)) := nr rfl
@[go_sem] theorem en_74 {a : Option Addr} {n c : Nat} : binV Γ E .eql 74 (.slice a n c) (.slice none 0 0) = some (.bool a.isNone) := nr rfl
@[go_sem] theorem ld_74 {n o : Nat} {h : Hp} : ldv Γ 74 (.pointer (some ⟨n, o, none⟩)) h = h.cell n o := nr rfl
@[go_sem] theorem sv_74 {n o : Nat} {x : Value} {h : Hp} : stv Γ 74 (.pointer (some ⟨n, o, none⟩)) x h = stC n o 1 x h := nr rfl
@[go_sem] theorem za_74 {nm : Nat} : (Γ 74).map (fun t => (Value.pointer (some ⟨nm, 0, none⟩), ({ cells := t.zero, rw := true } : Blk))) = some (.pointer (some ⟨nm, 0, none⟩), { cells := [Value.slice none 0 0], rw := true }) := nr rfl
@[go_sem] theorem es_75 : es Γ 75 = some 5 := nr rfl
@[go_sem] theorem st_75 : isStr Γ 75 = some false := nr rfl
theorem mk_75 {nm n : Nat} {kk k' : IntKind} (hn : n < 4294967296) : mkO Γ nm 75 (.int kk (n : Int)) (.int k' (n : Int)) = some (.slice (some ⟨nm, 0, none⟩) n (U 5), { cells := repZ [Value.int IntKind.i64 0, Value.int IntKind.i64 0, Value.int IntKind.i64 0, Value.int IntKind.i64 0, Value.int IntKind.i64 0] n, rw := true }) := mkO_ok (i1 := ti126) rfl rfl (by decide) rfl (by decide) hn
theorem bs_75 {C : Rel} {D : DrawR} {Q : Ex → S → Prop} {k : List Fr} {s : S} {base i : Nat} {l : List POp} {d : Option Nat} {len : Nat} {parts : Array (Nat × Operand)} : OpG Γ E C D Q base i (⟨d, none, .buildSlice 75 len parts⟩ :: l) k s = OpK Γ E C D Q base (i + 1) l k s d (base + i) (bsO (base + i) 5 [Value.int IntKind.i64 0, Value.int IntKind.i64 0, Value.int IntKind.i64 0, Value.int IntKind.i64 0, Value.int IntKind.i64 0] len (parts.toList.map fun p => (p.1, s.ev p.2))) := op_bs (i1 := ti126) rfl rfl rfl (by decide) rfl
theorem ap_75 {nm : Nat} {x y : Value} {h : Hp} : appendV Γ nm 75 75 x y h = apO 5 nm x h (apT 5 y h) := append_eq (i1 := ti126) rfl rfl (by decide) rfl (by decide) (by decide) rfl
attribute [go_sem] mk_75 bs_75 ap_75
@[go_sem] theorem nn_75 {a : Option Addr} {n c : Nat} : binV Γ E .neq 75 (.slice a n c) (.slice none 0 0) = some (.bool (!a.isNone)) := nr rfl
@[go_sem] theorem en_75 {a : Option Addr} {n c : Nat} : binV Γ E .eql 75 (.slice a n c) (.slice none 0 0) = some (.bool a.isNone) := nr rfl
@[go_sem] theorem ld_75 {n o : Nat} {h : Hp} : ldv Γ 75 (.pointer (some ⟨n, o, none⟩)) h = h.cell n o := nr rfl
@[go_sem] theorem sv_75 {n o : Nat} {x : Value} {h : Hp} : stv Γ 75 (.pointer (some ⟨n, o, none⟩)) x h = stC n o 1 x h := nr rfl
@[go_sem] theorem za_75 {nm : Nat} : (Γ 75).map (fun t => (Value.pointer (some ⟨nm, 0, none⟩), ({ cells := t.zero, rw := true } : Blk))) = some (.pointer (some ⟨nm, 0, none⟩), { cells := [Value.slice none 0 0], rw := true }) := nr rfl
@[go_sem] theorem ld_76 {n o : Nat} {h : Hp} : ldv Γ 76 (.pointer (some ⟨n, o, none⟩)) h = (h.cells n o 4).map fun cs => .agg cs.toArray := nr rfl
@[go_sem] theorem sv_76 {n o : Nat} {x : Value} {h : Hp} : stv Γ 76 (.pointer (some ⟨n, o, none⟩)) x h = stC n o 4 x h := nr rfl
@[go_sem] theorem za_76 {nm : Nat} : (Γ 76).map (fun t => (Value.pointer (some ⟨nm, 0, none⟩), ({ cells := t.zero, rw := true } : Blk))) = some (.pointer (some ⟨nm, 0, none⟩), { cells := [Value.int IntKind.i64 0, Value.int IntKind.i64 0, Value.int IntKind.i64 0, Value.int IntKind.i64 0], rw := true }) := nr rfl
@[go_sem] theorem ld_78 {n o : Nat} {h : Hp} : ldv Γ 78 (.pointer (some ⟨n, o, none⟩)) h = (h.cells n o 6).map fun cs => .agg cs.toArray := nr rfl
@[go_sem] theorem sv_78 {n o : Nat} {x : Value} {h : Hp} : stv Γ 78 (.pointer (some ⟨n, o, none⟩)) x h = stC n o 6 x h := nr rfl
@[go_sem] theorem za_78 {nm : Nat} : (Γ 78).map (fun t => (Value.pointer (some ⟨nm, 0, none⟩), ({ cells := t.zero, rw := true } : Blk))) = some (.pointer (some ⟨nm, 0, none⟩), { cells := [Value.slice none 0 0, Value.slice none 0 0, Value.int IntKind.i64 0, Value.int IntKind.i64 0, Value.int IntKind.i64 0, Value.int IntKind.i64 0], rw := true }) := nr rfl
@[go_sem] theorem ld_81 {n o : Nat} {h : Hp} : ldv Γ 81 (.pointer (some ⟨n, o, none⟩)) h = h.cell n o := nr rfl
@[go_sem] theorem sv_81 {n o : Nat} {x : Value} {h : Hp} : stv Γ 81 (.pointer (some ⟨n, o, none⟩)) x h = stC n o 1 x h := nr rfl
@[go_sem] theorem za_81 {nm : Nat} : (Γ 81).map (fun t => (Value.pointer (some ⟨nm, 0, none⟩), ({ cells := t.zero, rw := true } : Blk))) = some (.pointer (some ⟨nm, 0, none⟩), { cells := [Value.nilFunc], rw := true }) := nr rfl
@[go_sem] theorem es_96 : es Γ 96 = some 2 := nr rfl
@[go_sem] theorem st_96 : isStr Γ 96 = some false := nr rfl
theorem mk_96 {nm n : Nat} {kk k' : IntKind} (hn : n < 4294967296) : mkO Γ nm 96 (.int kk (n : Int)) (.int k' (n : Int)) = some (.slice (some ⟨nm, 0, none⟩) n (U 2), { cells := repZ [Value.int IntKind.i64 0, Value.int IntKind.i64 0] n, rw := true }) := mkO_ok (i1 := ti123) rfl rfl (by decide) rfl (by decide) hn
theorem bs_96 {C : Rel} {D : DrawR} {Q : Ex → S → Prop} {k : List Fr} {s : S} {base i : Nat} {l : List POp} {d : Option Nat} {len : Nat} {parts : Array (Nat × Operand)} : OpG Γ E C D Q base i (⟨d, none, .buildSlice 96 len parts⟩ :: l) k s = OpK Γ E C D Q base (i + 1) l k s d (base + i) (bsO (base + i) 2 [Value.int IntKind.i64 0, Value.int IntKind.i64 0] len (parts.toList.map fun p => (p.1, s.ev p.2))) := op_bs (i1 := ti123) rfl rfl rfl (by decide) rfl
theorem ap_96 {nm : Nat} {x y : Value} {h : Hp} : appendV Γ nm 96 96 x y h = apO 2 nm x h (apT 2 y h) := append_eq (i1 := ti123) rfl rfl (by decide) rfl (by decide) (by decide) rfl
attribute [go_sem] mk_96 bs_96 ap_96
@[go_sem] theorem nn_96 {a : Option Addr} {n c : Nat} : binV Γ E .neq 96 (.slice a n c) (.slice none 0 0) = some (.bool (!a.isNone)) := nr rfl
@[go_sem] theorem en_96 {a : Option Addr} {n c : Nat} : binV Γ E .eql 96 (.slice a n c) (.slice none 0 0) = some (.bool a.isNone) := nr rfl
@[go_sem] theorem ld_96 {n o : Nat} {h : Hp} : ldv Γ 96 (.pointer (some ⟨n, o, none⟩)) h = h.cell n o := nr rfl
@[go_sem] theorem sv_96 {n o : Nat} {x : Value} {h : Hp} : stv Γ 96 (.pointer (some ⟨n, o, none⟩)) x h = stC n o 1 x h := nr rfl
@[go_sem] theorem za_96 {nm : Nat} : (Γ 96).map (fun t => (Value.pointer (some ⟨nm, 0, none⟩), ({ cells := t.zero, rw := true } : Blk))) = some (.pointer (some ⟨nm, 0, none⟩), { cells := [Value.slice none 0 0], rw := true }) := nr rfl
@[go_sem] theorem ld_98 {n o : Nat} {h : Hp} : ldv Γ 98 (.pointer (some ⟨n, o, none⟩)) h = (h.cells n o 2).map fun cs => .agg cs.toArray := nr rfl
@[go_sem] theorem sv_98 {n o : Nat} {x : Value} {h : Hp} : stv Γ 98 (.pointer (some ⟨n, o, none⟩)) x h = stC n o 2 x h := nr rfl
@[go_sem] theorem za_98 {nm : Nat} : (Γ 98).map (fun t => (Value.pointer (some ⟨nm, 0, none⟩), ({ cells := t.zero, rw := true } : Blk))) = some (.pointer (some ⟨nm, 0, none⟩), { cells := [Value.int IntKind.i64 0, Value.slice none 0 0], rw := true }) := nr rfl
@[go_sem] theorem ld_104 {n o : Nat} {h : Hp} : ldv Γ 104 (.pointer (some ⟨n, o, none⟩)) h = h.cell n o := nr rfl
@[go_sem] theorem sv_104 {n o : Nat} {x : Value} {h : Hp} : stv Γ 104 (.pointer (some ⟨n, o, none⟩)) x h = stC n o 1 x h := nr rfl
@[go_sem] theorem za_104 {nm : Nat} : (Γ 104).map (fun t => (Value.pointer (some ⟨nm, 0, none⟩), ({ cells := t.zero, rw := true } : Blk))) = some (.pointer (some ⟨nm, 0, none⟩), { cells := [Value.nilFunc], rw := true }) := nr rfl
@[go_sem] theorem ld_106 {n o : Nat} {h : Hp} : ldv Γ 106 (.pointer (some ⟨n, o, none⟩)) h = h.cell n o := nr rfl
@[go_sem] theorem sv_106 {n o : Nat} {x : Value} {h : Hp} : stv Γ 106 (.pointer (some ⟨n, o, none⟩)) x h = stC n o 1 x h := nr rfl
@[go_sem] theorem za_106 {nm : Nat} : (Γ 106).map (fun t => (Value.pointer (some ⟨nm, 0, none⟩), ({ cells := t.zero, rw := true } : Blk))) = some (.pointer (some ⟨nm, 0, none⟩), { cells := [Value.nilFunc], rw := true }) := nr rfl
@[go_sem] theorem es_116 : es Γ 116 = some 1 := nr rfl
@[go_sem] theorem st_116 : isStr Γ 116 = some false := nr rfl
theorem mk_116 {nm n : Nat} {kk k' : IntKind} (hn : n < 4294967296) : mkO Γ nm 116 (.int kk (n : Int)) (.int k' (n : Int)) = some (.slice (some ⟨nm, 0, none⟩) n (U 1), { cells := repZ [Value.int IntKind.u8 0] n, rw := true }) := mkO_ok (i1 := ti5) rfl rfl (by decide) rfl (by decide) hn
theorem bs_116 {C : Rel} {D : DrawR} {Q : Ex → S → Prop} {k : List Fr} {s : S} {base i : Nat} {l : List POp} {d : Option Nat} {len : Nat} {parts : Array (Nat × Operand)} : OpG Γ E C D Q base i (⟨d, none, .buildSlice 116 len parts⟩ :: l) k s = OpK Γ E C D Q base (i + 1) l k s d (base + i) (bsO (base + i) 1 [Value.int IntKind.u8 0] len (parts.toList.map fun p => (p.1, s.ev p.2))) := op_bs (i1 := ti5) rfl rfl rfl (by decide) rfl
theorem ap_116 {nm : Nat} {x y : Value} {h : Hp} : appendV Γ nm 116 116 x y h = apO 1 nm x h (apT 1 y h) := append_eq (i1 := ti5) rfl rfl (by decide) rfl (by decide) (by decide) rfl
attribute [go_sem] mk_116 bs_116 ap_116
@[go_sem] theorem nn_116 {a : Option Addr} {n c : Nat} : binV Γ E .neq 116 (.slice a n c) (.slice none 0 0) = some (.bool (!a.isNone)) := nr rfl
@[go_sem] theorem en_116 {a : Option Addr} {n c : Nat} : binV Γ E .eql 116 (.slice a n c) (.slice none 0 0) = some (.bool a.isNone) := nr rfl
@[go_sem] theorem ld_116 {n o : Nat} {h : Hp} : ldv Γ 116 (.pointer (some ⟨n, o, none⟩)) h = h.cell n o := nr rfl
@[go_sem] theorem sv_116 {n o : Nat} {x : Value} {h : Hp} : stv Γ 116 (.pointer (some ⟨n, o, none⟩)) x h = stC n o 1 x h := nr rfl
@[go_sem] theorem za_116 {nm : Nat} : (Γ 116).map (fun t => (Value.pointer (some ⟨nm, 0, none⟩), ({ cells := t.zero, rw := true } : Blk))) = some (.pointer (some ⟨nm, 0, none⟩), { cells := [Value.slice none 0 0], rw := true }) := nr rfl
@[go_sem] theorem es_118 : es Γ 118 = some 2 := nr rfl
@[go_sem] theorem st_118 : isStr Γ 118 = some false := nr rfl
theorem mk_118 {nm n : Nat} {kk k' : IntKind} (hn : n < 4294967296) : mkO Γ nm 118 (.int kk (n : Int)) (.int k' (n : Int)) = some (.slice (some ⟨nm, 0, none⟩) n (U 2), { cells := repZ [Value.int IntKind.i64 0, Value.int IntKind.i64 0] n, rw := true }) := mkO_ok (i1 := ti140) rfl rfl (by decide) rfl (by decide) hn
theorem bs_118 {C : Rel} {D : DrawR} {Q : Ex → S → Prop} {k : List Fr} {s : S} {base i : Nat} {l : List POp} {d : Option Nat} {len : Nat} {parts : Array (Nat × Operand)} : OpG Γ E C D Q base i (⟨d, none, .buildSlice 118 len parts⟩ :: l) k s = OpK Γ E C D Q base (i + 1) l k s d (base + i) (bsO (base + i) 2 [Value.int IntKind.i64 0, Value.int IntKind.i64 0] len (parts.toList.map fun p => (p.1, s.ev p.2))) := op_bs (i1 := ti140) rfl rfl rfl (by decide) rfl
theorem ap_118 {nm : Nat} {x y : Value} {h : Hp} : appendV Γ nm 118 118 x y h = apO 2 nm x h (apT 2 y h) := append_eq (i1 := ti140) rfl rfl (by decide) rfl (by decide) (by decide) rfl
attribute [go_sem] mk_118 bs_118 ap_118
@[go_sem] theorem nn_118 {a : Option Addr} {n c : Nat} : binV Γ E .neq 118 (.slice a n c) (.slice none 0 0) = some (.bool (!a.isNone)) := nr rfl
@[go_sem] theorem en_118 {a : Option Addr} {n c : Nat} : binV Γ E .eql 118 (.slice a n c) (.slice none 0 0) = some (.bool a.isNone) := nr rfl
@[go_sem] theorem ld_118 {n o : Nat} {h : Hp} : ldv Γ 118 (.pointer (some ⟨n, o, none⟩)) h = h.cell n o := nr rfl
@[go_sem] theorem sv_118 {n o : Nat} {x : Value} {h : Hp} : stv Γ 118 (.pointer (some ⟨n, o, none⟩)) x h = stC n o 1 x h := nr rfl
@[go_sem] theorem za_118 {nm : Nat} : (Γ 118).map (fun t => (Value.pointer (some ⟨nm, 0, none⟩), ({ cells := t.zero, rw := true } : Blk))) = some (.pointer (some ⟨nm, 0, none⟩), { cells := [Value.slice none 0 0], rw := true }) := nr rfl
@[go_sem] theorem ld_120 {n o : Nat} {h : Hp} : ldv Γ 120 (.pointer (some ⟨n, o, none⟩)) h = (h.cells n o 2).map fun cs => .agg cs.toArray := nr rfl
@[go_sem] theorem sv_120 {n o : Nat} {x : Value} {h : Hp} : stv Γ 120 (.pointer (some ⟨n, o, none⟩)) x h = stC n o 2 x h := nr rfl
@[go_sem] theorem za_120 {nm : Nat} : (Γ 120).map (fun t => (Value.pointer (some ⟨nm, 0, none⟩), ({ cells := t.zero, rw := true } : Blk))) = some (.pointer (some ⟨nm, 0, none⟩), { cells := [Value.int IntKind.i64 0, Value.slice none 0 0], rw := true }) := nr rfl
@[go_sem] theorem ld_123 {n o : Nat} {h : Hp} : ldv Γ 123 (.pointer (some ⟨n, o, none⟩)) h = (h.cells n o 2).map fun cs => .agg cs.toArray := nr rfl
@[go_sem] theorem sv_123 {n o : Nat} {x : Value} {h : Hp} : stv Γ 123 (.pointer (some ⟨n, o, none⟩)) x h = stC n o 2 x h := nr rfl
@[go_sem] theorem za_123 {nm : Nat} : (Γ 123).map (fun t => (Value.pointer (some ⟨nm, 0, none⟩), ({ cells := t.zero, rw := true } : Blk))) = some (.pointer (some ⟨nm, 0, none⟩), { cells := [Value.int IntKind.i64 0, Value.int IntKind.i64 0], rw := true }) := nr rfl
@[go_sem] theorem ld_126 {n o : Nat} {h : Hp} : ldv Γ 126 (.pointer (some ⟨n, o, none⟩)) h = (h.cells n o 5).map fun cs => .agg cs.toArray := nr rfl
@[go_sem] theorem sv_126 {n o : Nat} {x : Value} {h : Hp} : stv Γ 126 (.pointer (some ⟨n, o, none⟩)) x h = stC n o 5 x h := nr rfl
@[go_sem] theorem za_126 {nm : Nat} : (Γ 126).map (fun t => (Value.pointer (some ⟨nm, 0, none⟩), ({ cells := t.zero, rw := true } : Blk))) = some (.pointer (some ⟨nm, 0, none⟩), { cells := [Value.int IntKind.i64 0, Value.int IntKind.i64 0, Value.int IntKind.i64 0, Value.int IntKind.i64 0, Value.int IntKind.i64 0], rw := true }) := nr rfl
@[go_sem] theorem ld_130 {n o : Nat} {h : Hp} : ldv Γ 130 (.pointer (some ⟨n, o, none⟩)) h = h.cell n o := nr rfl
@[go_sem] theorem sv_130 {n o : Nat} {x : Value} {h : Hp} : stv Γ 130 (.pointer (some ⟨n, o, none⟩)) x h = stC n o 1 x h := nr rfl
@[go_sem] theorem za_130 {nm : Nat} : (Γ 130).map (fun t => (Value.pointer (some ⟨nm, 0, none⟩), ({ cells := t.zero, rw := true } : Blk))) = some (.pointer (some ⟨nm, 0, none⟩), { cells := [Value.nilFunc], rw := true }) := nr rfl
@[go_sem] theorem ld_140 {n o : Nat} {h : Hp} : ldv Γ 140 (.pointer (some ⟨n, o, none⟩)) h = (h.cells n o 2).map fun cs => .agg cs.toArray := nr rfl
@[go_sem] theorem sv_140 {n o : Nat} {x : Value} {h : Hp} : stv Γ 140 (.pointer (some ⟨n, o, none⟩)) x h = stC n o 2 x h := nr rfl
@[go_sem] theorem za_140 {nm : Nat} : (Γ 140).map (fun t => (Value.pointer (some ⟨nm, 0, none⟩), ({ cells := t.zero, rw := true } : Blk))) = some (.pointer (some ⟨nm, 0, none⟩), { cells := [Value.int IntKind.i64 0, Value.int IntKind.i64 0], rw := true }) := nr rfl
@[go_sem] theorem cv_9_116 {C : Rel} {D : DrawR} {Q : Ex → S → Prop} {k : List Fr} {s : S} {base i : Nat} {l : List POp} {d : Option Nat} {x : Operand} : OpG Γ E C D Q base i (⟨d, none, .convert 9 116 x⟩ :: l) k s = OpK Γ E C D Q base (i + 1) l k s d (base + i) (cvB (base + i) (s.ev x)) := op_cvB rfl rfl rfl
def F_laws_FnExactHomesOk : FuncId := 3
def F_laws_szFn : FuncId := 8
def F_spec_HomesOk : FuncId := 9
def F_laws_toFn : FuncId := 10
def F_laws_toIntS : FuncId := 11
def F_impl_HomesOk : FuncId := 12
def F_laws_eqFn : FuncId := 13
def F_laws_eqIntS : FuncId := 14
def F_impl_Clashes : FuncId := 28
def F_laws_szBlockS : FuncId := 32
def F_spec_PlainOk : FuncId := 33
def F_spec_l13Homes : FuncId := 34
def F_laws_toBlockS : FuncId := 35
def F_impl_PlainOk : FuncId := 36
def F_slices_ContainsFunc_int : FuncId := 37
def F_impl_HomesOk_1 : FuncId := 38
def F_impl_isHome : FuncId := 39
def F_impl_listed : FuncId := 40
def F_laws_eqBlockS : FuncId := 41
def F_spec_l1In : FuncId := 42
def F_spec_l11Before : FuncId := 44
def F_spec_l11In : FuncId := 45
def F_impl_in : FuncId := 46
def F_impl_back : FuncId := 47
def F_impl_atEnd : FuncId := 48
def F_impl_liveIns : FuncId := 49
def F_spec_l11Out : FuncId := 51
def F_spec_l12Clashes : FuncId := 52
def F_impl_InsDef : FuncId := 53
def F_laws_szBlock : FuncId := 57
def F_spec_ShapeOk : FuncId := 58
def F_laws_toBlock : FuncId := 59
def F_impl_ShapeOk : FuncId := 60
def F_slices_ContainsFunc_impl_Block : FuncId := 61
def F_impl_PlainOk_1 : FuncId := 62
def F_slices_IndexFunc_int : FuncId := 63
def F_laws_eqBlock : FuncId := 64
def F_spec_l11End : FuncId := 65
def F_spec_l11Back : FuncId := 66
def F_slices_Clone_bool : FuncId := 67
def F_impl_TermUses : FuncId := 68
def F_impl_without : FuncId := 69
def F_impl_succs : FuncId := 70
def F_slices_Equal_bool : FuncId := 71
def F_spec_l3Succs : FuncId := 74
def F_spec_InsDef : FuncId := 75
def F_impl_has : FuncId := 76
def F_laws_szPhiS : FuncId := 77
def F_laws_szInsS : FuncId := 78
def F_spec_l2Term : FuncId := 79
def F_spec_l2Phi : FuncId := 80
def F_spec_l2Ins : FuncId := 81
def F_laws_toPhiS : FuncId := 82
def F_laws_toInsS : FuncId := 83
def F_laws_toTerm : FuncId := 84
def F_impl_ShapeOk_1 : FuncId := 85
def F_impl_termOk : FuncId := 86
def F_slices_ContainsFunc_impl_Phi : FuncId := 87
def F_impl_ShapeOk_1_1 : FuncId := 88
def F_impl_phiOk : FuncId := 89
def F_slices_ContainsFunc_impl_Ins : FuncId := 90
def F_impl_ShapeOk_1_2 : FuncId := 91
def F_impl_insOk : FuncId := 92
def F_slices_IndexFunc_impl_Block : FuncId := 93
def F_laws_eqPhiS : FuncId := 94
def F_laws_eqInsS : FuncId := 95
def F_laws_eqTerm : FuncId := 96
def F_spec_TermUses : FuncId := 97
def F_spec_InsUses : FuncId := 98
def F_impl_InsUses : FuncId := 99
def F_spec_l2Makes : FuncId := 101
def F_impl_formOf : FuncId := 102
def F_slices_Contains_byte : FuncId := 103
def F_laws_szPhi : FuncId := 104
def F_spec_l2Value : FuncId := 105
def F_spec_WordOk : FuncId := 106
def F_laws_toPhi : FuncId := 107
def F_laws_toIns : FuncId := 108
def F_impl_partOk : FuncId := 109
def F_slices_IndexFunc_impl_Phi : FuncId := 110
def F_slices_ContainsFunc_impl_Arm : FuncId := 111
def F_impl_phiOk_1 : FuncId := 112
def F_slices_IndexFunc_impl_Ins : FuncId := 113
def F_laws_eqPhi : FuncId := 114
def F_laws_eqIns : FuncId := 115
def F_impl_WordOk : FuncId := 116
def F_slices_Index_byte : FuncId := 117
def F_laws_szArmS : FuncId := 118
def F_laws_toArmS : FuncId := 119
def F_slices_IndexFunc_impl_Arm : FuncId := 120
def F_laws_eqArmS : FuncId := 121
def F_laws_toArm : FuncId := 122
def F_laws_eqArm : FuncId := 123
noncomputable def F : FuncId → Option Func
  | 3 => some Try.f3
  | 8 => some Try.f8
  | 9 => some Try.f9
  | 10 => some Try.f10
  | 11 => some Try.f11
  | 12 => some Try.f12
  | 13 => some Try.f13
  | 14 => some Try.f14
  | 28 => some Try.f28
  | 32 => some Try.f32
  | 33 => some Try.f33
  | 34 => some Try.f34
  | 35 => some Try.f35
  | 36 => some Try.f36
  | 37 => some Try.f37
  | 38 => some Try.f38
  | 39 => some Try.f39
  | 40 => some Try.f40
  | 41 => some Try.f41
  | 42 => some Try.f42
  | 44 => some Try.f44
  | 45 => some Try.f45
  | 46 => some Try.f46
  | 47 => some Try.f47
  | 48 => some Try.f48
  | 49 => some Try.f49
  | 51 => some Try.f51
  | 52 => some Try.f52
  | 53 => some Try.f53
  | 57 => some Try.f57
  | 58 => some Try.f58
  | 59 => some Try.f59
  | 60 => some Try.f60
  | 61 => some Try.f61
  | 62 => some Try.f62
  | 63 => some Try.f63
  | 64 => some Try.f64
  | 65 => some Try.f65
  | 66 => some Try.f66
  | 67 => some Try.f67
  | 68 => some Try.f68
  | 69 => some Try.f69
  | 70 => some Try.f70
  | 71 => some Try.f71
  | 74 => some Try.f74
  | 75 => some Try.f75
  | 76 => some Try.f76
  | 77 => some Try.f77
  | 78 => some Try.f78
  | 79 => some Try.f79
  | 80 => some Try.f80
  | 81 => some Try.f81
  | 82 => some Try.f82
  | 83 => some Try.f83
  | 84 => some Try.f84
  | 85 => some Try.f85
  | 86 => some Try.f86
  | 87 => some Try.f87
  | 88 => some Try.f88
  | 89 => some Try.f89
  | 90 => some Try.f90
  | 91 => some Try.f91
  | 92 => some Try.f92
  | 93 => some Try.f93
  | 94 => some Try.f94
  | 95 => some Try.f95
  | 96 => some Try.f96
  | 97 => some Try.f97
  | 98 => some Try.f98
  | 99 => some Try.f99
  | 101 => some Try.f101
  | 102 => some Try.f102
  | 103 => some Try.f103
  | 104 => some Try.f104
  | 105 => some Try.f105
  | 106 => some Try.f106
  | 107 => some Try.f107
  | 108 => some Try.f108
  | 109 => some Try.f109
  | 110 => some Try.f110
  | 111 => some Try.f111
  | 112 => some Try.f112
  | 113 => some Try.f113
  | 114 => some Try.f114
  | 115 => some Try.f115
  | 116 => some Try.f116
  | 117 => some Try.f117
  | 118 => some Try.f118
  | 119 => some Try.f119
  | 120 => some Try.f120
  | 121 => some Try.f121
  | 122 => some Try.f122
  | 123 => some Try.f123
  | _ => none
theorem fok : FOk Try.prog F := by
  intro f fn h
  unfold F at h
  split at h
  · injection h with h; subst h; exact ⟨Try.func3, by kernel_rfl, _, rfl, by kernel_rfl, by kernel_rfl⟩
  · injection h with h; subst h; exact ⟨Try.func8, by kernel_rfl, _, rfl, by kernel_rfl, by kernel_rfl⟩
  · injection h with h; subst h; exact ⟨Try.func9, by kernel_rfl, _, rfl, by kernel_rfl, by kernel_rfl⟩
  · injection h with h; subst h; exact ⟨Try.func10, by kernel_rfl, _, rfl, by kernel_rfl, by kernel_rfl⟩
  · injection h with h; subst h; exact ⟨Try.func11, by kernel_rfl, _, rfl, by kernel_rfl, by kernel_rfl⟩
  · injection h with h; subst h; exact ⟨Try.func12, by kernel_rfl, _, rfl, by kernel_rfl, by kernel_rfl⟩
  · injection h with h; subst h; exact ⟨Try.func13, by kernel_rfl, _, rfl, by kernel_rfl, by kernel_rfl⟩
  · injection h with h; subst h; exact ⟨Try.func14, by kernel_rfl, _, rfl, by kernel_rfl, by kernel_rfl⟩
  · injection h with h; subst h; exact ⟨Try.func28, by kernel_rfl, _, rfl, by kernel_rfl, by kernel_rfl⟩
  · injection h with h; subst h; exact ⟨Try.func32, by kernel_rfl, _, rfl, by kernel_rfl, by kernel_rfl⟩
  · injection h with h; subst h; exact ⟨Try.func33, by kernel_rfl, _, rfl, by kernel_rfl, by kernel_rfl⟩
  · injection h with h; subst h; exact ⟨Try.func34, by kernel_rfl, _, rfl, by kernel_rfl, by kernel_rfl⟩
  · injection h with h; subst h; exact ⟨Try.func35, by kernel_rfl, _, rfl, by kernel_rfl, by kernel_rfl⟩
  · injection h with h; subst h; exact ⟨Try.func36, by kernel_rfl, _, rfl, by kernel_rfl, by kernel_rfl⟩
  · injection h with h; subst h; exact ⟨Try.func37, by kernel_rfl, _, rfl, by kernel_rfl, by kernel_rfl⟩
  · injection h with h; subst h; exact ⟨Try.func38, by kernel_rfl, _, rfl, by kernel_rfl, by kernel_rfl⟩
  · injection h with h; subst h; exact ⟨Try.func39, by kernel_rfl, _, rfl, by kernel_rfl, by kernel_rfl⟩
  · injection h with h; subst h; exact ⟨Try.func40, by kernel_rfl, _, rfl, by kernel_rfl, by kernel_rfl⟩
  · injection h with h; subst h; exact ⟨Try.func41, by kernel_rfl, _, rfl, by kernel_rfl, by kernel_rfl⟩
  · injection h with h; subst h; exact ⟨Try.func42, by kernel_rfl, _, rfl, by kernel_rfl, by kernel_rfl⟩
  · injection h with h; subst h; exact ⟨Try.func44, by kernel_rfl, _, rfl, by kernel_rfl, by kernel_rfl⟩
  · injection h with h; subst h; exact ⟨Try.func45, by kernel_rfl, _, rfl, by kernel_rfl, by kernel_rfl⟩
  · injection h with h; subst h; exact ⟨Try.func46, by kernel_rfl, _, rfl, by kernel_rfl, by kernel_rfl⟩
  · injection h with h; subst h; exact ⟨Try.func47, by kernel_rfl, _, rfl, by kernel_rfl, by kernel_rfl⟩
  · injection h with h; subst h; exact ⟨Try.func48, by kernel_rfl, _, rfl, by kernel_rfl, by kernel_rfl⟩
  · injection h with h; subst h; exact ⟨Try.func49, by kernel_rfl, _, rfl, by kernel_rfl, by kernel_rfl⟩
  · injection h with h; subst h; exact ⟨Try.func51, by kernel_rfl, _, rfl, by kernel_rfl, by kernel_rfl⟩
  · injection h with h; subst h; exact ⟨Try.func52, by kernel_rfl, _, rfl, by kernel_rfl, by kernel_rfl⟩
  · injection h with h; subst h; exact ⟨Try.func53, by kernel_rfl, _, rfl, by kernel_rfl, by kernel_rfl⟩
  · injection h with h; subst h; exact ⟨Try.func57, by kernel_rfl, _, rfl, by kernel_rfl, by kernel_rfl⟩
  · injection h with h; subst h; exact ⟨Try.func58, by kernel_rfl, _, rfl, by kernel_rfl, by kernel_rfl⟩
  · injection h with h; subst h; exact ⟨Try.func59, by kernel_rfl, _, rfl, by kernel_rfl, by kernel_rfl⟩
  · injection h with h; subst h; exact ⟨Try.func60, by kernel_rfl, _, rfl, by kernel_rfl, by kernel_rfl⟩
  · injection h with h; subst h; exact ⟨Try.func61, by kernel_rfl, _, rfl, by kernel_rfl, by kernel_rfl⟩
  · injection h with h; subst h; exact ⟨Try.func62, by kernel_rfl, _, rfl, by kernel_rfl, by kernel_rfl⟩
  · injection h with h; subst h; exact ⟨Try.func63, by kernel_rfl, _, rfl, by kernel_rfl, by kernel_rfl⟩
  · injection h with h; subst h; exact ⟨Try.func64, by kernel_rfl, _, rfl, by kernel_rfl, by kernel_rfl⟩
  · injection h with h; subst h; exact ⟨Try.func65, by kernel_rfl, _, rfl, by kernel_rfl, by kernel_rfl⟩
  · injection h with h; subst h; exact ⟨Try.func66, by kernel_rfl, _, rfl, by kernel_rfl, by kernel_rfl⟩
  · injection h with h; subst h; exact ⟨Try.func67, by kernel_rfl, _, rfl, by kernel_rfl, by kernel_rfl⟩
  · injection h with h; subst h; exact ⟨Try.func68, by kernel_rfl, _, rfl, by kernel_rfl, by kernel_rfl⟩
  · injection h with h; subst h; exact ⟨Try.func69, by kernel_rfl, _, rfl, by kernel_rfl, by kernel_rfl⟩
  · injection h with h; subst h; exact ⟨Try.func70, by kernel_rfl, _, rfl, by kernel_rfl, by kernel_rfl⟩
  · injection h with h; subst h; exact ⟨Try.func71, by kernel_rfl, _, rfl, by kernel_rfl, by kernel_rfl⟩
  · injection h with h; subst h; exact ⟨Try.func74, by kernel_rfl, _, rfl, by kernel_rfl, by kernel_rfl⟩
  · injection h with h; subst h; exact ⟨Try.func75, by kernel_rfl, _, rfl, by kernel_rfl, by kernel_rfl⟩
  · injection h with h; subst h; exact ⟨Try.func76, by kernel_rfl, _, rfl, by kernel_rfl, by kernel_rfl⟩
  · injection h with h; subst h; exact ⟨Try.func77, by kernel_rfl, _, rfl, by kernel_rfl, by kernel_rfl⟩
  · injection h with h; subst h; exact ⟨Try.func78, by kernel_rfl, _, rfl, by kernel_rfl, by kernel_rfl⟩
  · injection h with h; subst h; exact ⟨Try.func79, by kernel_rfl, _, rfl, by kernel_rfl, by kernel_rfl⟩
  · injection h with h; subst h; exact ⟨Try.func80, by kernel_rfl, _, rfl, by kernel_rfl, by kernel_rfl⟩
  · injection h with h; subst h; exact ⟨Try.func81, by kernel_rfl, _, rfl, by kernel_rfl, by kernel_rfl⟩
  · injection h with h; subst h; exact ⟨Try.func82, by kernel_rfl, _, rfl, by kernel_rfl, by kernel_rfl⟩
  · injection h with h; subst h; exact ⟨Try.func83, by kernel_rfl, _, rfl, by kernel_rfl, by kernel_rfl⟩
  · injection h with h; subst h; exact ⟨Try.func84, by kernel_rfl, _, rfl, by kernel_rfl, by kernel_rfl⟩
  · injection h with h; subst h; exact ⟨Try.func85, by kernel_rfl, _, rfl, by kernel_rfl, by kernel_rfl⟩
  · injection h with h; subst h; exact ⟨Try.func86, by kernel_rfl, _, rfl, by kernel_rfl, by kernel_rfl⟩
  · injection h with h; subst h; exact ⟨Try.func87, by kernel_rfl, _, rfl, by kernel_rfl, by kernel_rfl⟩
  · injection h with h; subst h; exact ⟨Try.func88, by kernel_rfl, _, rfl, by kernel_rfl, by kernel_rfl⟩
  · injection h with h; subst h; exact ⟨Try.func89, by kernel_rfl, _, rfl, by kernel_rfl, by kernel_rfl⟩
  · injection h with h; subst h; exact ⟨Try.func90, by kernel_rfl, _, rfl, by kernel_rfl, by kernel_rfl⟩
  · injection h with h; subst h; exact ⟨Try.func91, by kernel_rfl, _, rfl, by kernel_rfl, by kernel_rfl⟩
  · injection h with h; subst h; exact ⟨Try.func92, by kernel_rfl, _, rfl, by kernel_rfl, by kernel_rfl⟩
  · injection h with h; subst h; exact ⟨Try.func93, by kernel_rfl, _, rfl, by kernel_rfl, by kernel_rfl⟩
  · injection h with h; subst h; exact ⟨Try.func94, by kernel_rfl, _, rfl, by kernel_rfl, by kernel_rfl⟩
  · injection h with h; subst h; exact ⟨Try.func95, by kernel_rfl, _, rfl, by kernel_rfl, by kernel_rfl⟩
  · injection h with h; subst h; exact ⟨Try.func96, by kernel_rfl, _, rfl, by kernel_rfl, by kernel_rfl⟩
  · injection h with h; subst h; exact ⟨Try.func97, by kernel_rfl, _, rfl, by kernel_rfl, by kernel_rfl⟩
  · injection h with h; subst h; exact ⟨Try.func98, by kernel_rfl, _, rfl, by kernel_rfl, by kernel_rfl⟩
  · injection h with h; subst h; exact ⟨Try.func99, by kernel_rfl, _, rfl, by kernel_rfl, by kernel_rfl⟩
  · injection h with h; subst h; exact ⟨Try.func101, by kernel_rfl, _, rfl, by kernel_rfl, by kernel_rfl⟩
  · injection h with h; subst h; exact ⟨Try.func102, by kernel_rfl, _, rfl, by kernel_rfl, by kernel_rfl⟩
  · injection h with h; subst h; exact ⟨Try.func103, by kernel_rfl, _, rfl, by kernel_rfl, by kernel_rfl⟩
  · injection h with h; subst h; exact ⟨Try.func104, by kernel_rfl, _, rfl, by kernel_rfl, by kernel_rfl⟩
  · injection h with h; subst h; exact ⟨Try.func105, by kernel_rfl, _, rfl, by kernel_rfl, by kernel_rfl⟩
  · injection h with h; subst h; exact ⟨Try.func106, by kernel_rfl, _, rfl, by kernel_rfl, by kernel_rfl⟩
  · injection h with h; subst h; exact ⟨Try.func107, by kernel_rfl, _, rfl, by kernel_rfl, by kernel_rfl⟩
  · injection h with h; subst h; exact ⟨Try.func108, by kernel_rfl, _, rfl, by kernel_rfl, by kernel_rfl⟩
  · injection h with h; subst h; exact ⟨Try.func109, by kernel_rfl, _, rfl, by kernel_rfl, by kernel_rfl⟩
  · injection h with h; subst h; exact ⟨Try.func110, by kernel_rfl, _, rfl, by kernel_rfl, by kernel_rfl⟩
  · injection h with h; subst h; exact ⟨Try.func111, by kernel_rfl, _, rfl, by kernel_rfl, by kernel_rfl⟩
  · injection h with h; subst h; exact ⟨Try.func112, by kernel_rfl, _, rfl, by kernel_rfl, by kernel_rfl⟩
  · injection h with h; subst h; exact ⟨Try.func113, by kernel_rfl, _, rfl, by kernel_rfl, by kernel_rfl⟩
  · injection h with h; subst h; exact ⟨Try.func114, by kernel_rfl, _, rfl, by kernel_rfl, by kernel_rfl⟩
  · injection h with h; subst h; exact ⟨Try.func115, by kernel_rfl, _, rfl, by kernel_rfl, by kernel_rfl⟩
  · injection h with h; subst h; exact ⟨Try.func116, by kernel_rfl, _, rfl, by kernel_rfl, by kernel_rfl⟩
  · injection h with h; subst h; exact ⟨Try.func117, by kernel_rfl, _, rfl, by kernel_rfl, by kernel_rfl⟩
  · injection h with h; subst h; exact ⟨Try.func118, by kernel_rfl, _, rfl, by kernel_rfl, by kernel_rfl⟩
  · injection h with h; subst h; exact ⟨Try.func119, by kernel_rfl, _, rfl, by kernel_rfl, by kernel_rfl⟩
  · injection h with h; subst h; exact ⟨Try.func120, by kernel_rfl, _, rfl, by kernel_rfl, by kernel_rfl⟩
  · injection h with h; subst h; exact ⟨Try.func121, by kernel_rfl, _, rfl, by kernel_rfl, by kernel_rfl⟩
  · injection h with h; subst h; exact ⟨Try.func122, by kernel_rfl, _, rfl, by kernel_rfl, by kernel_rfl⟩
  · injection h with h; subst h; exact ⟨Try.func123, by kernel_rfl, _, rfl, by kernel_rfl, by kernel_rfl⟩
  · cases h
noncomputable def X0 : Rel := fun _ _ _ _ _ => False
abbrev CC : Rel := Call Γ E F X0 (Draw Γ E)
/-- What region of open order is meant. -/
abbrev DD : DrawR := Draw Γ E CC 0
abbrev OpEq (C : Rel) (D : DrawR) (l l' : List POp) : Prop := ∀ (Q : Ex → S → Prop) (b i : Nat) (k : List Fr) (s : S), OpG Γ E C D Q b i l k s = OpG Γ E C D Q b i l' k s
theorem opEq {C : Rel} {D : DrawR} {l l' : List POp} (h : l = l') : OpEq C D l l' := fun _ _ _ _ _ => by rw [h]
abbrev GoEq (C : Rel) (D : DrawR) (c c' : PC) : Prop := ∀ (Q : Ex → S → Prop) (k : List Fr) (s : S), Go Γ E C D Q c k s = Go Γ E C D Q c' k s
theorem goEq {C : Rel} {D : DrawR} {c c' : PC} (h : c = c') : GoEq C D c c' := fun _ _ _ => by rw [h]
end Go.Proofs.YtjkcliabfboecaaM
