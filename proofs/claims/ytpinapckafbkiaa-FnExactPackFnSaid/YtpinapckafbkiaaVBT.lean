import Derived.Test.YtpinapckafbkiaaVBMiV
import Derived.Test.YtpinapckafbkiaaChecked
import Derived.KernelRfl
/- The tables of the small machine for this program: its types and its functions, and that the program has them so. -/
namespace Go.Proofs.YtpinapckafbkiaaM
open Go
set_option linter.unusedVariables false
set_option maxRecDepth 100000
noncomputable def ti3 : TI := ⟨.int .i64, 1, 8, [Value.int IntKind.i64 0]⟩
noncomputable def ti4 : TI := ⟨.bool, 1, 1, [Value.bool false]⟩
noncomputable def ti5 : TI := ⟨.int .u8, 1, 1, [Value.int IntKind.u8 0]⟩
noncomputable def ti9 : TI := ⟨.str, 1, 16, [Value.string ByteArray.empty]⟩
noncomputable def ti22 : TI := ⟨.slice 109, 1, 24, [Value.slice none 0 0]⟩
noncomputable def ti24 : TI := ⟨.struct [(0, 22), (1, 3)], 2, 32, [Value.slice none 0 0, Value.int IntKind.i64 0]⟩
noncomputable def ti26 : TI := ⟨.slice 5, 1, 24, [Value.slice none 0 0]⟩
noncomputable def ti29 : TI := ⟨.slice 62, 1, 24, [Value.slice none 0 0]⟩
noncomputable def ti31 : TI := ⟨.struct [(0, 29), (1, 3)], 2, 32, [Value.slice none 0 0, Value.int IntKind.i64 0]⟩
noncomputable def ti45 : TI := ⟨.slice 3, 1, 24, [Value.slice none 0 0]⟩
noncomputable def ti57 : TI := ⟨.slice 66, 1, 24, [Value.slice none 0 0]⟩
noncomputable def ti58 : TI := ⟨.slice 70, 1, 24, [Value.slice none 0 0]⟩
noncomputable def ti60 : TI := ⟨.struct [(0, 3), (1, 3), (2, 3), (3, 3)], 4, 32, [Value.int IntKind.i64 0, Value.int IntKind.i64 0, Value.int IntKind.i64 0, Value.int IntKind.i64 0]⟩
noncomputable def ti62 : TI := ⟨.struct [(0, 57), (1, 58), (2, 60)], 6, 80, [Value.slice none 0 0, Value.slice none 0 0, Value.int IntKind.i64 0, Value.int IntKind.i64 0, Value.int IntKind.i64 0, Value.int IntKind.i64 0]⟩
noncomputable def ti64 : TI := ⟨.slice 68, 1, 24, [Value.slice none 0 0]⟩
noncomputable def ti66 : TI := ⟨.struct [(0, 3), (1, 64)], 2, 32, [Value.int IntKind.i64 0, Value.slice none 0 0]⟩
noncomputable def ti68 : TI := ⟨.struct [(0, 3), (1, 3)], 2, 16, [Value.int IntKind.i64 0, Value.int IntKind.i64 0]⟩
noncomputable def ti70 : TI := ⟨.struct [(0, 3), (1, 3), (2, 3), (3, 3), (4, 3)], 5, 40, [Value.int IntKind.i64 0, Value.int IntKind.i64 0, Value.int IntKind.i64 0, Value.int IntKind.i64 0, Value.int IntKind.i64 0]⟩
noncomputable def ti72 : TI := ⟨.ptr, 1, 8, [Value.pointer none]⟩
noncomputable def ti74 : TI := ⟨.struct [(0, 26), (1, 4)], 2, 32, [Value.slice none 0 0, Value.bool false]⟩
noncomputable def ti105 : TI := ⟨.slice 183, 1, 24, [Value.slice none 0 0]⟩
noncomputable def ti106 : TI := ⟨.slice 186, 1, 24, [Value.slice none 0 0]⟩
noncomputable def ti107 : TI := ⟨.struct [(0, 3), (1, 3), (2, 3), (3, 3)], 4, 32, [Value.int IntKind.i64 0, Value.int IntKind.i64 0, Value.int IntKind.i64 0, Value.int IntKind.i64 0]⟩
noncomputable def ti109 : TI := ⟨.struct [(0, 105), (1, 106), (2, 107)], 6, 80, [Value.slice none 0 0, Value.slice none 0 0, Value.int IntKind.i64 0, Value.int IntKind.i64 0, Value.int IntKind.i64 0, Value.int IntKind.i64 0]⟩
noncomputable def ti117 : TI := ⟨.fn, 1, 8, [Value.nilFunc]⟩
noncomputable def ti119 : TI := ⟨.fn, 1, 8, [Value.nilFunc]⟩
noncomputable def ti120 : TI := ⟨.fn, 1, 8, [Value.nilFunc]⟩
noncomputable def ti156 : TI := ⟨.fn, 1, 8, [Value.nilFunc]⟩
noncomputable def ti161 : TI := ⟨.int .u64, 1, 8, [Value.int IntKind.u64 0]⟩
noncomputable def ti181 : TI := ⟨.slice 203, 1, 24, [Value.slice none 0 0]⟩
noncomputable def ti183 : TI := ⟨.struct [(0, 3), (1, 181)], 2, 32, [Value.int IntKind.i64 0, Value.slice none 0 0]⟩
noncomputable def ti186 : TI := ⟨.struct [(0, 3), (1, 3), (2, 3), (3, 3), (4, 3)], 5, 40, [Value.int IntKind.i64 0, Value.int IntKind.i64 0, Value.int IntKind.i64 0, Value.int IntKind.i64 0, Value.int IntKind.i64 0]⟩
noncomputable def ti203 : TI := ⟨.struct [(0, 3), (1, 3)], 2, 16, [Value.int IntKind.i64 0, Value.int IntKind.i64 0]⟩
noncomputable def Γ : TypeId → Option TI
  | 3 => some ti3
  | 4 => some ti4
  | 5 => some ti5
  | 9 => some ti9
  | 22 => some ti22
  | 24 => some ti24
  | 26 => some ti26
  | 29 => some ti29
  | 31 => some ti31
  | 45 => some ti45
  | 57 => some ti57
  | 58 => some ti58
  | 60 => some ti60
  | 62 => some ti62
  | 64 => some ti64
  | 66 => some ti66
  | 68 => some ti68
  | 70 => some ti70
  | 72 => some ti72
  | 74 => some ti74
  | 105 => some ti105
  | 106 => some ti106
  | 107 => some ti107
  | 109 => some ti109
  | 117 => some ti117
  | 119 => some ti119
  | 120 => some ti120
  | 156 => some ti156
  | 161 => some ti161
  | 181 => some ti181
  | 183 => some ti183
  | 186 => some ti186
  | 203 => some ti203
  | _ => none
def E : TypeId → Nat
  | _ => 0
theorem Γ_cases {t : TypeId} {i : TI} (h : Γ t = some i) : (t = 3 ∧ i = ti3) ∨ (t = 4 ∧ i = ti4) ∨ (t = 5 ∧ i = ti5) ∨ (t = 9 ∧ i = ti9) ∨ (t = 22 ∧ i = ti22) ∨ (t = 24 ∧ i = ti24) ∨ (t = 26 ∧ i = ti26) ∨ (t = 29 ∧ i = ti29) ∨ (t = 31 ∧ i = ti31) ∨ (t = 45 ∧ i = ti45) ∨ (t = 57 ∧ i = ti57) ∨ (t = 58 ∧ i = ti58) ∨ (t = 60 ∧ i = ti60) ∨ (t = 62 ∧ i = ti62) ∨ (t = 64 ∧ i = ti64) ∨ (t = 66 ∧ i = ti66) ∨ (t = 68 ∧ i = ti68) ∨ (t = 70 ∧ i = ti70) ∨ (t = 72 ∧ i = ti72) ∨ (t = 74 ∧ i = ti74) ∨ (t = 105 ∧ i = ti105) ∨ (t = 106 ∧ i = ti106) ∨ (t = 107 ∧ i = ti107) ∨ (t = 109 ∧ i = ti109) ∨ (t = 117 ∧ i = ti117) ∨ (t = 119 ∧ i = ti119) ∨ (t = 120 ∧ i = ti120) ∨ (t = 156 ∧ i = ti156) ∨ (t = 161 ∧ i = ti161) ∨ (t = 181 ∧ i = ti181) ∨ (t = 183 ∧ i = ti183) ∨ (t = 186 ∧ i = ti186) ∨ (t = 203 ∧ i = ti203) := by
  unfold Γ at h
  split at h <;> first | (injection h with h; subst h; simp) | cases h
/-- One row of the table. -/
theorem row_ok {t : TypeId} {i : TI} {d : TypeDesc} (h : (Try.prog.info? t).map (fun x => (x.size, x.bytes, x.zero.map fun z => z.cells)) = some (i.size, i.bytes, some i.zero.toArray)) (hp : i.zero.all plainV = true) (hu : Try.prog.underlying t = some d) (hs : ShOk d i.sh) :
    ∃ inf, Try.prog.info? t = some inf ∧ inf.size = i.size ∧ inf.bytes = i.bytes ∧ (∃ z, inf.zero = some z ∧ z.cells = i.zero.toArray) ∧ (∀ v ∈ i.zero, plainV v = true) ∧ ∃ d, Try.prog.underlying t = some d ∧ ShOk d i.sh := by
  obtain ⟨inf, h1, h2⟩ := Option.map_eq_some_iff.1 h
  injection h2 with h2 h3
  injection h3 with h3 h4
  obtain ⟨z, h5, h6⟩ := Option.map_eq_some_iff.1 h4
  exact ⟨inf, h1, h2, h3, ⟨z, h5, h6⟩, fun v hv => List.all_eq_true.1 hp v hv, d, hu, hs⟩
theorem row3 : ∃ inf, Try.prog.info? 3 = some inf ∧ inf.size = ti3.size ∧ inf.bytes = ti3.bytes ∧ (∃ z, inf.zero = some z ∧ z.cells = ti3.zero.toArray) ∧ (∀ v ∈ ti3.zero, plainV v = true) ∧ ∃ d, Try.prog.underlying 3 = some d ∧ ShOk d ti3.sh :=
  row_ok (by kernel_rfl) rfl Try.underlying3 rfl
theorem row4 : ∃ inf, Try.prog.info? 4 = some inf ∧ inf.size = ti4.size ∧ inf.bytes = ti4.bytes ∧ (∃ z, inf.zero = some z ∧ z.cells = ti4.zero.toArray) ∧ (∀ v ∈ ti4.zero, plainV v = true) ∧ ∃ d, Try.prog.underlying 4 = some d ∧ ShOk d ti4.sh :=
  row_ok (by kernel_rfl) rfl Try.underlying4 rfl
theorem row5 : ∃ inf, Try.prog.info? 5 = some inf ∧ inf.size = ti5.size ∧ inf.bytes = ti5.bytes ∧ (∃ z, inf.zero = some z ∧ z.cells = ti5.zero.toArray) ∧ (∀ v ∈ ti5.zero, plainV v = true) ∧ ∃ d, Try.prog.underlying 5 = some d ∧ ShOk d ti5.sh :=
  row_ok (by kernel_rfl) rfl Try.underlying5 rfl
theorem row9 : ∃ inf, Try.prog.info? 9 = some inf ∧ inf.size = ti9.size ∧ inf.bytes = ti9.bytes ∧ (∃ z, inf.zero = some z ∧ z.cells = ti9.zero.toArray) ∧ (∀ v ∈ ti9.zero, plainV v = true) ∧ ∃ d, Try.prog.underlying 9 = some d ∧ ShOk d ti9.sh :=
  row_ok (by kernel_rfl) rfl Try.underlying9 rfl
theorem row22 : ∃ inf, Try.prog.info? 22 = some inf ∧ inf.size = ti22.size ∧ inf.bytes = ti22.bytes ∧ (∃ z, inf.zero = some z ∧ z.cells = ti22.zero.toArray) ∧ (∀ v ∈ ti22.zero, plainV v = true) ∧ ∃ d, Try.prog.underlying 22 = some d ∧ ShOk d ti22.sh :=
  row_ok (by kernel_rfl) rfl Try.underlying22 rfl
theorem row24 : ∃ inf, Try.prog.info? 24 = some inf ∧ inf.size = ti24.size ∧ inf.bytes = ti24.bytes ∧ (∃ z, inf.zero = some z ∧ z.cells = ti24.zero.toArray) ∧ (∀ v ∈ ti24.zero, plainV v = true) ∧ ∃ d, Try.prog.underlying 24 = some d ∧ ShOk d ti24.sh :=
  row_ok (by kernel_rfl) rfl Try.underlying24 ⟨_, rfl, rfl⟩
theorem row26 : ∃ inf, Try.prog.info? 26 = some inf ∧ inf.size = ti26.size ∧ inf.bytes = ti26.bytes ∧ (∃ z, inf.zero = some z ∧ z.cells = ti26.zero.toArray) ∧ (∀ v ∈ ti26.zero, plainV v = true) ∧ ∃ d, Try.prog.underlying 26 = some d ∧ ShOk d ti26.sh :=
  row_ok (by kernel_rfl) rfl Try.underlying26 rfl
theorem row29 : ∃ inf, Try.prog.info? 29 = some inf ∧ inf.size = ti29.size ∧ inf.bytes = ti29.bytes ∧ (∃ z, inf.zero = some z ∧ z.cells = ti29.zero.toArray) ∧ (∀ v ∈ ti29.zero, plainV v = true) ∧ ∃ d, Try.prog.underlying 29 = some d ∧ ShOk d ti29.sh :=
  row_ok (by kernel_rfl) rfl Try.underlying29 rfl
theorem row31 : ∃ inf, Try.prog.info? 31 = some inf ∧ inf.size = ti31.size ∧ inf.bytes = ti31.bytes ∧ (∃ z, inf.zero = some z ∧ z.cells = ti31.zero.toArray) ∧ (∀ v ∈ ti31.zero, plainV v = true) ∧ ∃ d, Try.prog.underlying 31 = some d ∧ ShOk d ti31.sh :=
  row_ok (by kernel_rfl) rfl Try.underlying31 ⟨_, rfl, rfl⟩
theorem row45 : ∃ inf, Try.prog.info? 45 = some inf ∧ inf.size = ti45.size ∧ inf.bytes = ti45.bytes ∧ (∃ z, inf.zero = some z ∧ z.cells = ti45.zero.toArray) ∧ (∀ v ∈ ti45.zero, plainV v = true) ∧ ∃ d, Try.prog.underlying 45 = some d ∧ ShOk d ti45.sh :=
  row_ok (by kernel_rfl) rfl Try.underlying45 rfl
theorem row57 : ∃ inf, Try.prog.info? 57 = some inf ∧ inf.size = ti57.size ∧ inf.bytes = ti57.bytes ∧ (∃ z, inf.zero = some z ∧ z.cells = ti57.zero.toArray) ∧ (∀ v ∈ ti57.zero, plainV v = true) ∧ ∃ d, Try.prog.underlying 57 = some d ∧ ShOk d ti57.sh :=
  row_ok (by kernel_rfl) rfl Try.underlying57 rfl
theorem row58 : ∃ inf, Try.prog.info? 58 = some inf ∧ inf.size = ti58.size ∧ inf.bytes = ti58.bytes ∧ (∃ z, inf.zero = some z ∧ z.cells = ti58.zero.toArray) ∧ (∀ v ∈ ti58.zero, plainV v = true) ∧ ∃ d, Try.prog.underlying 58 = some d ∧ ShOk d ti58.sh :=
  row_ok (by kernel_rfl) rfl Try.underlying58 rfl
theorem row60 : ∃ inf, Try.prog.info? 60 = some inf ∧ inf.size = ti60.size ∧ inf.bytes = ti60.bytes ∧ (∃ z, inf.zero = some z ∧ z.cells = ti60.zero.toArray) ∧ (∀ v ∈ ti60.zero, plainV v = true) ∧ ∃ d, Try.prog.underlying 60 = some d ∧ ShOk d ti60.sh :=
  row_ok (by kernel_rfl) rfl Try.underlying60 ⟨_, rfl, rfl⟩
theorem row62 : ∃ inf, Try.prog.info? 62 = some inf ∧ inf.size = ti62.size ∧ inf.bytes = ti62.bytes ∧ (∃ z, inf.zero = some z ∧ z.cells = ti62.zero.toArray) ∧ (∀ v ∈ ti62.zero, plainV v = true) ∧ ∃ d, Try.prog.underlying 62 = some d ∧ ShOk d ti62.sh :=
  row_ok (by kernel_rfl) rfl Try.underlying62 ⟨_, rfl, rfl⟩
theorem row64 : ∃ inf, Try.prog.info? 64 = some inf ∧ inf.size = ti64.size ∧ inf.bytes = ti64.bytes ∧ (∃ z, inf.zero = some z ∧ z.cells = ti64.zero.toArray) ∧ (∀ v ∈ ti64.zero, plainV v = true) ∧ ∃ d, Try.prog.underlying 64 = some d ∧ ShOk d ti64.sh :=
  row_ok (by kernel_rfl) rfl Try.underlying64 rfl
theorem row66 : ∃ inf, Try.prog.info? 66 = some inf ∧ inf.size = ti66.size ∧ inf.bytes = ti66.bytes ∧ (∃ z, inf.zero = some z ∧ z.cells = ti66.zero.toArray) ∧ (∀ v ∈ ti66.zero, plainV v = true) ∧ ∃ d, Try.prog.underlying 66 = some d ∧ ShOk d ti66.sh :=
  row_ok (by kernel_rfl) rfl Try.underlying66 ⟨_, rfl, rfl⟩
theorem row68 : ∃ inf, Try.prog.info? 68 = some inf ∧ inf.size = ti68.size ∧ inf.bytes = ti68.bytes ∧ (∃ z, inf.zero = some z ∧ z.cells = ti68.zero.toArray) ∧ (∀ v ∈ ti68.zero, plainV v = true) ∧ ∃ d, Try.prog.underlying 68 = some d ∧ ShOk d ti68.sh :=
  row_ok (by kernel_rfl) rfl Try.underlying68 ⟨_, rfl, rfl⟩
theorem row70 : ∃ inf, Try.prog.info? 70 = some inf ∧ inf.size = ti70.size ∧ inf.bytes = ti70.bytes ∧ (∃ z, inf.zero = some z ∧ z.cells = ti70.zero.toArray) ∧ (∀ v ∈ ti70.zero, plainV v = true) ∧ ∃ d, Try.prog.underlying 70 = some d ∧ ShOk d ti70.sh :=
  row_ok (by kernel_rfl) rfl Try.underlying70 ⟨_, rfl, rfl⟩
theorem row72 : ∃ inf, Try.prog.info? 72 = some inf ∧ inf.size = ti72.size ∧ inf.bytes = ti72.bytes ∧ (∃ z, inf.zero = some z ∧ z.cells = ti72.zero.toArray) ∧ (∀ v ∈ ti72.zero, plainV v = true) ∧ ∃ d, Try.prog.underlying 72 = some d ∧ ShOk d ti72.sh :=
  row_ok (by kernel_rfl) rfl Try.underlying72 ⟨_, rfl⟩
theorem row74 : ∃ inf, Try.prog.info? 74 = some inf ∧ inf.size = ti74.size ∧ inf.bytes = ti74.bytes ∧ (∃ z, inf.zero = some z ∧ z.cells = ti74.zero.toArray) ∧ (∀ v ∈ ti74.zero, plainV v = true) ∧ ∃ d, Try.prog.underlying 74 = some d ∧ ShOk d ti74.sh :=
  row_ok (by kernel_rfl) rfl Try.underlying74 ⟨_, rfl, rfl⟩
theorem row105 : ∃ inf, Try.prog.info? 105 = some inf ∧ inf.size = ti105.size ∧ inf.bytes = ti105.bytes ∧ (∃ z, inf.zero = some z ∧ z.cells = ti105.zero.toArray) ∧ (∀ v ∈ ti105.zero, plainV v = true) ∧ ∃ d, Try.prog.underlying 105 = some d ∧ ShOk d ti105.sh :=
  row_ok (by kernel_rfl) rfl Try.underlying105 rfl
theorem row106 : ∃ inf, Try.prog.info? 106 = some inf ∧ inf.size = ti106.size ∧ inf.bytes = ti106.bytes ∧ (∃ z, inf.zero = some z ∧ z.cells = ti106.zero.toArray) ∧ (∀ v ∈ ti106.zero, plainV v = true) ∧ ∃ d, Try.prog.underlying 106 = some d ∧ ShOk d ti106.sh :=
  row_ok (by kernel_rfl) rfl Try.underlying106 rfl
theorem row107 : ∃ inf, Try.prog.info? 107 = some inf ∧ inf.size = ti107.size ∧ inf.bytes = ti107.bytes ∧ (∃ z, inf.zero = some z ∧ z.cells = ti107.zero.toArray) ∧ (∀ v ∈ ti107.zero, plainV v = true) ∧ ∃ d, Try.prog.underlying 107 = some d ∧ ShOk d ti107.sh :=
  row_ok (by kernel_rfl) rfl Try.underlying107 ⟨_, rfl, rfl⟩
theorem row109 : ∃ inf, Try.prog.info? 109 = some inf ∧ inf.size = ti109.size ∧ inf.bytes = ti109.bytes ∧ (∃ z, inf.zero = some z ∧ z.cells = ti109.zero.toArray) ∧ (∀ v ∈ ti109.zero, plainV v = true) ∧ ∃ d, Try.prog.underlying 109 = some d ∧ ShOk d ti109.sh :=
  row_ok (by kernel_rfl) rfl Try.underlying109 ⟨_, rfl, rfl⟩
theorem row117 : ∃ inf, Try.prog.info? 117 = some inf ∧ inf.size = ti117.size ∧ inf.bytes = ti117.bytes ∧ (∃ z, inf.zero = some z ∧ z.cells = ti117.zero.toArray) ∧ (∀ v ∈ ti117.zero, plainV v = true) ∧ ∃ d, Try.prog.underlying 117 = some d ∧ ShOk d ti117.sh :=
  row_ok (by kernel_rfl) rfl Try.underlying117 ⟨_, _, _, rfl⟩
theorem row119 : ∃ inf, Try.prog.info? 119 = some inf ∧ inf.size = ti119.size ∧ inf.bytes = ti119.bytes ∧ (∃ z, inf.zero = some z ∧ z.cells = ti119.zero.toArray) ∧ (∀ v ∈ ti119.zero, plainV v = true) ∧ ∃ d, Try.prog.underlying 119 = some d ∧ ShOk d ti119.sh :=
  row_ok (by kernel_rfl) rfl Try.underlying119 ⟨_, _, _, rfl⟩
theorem row120 : ∃ inf, Try.prog.info? 120 = some inf ∧ inf.size = ti120.size ∧ inf.bytes = ti120.bytes ∧ (∃ z, inf.zero = some z ∧ z.cells = ti120.zero.toArray) ∧ (∀ v ∈ ti120.zero, plainV v = true) ∧ ∃ d, Try.prog.underlying 120 = some d ∧ ShOk d ti120.sh :=
  row_ok (by kernel_rfl) rfl Try.underlying120 ⟨_, _, _, rfl⟩
theorem row156 : ∃ inf, Try.prog.info? 156 = some inf ∧ inf.size = ti156.size ∧ inf.bytes = ti156.bytes ∧ (∃ z, inf.zero = some z ∧ z.cells = ti156.zero.toArray) ∧ (∀ v ∈ ti156.zero, plainV v = true) ∧ ∃ d, Try.prog.underlying 156 = some d ∧ ShOk d ti156.sh :=
  row_ok (by kernel_rfl) rfl Try.underlying156 ⟨_, _, _, rfl⟩
theorem row161 : ∃ inf, Try.prog.info? 161 = some inf ∧ inf.size = ti161.size ∧ inf.bytes = ti161.bytes ∧ (∃ z, inf.zero = some z ∧ z.cells = ti161.zero.toArray) ∧ (∀ v ∈ ti161.zero, plainV v = true) ∧ ∃ d, Try.prog.underlying 161 = some d ∧ ShOk d ti161.sh :=
  row_ok (by kernel_rfl) rfl Try.underlying161 rfl
theorem row181 : ∃ inf, Try.prog.info? 181 = some inf ∧ inf.size = ti181.size ∧ inf.bytes = ti181.bytes ∧ (∃ z, inf.zero = some z ∧ z.cells = ti181.zero.toArray) ∧ (∀ v ∈ ti181.zero, plainV v = true) ∧ ∃ d, Try.prog.underlying 181 = some d ∧ ShOk d ti181.sh :=
  row_ok (by kernel_rfl) rfl Try.underlying181 rfl
theorem row183 : ∃ inf, Try.prog.info? 183 = some inf ∧ inf.size = ti183.size ∧ inf.bytes = ti183.bytes ∧ (∃ z, inf.zero = some z ∧ z.cells = ti183.zero.toArray) ∧ (∀ v ∈ ti183.zero, plainV v = true) ∧ ∃ d, Try.prog.underlying 183 = some d ∧ ShOk d ti183.sh :=
  row_ok (by kernel_rfl) rfl Try.underlying183 ⟨_, rfl, rfl⟩
theorem row186 : ∃ inf, Try.prog.info? 186 = some inf ∧ inf.size = ti186.size ∧ inf.bytes = ti186.bytes ∧ (∃ z, inf.zero = some z ∧ z.cells = ti186.zero.toArray) ∧ (∀ v ∈ ti186.zero, plainV v = true) ∧ ∃ d, Try.prog.underlying 186 = some d ∧ ShOk d ti186.sh :=
  row_ok (by kernel_rfl) rfl Try.underlying186 ⟨_, rfl, rfl⟩
theorem row203 : ∃ inf, Try.prog.info? 203 = some inf ∧ inf.size = ti203.size ∧ inf.bytes = ti203.bytes ∧ (∃ z, inf.zero = some z ∧ z.cells = ti203.zero.toArray) ∧ (∀ v ∈ ti203.zero, plainV v = true) ∧ ∃ d, Try.prog.underlying 203 = some d ∧ ShOk d ti203.sh :=
  row_ok (by kernel_rfl) rfl Try.underlying203 ⟨_, rfl, rfl⟩
theorem know_ty : ∀ t i, Γ t = some i → ∃ inf, Try.prog.info? t = some inf ∧ inf.size = i.size ∧ inf.bytes = i.bytes ∧ (∃ z, inf.zero = some z ∧ z.cells = i.zero.toArray) ∧ (∀ v ∈ i.zero, plainV v = true) ∧ ∃ d, Try.prog.underlying t = some d ∧ ShOk d i.sh := by
  intro t i h
  unfold Γ at h
  split at h
  · injection h with h; subst h; exact row3
  · injection h with h; subst h; exact row4
  · injection h with h; subst h; exact row5
  · injection h with h; subst h; exact row9
  · injection h with h; subst h; exact row22
  · injection h with h; subst h; exact row24
  · injection h with h; subst h; exact row26
  · injection h with h; subst h; exact row29
  · injection h with h; subst h; exact row31
  · injection h with h; subst h; exact row45
  · injection h with h; subst h; exact row57
  · injection h with h; subst h; exact row58
  · injection h with h; subst h; exact row60
  · injection h with h; subst h; exact row62
  · injection h with h; subst h; exact row64
  · injection h with h; subst h; exact row66
  · injection h with h; subst h; exact row68
  · injection h with h; subst h; exact row70
  · injection h with h; subst h; exact row72
  · injection h with h; subst h; exact row74
  · injection h with h; subst h; exact row105
  · injection h with h; subst h; exact row106
  · injection h with h; subst h; exact row107
  · injection h with h; subst h; exact row109
  · injection h with h; subst h; exact row117
  · injection h with h; subst h; exact row119
  · injection h with h; subst h; exact row120
  · injection h with h; subst h; exact row156
  · injection h with h; subst h; exact row161
  · injection h with h; subst h; exact row181
  · injection h with h; subst h; exact row183
  · injection h with h; subst h; exact row186
  · injection h with h; subst h; exact row203
  · cases h
theorem know : Know Try.prog Γ E := ⟨know_ty, fun t h => absurd rfl h, fun t h => absurd rfl h, by kernel_rfl⟩
@[go_sem] theorem fa_24_0 : fa Γ 24 0 = some 0 := nr rfl
@[go_sem] theorem fa_24_1 : fa Γ 24 1 = some 1 := nr rfl
@[go_sem] theorem fa_31_0 : fa Γ 31 0 = some 0 := nr rfl
@[go_sem] theorem fa_31_1 : fa Γ 31 1 = some 1 := nr rfl
@[go_sem] theorem fa_60_0 : fa Γ 60 0 = some 0 := nr rfl
@[go_sem] theorem fa_60_1 : fa Γ 60 1 = some 1 := nr rfl
@[go_sem] theorem fa_60_2 : fa Γ 60 2 = some 2 := nr rfl
@[go_sem] theorem fa_60_3 : fa Γ 60 3 = some 3 := nr rfl
@[go_sem] theorem fa_62_0 : fa Γ 62 0 = some 0 := nr rfl
@[go_sem] theorem fa_62_1 : fa Γ 62 1 = some 1 := nr rfl
@[go_sem] theorem fa_62_2 : fa Γ 62 2 = some 2 := nr rfl
@[go_sem] theorem fa_66_0 : fa Γ 66 0 = some 0 := nr rfl
@[go_sem] theorem fa_66_1 : fa Γ 66 1 = some 1 := nr rfl
@[go_sem] theorem fa_68_0 : fa Γ 68 0 = some 0 := nr rfl
@[go_sem] theorem fa_68_1 : fa Γ 68 1 = some 1 := nr rfl
@[go_sem] theorem fa_70_0 : fa Γ 70 0 = some 0 := nr rfl
@[go_sem] theorem fa_70_1 : fa Γ 70 1 = some 1 := nr rfl
@[go_sem] theorem fa_70_2 : fa Γ 70 2 = some 2 := nr rfl
@[go_sem] theorem fa_70_3 : fa Γ 70 3 = some 3 := nr rfl
@[go_sem] theorem fa_70_4 : fa Γ 70 4 = some 4 := nr rfl
@[go_sem] theorem fa_74_0 : fa Γ 74 0 = some 0 := nr rfl
@[go_sem] theorem fa_74_1 : fa Γ 74 1 = some 1 := nr rfl
@[go_sem] theorem fa_107_0 : fa Γ 107 0 = some 0 := nr rfl
@[go_sem] theorem fa_107_1 : fa Γ 107 1 = some 1 := nr rfl
@[go_sem] theorem fa_107_2 : fa Γ 107 2 = some 2 := nr rfl
@[go_sem] theorem fa_107_3 : fa Γ 107 3 = some 3 := nr rfl
@[go_sem] theorem fa_109_0 : fa Γ 109 0 = some 0 := nr rfl
@[go_sem] theorem fa_109_1 : fa Γ 109 1 = some 1 := nr rfl
@[go_sem] theorem fa_109_2 : fa Γ 109 2 = some 2 := nr rfl
@[go_sem] theorem fa_183_0 : fa Γ 183 0 = some 0 := nr rfl
@[go_sem] theorem fa_183_1 : fa Γ 183 1 = some 1 := nr rfl
@[go_sem] theorem fa_186_0 : fa Γ 186 0 = some 0 := nr rfl
@[go_sem] theorem fa_186_1 : fa Γ 186 1 = some 1 := nr rfl
@[go_sem] theorem fa_186_2 : fa Γ 186 2 = some 2 := nr rfl
@[go_sem] theorem fa_186_3 : fa Γ 186 3 = some 3 := nr rfl
@[go_sem] theorem fa_186_4 : fa Γ 186 4 = some 4 := nr rfl
@[go_sem] theorem fa_203_0 : fa Γ 203 0 = some 0 := nr rfl
@[go_sem] theorem fa_203_1 : fa Γ 203 1 = some 1 := nr rfl
@[go_sem] theorem ld_3 {n o : Nat} {h : Hp} : ldv Γ 3 (.pointer (some ⟨n, o, none⟩)) h = h.cell n o := nr rfl
@[go_sem] theorem sv_3 {n o : Nat} {x : Value} {h : Hp} : stv Γ 3 (.pointer (some ⟨n, o, none⟩)) x h = stC n o 1 x h := nr rfl
@[go_sem] theorem za_3 {nm : Nat} : (Γ 3).map (fun t => (Value.pointer (some ⟨nm, 0, none⟩), ({ cells := t.zero, rw := true } : Blk))) = some (.pointer (some ⟨nm, 0, none⟩), { cells := [Value.int IntKind.i64 0], rw := true }) := nr rfl
@[go_sem] theorem nb_4 {a b : Bool} : binV Γ E .neq 4 (.bool a) (.bool b) = some (.bool (!(a == b))) := nr rfl
@[go_sem] theorem eb_4 {a b : Bool} : binV Γ E .eql 4 (.bool a) (.bool b) = some (.bool (a == b)) := nr rfl
@[go_sem] theorem ld_4 {n o : Nat} {h : Hp} : ldv Γ 4 (.pointer (some ⟨n, o, none⟩)) h = h.cell n o := nr rfl
@[go_sem] theorem sv_4 {n o : Nat} {x : Value} {h : Hp} : stv Γ 4 (.pointer (some ⟨n, o, none⟩)) x h = stC n o 1 x h := nr rfl
@[go_sem] theorem za_4 {nm : Nat} : (Γ 4).map (fun t => (Value.pointer (some ⟨nm, 0, none⟩), ({ cells := t.zero, rw := true } : Blk))) = some (.pointer (some ⟨nm, 0, none⟩), { cells := [Value.bool false], rw := true }) := nr rfl
@[go_sem] theorem ld_5 {n o : Nat} {h : Hp} : ldv Γ 5 (.pointer (some ⟨n, o, none⟩)) h = h.cell n o := nr rfl
@[go_sem] theorem sv_5 {n o : Nat} {x : Value} {h : Hp} : stv Γ 5 (.pointer (some ⟨n, o, none⟩)) x h = stC n o 1 x h := nr rfl
@[go_sem] theorem za_5 {nm : Nat} : (Γ 5).map (fun t => (Value.pointer (some ⟨nm, 0, none⟩), ({ cells := t.zero, rw := true } : Blk))) = some (.pointer (some ⟨nm, 0, none⟩), { cells := [Value.int IntKind.u8 0], rw := true }) := nr rfl
@[go_sem] theorem st_9 : isStr Γ 9 = some true := nr rfl
@[go_sem] theorem ld_9 {n o : Nat} {h : Hp} : ldv Γ 9 (.pointer (some ⟨n, o, none⟩)) h = h.cell n o := nr rfl
@[go_sem] theorem sv_9 {n o : Nat} {x : Value} {h : Hp} : stv Γ 9 (.pointer (some ⟨n, o, none⟩)) x h = stC n o 1 x h := nr rfl
@[go_sem] theorem za_9 {nm : Nat} : (Γ 9).map (fun t => (Value.pointer (some ⟨nm, 0, none⟩), ({ cells := t.zero, rw := true } : Blk))) = some (.pointer (some ⟨nm, 0, none⟩), { cells := [Value.string ByteArray.empty], rw := true }) := nr rfl
@[go_sem] theorem es_22 : es Γ 22 = some 6 := nr rfl
@[go_sem] theorem st_22 : isStr Γ 22 = some false := nr rfl
theorem mk_22 {nm n : Nat} {kk k' : IntKind} (hn : n < 4294967296) : mkO Γ nm 22 (.int kk (n : Int)) (.int k' (n : Int)) = some (.slice (some ⟨nm, 0, none⟩) n (U 6), { cells := repZ [Value.slice none 0 0, Value.slice none 0 0, Value.int IntKind.i64 0, Value.int IntKind.i64 0, Value.int IntKind.i64 0, Value.int IntKind.i64 0] n, rw := true }) := mkO_ok (i1 := ti109) rfl rfl (by decide) rfl (by decide) hn
theorem bs_22 {C : Rel} {D : DrawR} {Q : Ex → S → Prop} {k : List Fr} {s : S} {base i : Nat} {l : List POp} {d : Option Nat} {len : Nat} {parts : Array (Nat × Operand)} : OpG Γ E C D Q base i (⟨d, none, .buildSlice 22 len parts⟩ :: l) k s = OpK Γ E C D Q base (i + 1) l k s d (base + i) (bsO (base + i) 6 [Value.slice none 0 0, Value.slice none 0 0, Value.int IntKind.i64 0, Value.int IntKind.i64 0, Value.int IntKind.i64 0, Value.int IntKind.i64 0] len (parts.toList.map fun p => (p.1, s.ev p.2))) := op_bs (i1 := ti109) rfl rfl rfl (by decide) rfl
theorem ap_22 {nm : Nat} {x y : Value} {h : Hp} : appendV Γ nm 22 22 x y h = apO 6 nm x h (apT 6 y h) := append_eq (i1 := ti109) rfl rfl (by decide) rfl (by decide) (by decide) rfl
attribute [go_sem] mk_22 bs_22 ap_22
@[go_sem] theorem nn_22 {a : Option Addr} {n c : Nat} : binV Γ E .neq 22 (.slice a n c) (.slice none 0 0) = some (.bool (!a.isNone)) := nr rfl
@[go_sem] theorem en_22 {a : Option Addr} {n c : Nat} : binV Γ E .eql 22 (.slice a n c) (.slice none 0 0) = some (.bool a.isNone) := nr rfl
@[go_sem] theorem ld_22 {n o : Nat} {h : Hp} : ldv Γ 22 (.pointer (some ⟨n, o, none⟩)) h = h.cell n o := nr rfl
@[go_sem] theorem sv_22 {n o : Nat} {x : Value} {h : Hp} : stv Γ 22 (.pointer (some ⟨n, o, none⟩)) x h = stC n o 1 x h := nr rfl
@[go_sem] theorem za_22 {nm : Nat} : (Γ 22).map (fun t => (Value.pointer (some ⟨nm, 0, none⟩), ({ cells := t.zero, rw := true } : Blk))) = some (.pointer (some ⟨nm, 0, none⟩), { cells := [Value.slice none 0 0], rw := true }) := nr rfl
@[go_sem] theorem ld_24 {n o : Nat} {h : Hp} : ldv Γ 24 (.pointer (some ⟨n, o, none⟩)) h = (h.cells n o 2).map fun cs => .agg cs.toArray := nr rfl
@[go_sem] theorem sv_24 {n o : Nat} {x : Value} {h : Hp} : stv Γ 24 (.pointer (some ⟨n, o, none⟩)) x h = stC n o 2 x h := nr rfl
@[go_sem] theorem za_24 {nm : Nat} : (Γ 24).map (fun t => (Value.pointer (some ⟨nm, 0, none⟩), ({ cells := t.zero, rw := true } : Blk))) = some (.pointer (some ⟨nm, 0, none⟩), { cells := [Value.slice none 0 0, Value.int IntKind.i64 0], rw := true }) := nr rfl
@[go_sem] theorem es_26 : es Γ 26 = some 1 := nr rfl
@[go_sem] theorem st_26 : isStr Γ 26 = some false := nr rfl
theorem mk_26 {nm n : Nat} {kk k' : IntKind} (hn : n < 4294967296) : mkO Γ nm 26 (.int kk (n : Int)) (.int k' (n : Int)) = some (.slice (some ⟨nm, 0, none⟩) n (U 1), { cells := repZ [Value.int IntKind.u8 0] n, rw := true }) := mkO_ok (i1 := ti5) rfl rfl (by decide) rfl (by decide) hn
theorem bs_26 {C : Rel} {D : DrawR} {Q : Ex → S → Prop} {k : List Fr} {s : S} {base i : Nat} {l : List POp} {d : Option Nat} {len : Nat} {parts : Array (Nat × Operand)} : OpG Γ E C D Q base i (⟨d, none, .buildSlice 26 len parts⟩ :: l) k s = OpK Γ E C D Q base (i + 1) l k s d (base + i) (bsO (base + i) 1 [Value.int IntKind.u8 0] len (parts.toList.map fun p => (p.1, s.ev p.2))) := op_bs (i1 := ti5) rfl rfl rfl (by decide) rfl
theorem ap_26 {nm : Nat} {x y : Value} {h : Hp} : appendV Γ nm 26 26 x y h = apO 1 nm x h (apT 1 y h) := append_eq (i1 := ti5) rfl rfl (by decide) rfl (by decide) (by decide) rfl
attribute [go_sem] mk_26 bs_26 ap_26
@[go_sem] theorem nn_26 {a : Option Addr} {n c : Nat} : binV Γ E .neq 26 (.slice a n c) (.slice none 0 0) = some (.bool (!a.isNone)) := nr rfl
@[go_sem] theorem en_26 {a : Option Addr} {n c : Nat} : binV Γ E .eql 26 (.slice a n c) (.slice none 0 0) = some (.bool a.isNone) := nr rfl
@[go_sem] theorem ld_26 {n o : Nat} {h : Hp} : ldv Γ 26 (.pointer (some ⟨n, o, none⟩)) h = h.cell n o := nr rfl
@[go_sem] theorem sv_26 {n o : Nat} {x : Value} {h : Hp} : stv Γ 26 (.pointer (some ⟨n, o, none⟩)) x h = stC n o 1 x h := nr rfl
@[go_sem] theorem za_26 {nm : Nat} : (Γ 26).map (fun t => (Value.pointer (some ⟨nm, 0, none⟩), ({ cells := t.zero, rw := true } : Blk))) = some (.pointer (some ⟨nm, 0, none⟩), { cells := [Value.slice none 0 0], rw := true }) := nr rfl
@[go_sem] theorem es_29 : es Γ 29 = some 6 := nr rfl
@[go_sem] theorem st_29 : isStr Γ 29 = some false := nr rfl
theorem mk_29 {nm n : Nat} {kk k' : IntKind} (hn : n < 4294967296) : mkO Γ nm 29 (.int kk (n : Int)) (.int k' (n : Int)) = some (.slice (some ⟨nm, 0, none⟩) n (U 6), { cells := repZ [Value.slice none 0 0, Value.slice none 0 0, Value.int IntKind.i64 0, Value.int IntKind.i64 0, Value.int IntKind.i64 0, Value.int IntKind.i64 0] n, rw := true }) := mkO_ok (i1 := ti62) rfl rfl (by decide) rfl (by decide) hn
theorem bs_29 {C : Rel} {D : DrawR} {Q : Ex → S → Prop} {k : List Fr} {s : S} {base i : Nat} {l : List POp} {d : Option Nat} {len : Nat} {parts : Array (Nat × Operand)} : OpG Γ E C D Q base i (⟨d, none, .buildSlice 29 len parts⟩ :: l) k s = OpK Γ E C D Q base (i + 1) l k s d (base + i) (bsO (base + i) 6 [Value.slice none 0 0, Value.slice none 0 0, Value.int IntKind.i64 0, Value.int IntKind.i64 0, Value.int IntKind.i64 0, Value.int IntKind.i64 0] len (parts.toList.map fun p => (p.1, s.ev p.2))) := op_bs (i1 := ti62) rfl rfl rfl (by decide) rfl
theorem ap_29 {nm : Nat} {x y : Value} {h : Hp} : appendV Γ nm 29 29 x y h = apO 6 nm x h (apT 6 y h) := append_eq (i1 := ti62) rfl rfl (by decide) rfl (by decide) (by decide) rfl
attribute [go_sem] mk_29 bs_29 ap_29
@[go_sem] theorem nn_29 {a : Option Addr} {n c : Nat} : binV Γ E .neq 29 (.slice a n c) (.slice none 0 0) = some (.bool (!a.isNone)) := nr rfl
@[go_sem] theorem en_29 {a : Option Addr} {n c : Nat} : binV Γ E .eql 29 (.slice a n c) (.slice none 0 0) = some (.bool a.isNone) := nr rfl
@[go_sem] theorem ld_29 {n o : Nat} {h : Hp} : ldv Γ 29 (.pointer (some ⟨n, o, none⟩)) h = h.cell n o := nr rfl
@[go_sem] theorem sv_29 {n o : Nat} {x : Value} {h : Hp} : stv Γ 29 (.pointer (some ⟨n, o, none⟩)) x h = stC n o 1 x h := nr rfl
@[go_sem] theorem za_29 {nm : Nat} : (Γ 29).map (fun t => (Value.pointer (some ⟨nm, 0, none⟩), ({ cells := t.zero, rw := true } : Blk))) = some (.pointer (some ⟨nm, 0, none⟩), { cells := [Value.slice none 0 0], rw := true }) := nr rfl
@[go_sem] theorem ld_31 {n o : Nat} {h : Hp} : ldv Γ 31 (.pointer (some ⟨n, o, none⟩)) h = (h.cells n o 2).map fun cs => .agg cs.toArray := nr rfl
@[go_sem] theorem sv_31 {n o : Nat} {x : Value} {h : Hp} : stv Γ 31 (.pointer (some ⟨n, o, none⟩)) x h = stC n o 2 x h := nr rfl
@[go_sem] theorem za_31 {nm : Nat} : (Γ 31).map (fun t => (Value.pointer (some ⟨nm, 0, none⟩), ({ cells := t.zero, rw := true } : Blk))) = some (.pointer (some ⟨nm, 0, none⟩), { cells := [Value.slice none 0 0, Value.int IntKind.i64 0], rw := true }) := nr rfl
@[go_sem] theorem es_45 : es Γ 45 = some 1 := nr rfl
@[go_sem] theorem st_45 : isStr Γ 45 = some false := nr rfl
theorem mk_45 {nm n : Nat} {kk k' : IntKind} (hn : n < 4294967296) : mkO Γ nm 45 (.int kk (n : Int)) (.int k' (n : Int)) = some (.slice (some ⟨nm, 0, none⟩) n (U 1), { cells := repZ [Value.int IntKind.i64 0] n, rw := true }) := mkO_ok (i1 := ti3) rfl rfl (by decide) rfl (by decide) hn
theorem bs_45 {C : Rel} {D : DrawR} {Q : Ex → S → Prop} {k : List Fr} {s : S} {base i : Nat} {l : List POp} {d : Option Nat} {len : Nat} {parts : Array (Nat × Operand)} : OpG Γ E C D Q base i (⟨d, none, .buildSlice 45 len parts⟩ :: l) k s = OpK Γ E C D Q base (i + 1) l k s d (base + i) (bsO (base + i) 1 [Value.int IntKind.i64 0] len (parts.toList.map fun p => (p.1, s.ev p.2))) := op_bs (i1 := ti3) rfl rfl rfl (by decide) rfl
theorem ap_45 {nm : Nat} {x y : Value} {h : Hp} : appendV Γ nm 45 45 x y h = apO 1 nm x h (apT 1 y h) := append_eq (i1 := ti3) rfl rfl (by decide) rfl (by decide) (by decide) rfl
attribute [go_sem] mk_45 bs_45 ap_45
@[go_sem] theorem nn_45 {a : Option Addr} {n c : Nat} : binV Γ E .neq 45 (.slice a n c) (.slice none 0 0) = some (.bool (!a.isNone)) := nr rfl
@[go_sem] theorem en_45 {a : Option Addr} {n c : Nat} : binV Γ E .eql 45 (.slice a n c) (.slice none 0 0) = some (.bool a.isNone) := nr rfl
@[go_sem] theorem ld_45 {n o : Nat} {h : Hp} : ldv Γ 45 (.pointer (some ⟨n, o, none⟩)) h = h.cell n o := nr rfl
@[go_sem] theorem sv_45 {n o : Nat} {x : Value} {h : Hp} : stv Γ 45 (.pointer (some ⟨n, o, none⟩)) x h = stC n o 1 x h := nr rfl
@[go_sem] theorem za_45 {nm : Nat} : (Γ 45).map (fun t => (Value.pointer (some ⟨nm, 0, none⟩), ({ cells := t.zero, rw := true } : Blk))) = some (.pointer (some ⟨nm, 0, none⟩), { cells := [Value.slice none 0 0], rw := true }) := nr rfl
@[go_sem] theorem es_57 : es Γ 57 = some 2 := nr rfl
@[go_sem] theorem st_57 : isStr Γ 57 = some false := nr rfl
theorem mk_57 {nm n : Nat} {kk k' : IntKind} (hn : n < 4294967296) : mkO Γ nm 57 (.int kk (n : Int)) (.int k' (n : Int)) = some (.slice (some ⟨nm, 0, none⟩) n (U 2), { cells := repZ [Value.int IntKind.i64 0, Value.slice none 0 0] n, rw := true }) := mkO_ok (i1 := ti66) rfl rfl (by decide) rfl (by decide) hn
theorem bs_57 {C : Rel} {D : DrawR} {Q : Ex → S → Prop} {k : List Fr} {s : S} {base i : Nat} {l : List POp} {d : Option Nat} {len : Nat} {parts : Array (Nat × Operand)} : OpG Γ E C D Q base i (⟨d, none, .buildSlice 57 len parts⟩ :: l) k s = OpK Γ E C D Q base (i + 1) l k s d (base + i) (bsO (base + i) 2 [Value.int IntKind.i64 0, Value.slice none 0 0] len (parts.toList.map fun p => (p.1, s.ev p.2))) := op_bs (i1 := ti66) rfl rfl rfl (by decide) rfl
theorem ap_57 {nm : Nat} {x y : Value} {h : Hp} : appendV Γ nm 57 57 x y h = apO 2 nm x h (apT 2 y h) := append_eq (i1 := ti66) rfl rfl (by decide) rfl (by decide) (by decide) rfl
attribute [go_sem] mk_57 bs_57 ap_57
@[go_sem] theorem nn_57 {a : Option Addr} {n c : Nat} : binV Γ E .neq 57 (.slice a n c) (.slice none 0 0) = some (.bool (!a.isNone)) := nr rfl
@[go_sem] theorem en_57 {a : Option Addr} {n c : Nat} : binV Γ E .eql 57 (.slice a n c) (.slice none 0 0) = some (.bool a.isNone) := nr rfl
@[go_sem] theorem ld_57 {n o : Nat} {h : Hp} : ldv Γ 57 (.pointer (some ⟨n, o, none⟩)) h = h.cell n o := nr rfl
@[go_sem] theorem sv_57 {n o : Nat} {x : Value} {h : Hp} : stv Γ 57 (.pointer (some ⟨n, o, none⟩)) x h = stC n o 1 x h := nr rfl
@[go_sem] theorem za_57 {nm : Nat} : (Γ 57).map (fun t => (Value.pointer (some ⟨nm, 0, none⟩), ({ cells := t.zero, rw := true } : Blk))) = some (.pointer (some ⟨nm, 0, none⟩), { cells := [Value.slice none 0 0], rw := true }) := nr rfl
@[go_sem] theorem es_58 : es Γ 58 = some 5 := nr rfl
@[go_sem] theorem st_58 : isStr Γ 58 = some false := nr rfl
theorem mk_58 {nm n : Nat} {kk k' : IntKind} (hn : n < 4294967296) : mkO Γ nm 58 (.int kk (n : Int)) (.int k' (n : Int)) = some (.slice (some ⟨nm, 0, none⟩) n (U 5), { cells := repZ [Value.int IntKind.i64 0, Value.int IntKind.i64 0, Value.int IntKind.i64 0, Value.int IntKind.i64 0, Value.int IntKind.i64 0] n, rw := true }) := mkO_ok (i1 := ti70) rfl rfl (by decide) rfl (by decide) hn
theorem bs_58 {C : Rel} {D : DrawR} {Q : Ex → S → Prop} {k : List Fr} {s : S} {base i : Nat} {l : List POp} {d : Option Nat} {len : Nat} {parts : Array (Nat × Operand)} : OpG Γ E C D Q base i (⟨d, none, .buildSlice 58 len parts⟩ :: l) k s = OpK Γ E C D Q base (i + 1) l k s d (base + i) (bsO (base + i) 5 [Value.int IntKind.i64 0, Value.int IntKind.i64 0, Value.int IntKind.i64 0, Value.int IntKind.i64 0, Value.int IntKind.i64 0] len (parts.toList.map fun p => (p.1, s.ev p.2))) := op_bs (i1 := ti70) rfl rfl rfl (by decide) rfl
theorem ap_58 {nm : Nat} {x y : Value} {h : Hp} : appendV Γ nm 58 58 x y h = apO 5 nm x h (apT 5 y h) := append_eq (i1 := ti70) rfl rfl (by decide) rfl (by decide) (by decide) rfl
attribute [go_sem] mk_58 bs_58 ap_58
@[go_sem] theorem nn_58 {a : Option Addr} {n c : Nat} : binV Γ E .neq 58 (.slice a n c) (.slice none 0 0) = some (.bool (!a.isNone)) := nr rfl
@[go_sem] theorem en_58 {a : Option Addr} {n c : Nat} : binV Γ E .eql 58 (.slice a n c) (.slice none 0 0) = some (.bool a.isNone) := nr rfl
@[go_sem] theorem ld_58 {n o : Nat} {h : Hp} : ldv Γ 58 (.pointer (some ⟨n, o, none⟩)) h = h.cell n o := nr rfl
@[go_sem] theorem sv_58 {n o : Nat} {x : Value} {h : Hp} : stv Γ 58 (.pointer (some ⟨n, o, none⟩)) x h = stC n o 1 x h := nr rfl
@[go_sem] theorem za_58 {nm : Nat} : (Γ 58).map (fun t => (Value.pointer (some ⟨nm, 0, none⟩), ({ cells := t.zero, rw := true } : Blk))) = some (.pointer (some ⟨nm, 0, none⟩), { cells := [Value.slice none 0 0], rw := true }) := nr rfl
@[go_sem] theorem ld_60 {n o : Nat} {h : Hp} : ldv Γ 60 (.pointer (some ⟨n, o, none⟩)) h = (h.cells n o 4).map fun cs => .agg cs.toArray := nr rfl
@[go_sem] theorem sv_60 {n o : Nat} {x : Value} {h : Hp} : stv Γ 60 (.pointer (some ⟨n, o, none⟩)) x h = stC n o 4 x h := nr rfl
@[go_sem] theorem za_60 {nm : Nat} : (Γ 60).map (fun t => (Value.pointer (some ⟨nm, 0, none⟩), ({ cells := t.zero, rw := true } : Blk))) = some (.pointer (some ⟨nm, 0, none⟩), { cells := [Value.int IntKind.i64 0, Value.int IntKind.i64 0, Value.int IntKind.i64 0, Value.int IntKind.i64 0], rw := true }) := nr rfl
@[go_sem] theorem ld_62 {n o : Nat} {h : Hp} : ldv Γ 62 (.pointer (some ⟨n, o, none⟩)) h = (h.cells n o 6).map fun cs => .agg cs.toArray := nr rfl
@[go_sem] theorem sv_62 {n o : Nat} {x : Value} {h : Hp} : stv Γ 62 (.pointer (some ⟨n, o, none⟩)) x h = stC n o 6 x h := nr rfl
@[go_sem] theorem za_62 {nm : Nat} : (Γ 62).map (fun t => (Value.pointer (some ⟨nm, 0, none⟩), ({ cells := t.zero, rw := true } : Blk))) = some (.pointer (some ⟨nm, 0, none⟩), { cells := [Value.slice none 0 0, Value.slice none 0 0, Value.int IntKind.i64 0, Value.int IntKind.i64 0, Value.int IntKind.i64 0, Value.int IntKind.i64 0], rw := true }) := nr rfl
@[go_sem] theorem es_64 : es Γ 64 = some 2 := nr rfl
@[go_sem] theorem st_64 : isStr Γ 64 = some false := nr rfl
theorem mk_64 {nm n : Nat} {kk k' : IntKind} (hn : n < 4294967296) : mkO Γ nm 64 (.int kk (n : Int)) (.int k' (n : Int)) = some (.slice (some ⟨nm, 0, none⟩) n (U 2), { cells := repZ [Value.int IntKind.i64 0, Value.int IntKind.i64 0] n, rw := true }) := mkO_ok (i1 := ti68) rfl rfl (by decide) rfl (by decide) hn
theorem bs_64 {C : Rel} {D : DrawR} {Q : Ex → S → Prop} {k : List Fr} {s : S} {base i : Nat} {l : List POp} {d : Option Nat} {len : Nat} {parts : Array (Nat × Operand)} : OpG Γ E C D Q base i (⟨d, none, .buildSlice 64 len parts⟩ :: l) k s = OpK Γ E C D Q base (i + 1) l k s d (base + i) (bsO (base + i) 2 [Value.int IntKind.i64 0, Value.int IntKind.i64 0] len (parts.toList.map fun p => (p.1, s.ev p.2))) := op_bs (i1 := ti68) rfl rfl rfl (by decide) rfl
theorem ap_64 {nm : Nat} {x y : Value} {h : Hp} : appendV Γ nm 64 64 x y h = apO 2 nm x h (apT 2 y h) := append_eq (i1 := ti68) rfl rfl (by decide) rfl (by decide) (by decide) rfl
attribute [go_sem] mk_64 bs_64 ap_64
@[go_sem] theorem nn_64 {a : Option Addr} {n c : Nat} : binV Γ E .neq 64 (.slice a n c) (.slice none 0 0) = some (.bool (!a.isNone)) := nr rfl
@[go_sem] theorem en_64 {a : Option Addr} {n c : Nat} : binV Γ E .eql 64 (.slice a n c) (.slice none 0 0) = some (.bool a.isNone) := nr rfl
@[go_sem] theorem ld_64 {n o : Nat} {h : Hp} : ldv Γ 64 (.pointer (some ⟨n, o, none⟩)) h = h.cell n o := nr rfl
@[go_sem] theorem sv_64 {n o : Nat} {x : Value} {h : Hp} : stv Γ 64 (.pointer (some ⟨n, o, none⟩)) x h = stC n o 1 x h := nr rfl
@[go_sem] theorem za_64 {nm : Nat} : (Γ 64).map (fun t => (Value.pointer (some ⟨nm, 0, none⟩), ({ cells := t.zero, rw := true } : Blk))) = some (.pointer (some ⟨nm, 0, none⟩), { cells := [Value.slice none 0 0], rw := true }) := nr rfl
@[go_sem] theorem ld_66 {n o : Nat} {h : Hp} : ldv Γ 66 (.pointer (some ⟨n, o, none⟩)) h = (h.cells n o 2).map fun cs => .agg cs.toArray := nr rfl
@[go_sem] theorem sv_66 {n o : Nat} {x : Value} {h : Hp} : stv Γ 66 (.pointer (some ⟨n, o, none⟩)) x h = stC n o 2 x h := nr rfl
@[go_sem] theorem za_66 {nm : Nat} : (Γ 66).map (fun t => (Value.pointer (some ⟨nm, 0, none⟩), ({ cells := t.zero, rw := true } : Blk))) = some (.pointer (some ⟨nm, 0, none⟩), { cells := [Value.int IntKind.i64 0, Value.slice none 0 0], rw := true }) := nr rfl
@[go_sem] theorem ld_68 {n o : Nat} {h : Hp} : ldv Γ 68 (.pointer (some ⟨n, o, none⟩)) h = (h.cells n o 2).map fun cs => .agg cs.toArray := nr rfl
@[go_sem] theorem sv_68 {n o : Nat} {x : Value} {h : Hp} : stv Γ 68 (.pointer (some ⟨n, o, none⟩)) x h = stC n o 2 x h := nr rfl
@[go_sem] theorem za_68 {nm : Nat} : (Γ 68).map (fun t => (Value.pointer (some ⟨nm, 0, none⟩), ({ cells := t.zero, rw := true } : Blk))) = some (.pointer (some ⟨nm, 0, none⟩), { cells := [Value.int IntKind.i64 0, Value.int IntKind.i64 0], rw := true }) := nr rfl
@[go_sem] theorem ld_70 {n o : Nat} {h : Hp} : ldv Γ 70 (.pointer (some ⟨n, o, none⟩)) h = (h.cells n o 5).map fun cs => .agg cs.toArray := nr rfl
@[go_sem] theorem sv_70 {n o : Nat} {x : Value} {h : Hp} : stv Γ 70 (.pointer (some ⟨n, o, none⟩)) x h = stC n o 5 x h := nr rfl
@[go_sem] theorem za_70 {nm : Nat} : (Γ 70).map (fun t => (Value.pointer (some ⟨nm, 0, none⟩), ({ cells := t.zero, rw := true } : Blk))) = some (.pointer (some ⟨nm, 0, none⟩), { cells := [Value.int IntKind.i64 0, Value.int IntKind.i64 0, Value.int IntKind.i64 0, Value.int IntKind.i64 0, Value.int IntKind.i64 0], rw := true }) := nr rfl
@[go_sem] theorem ld_72 {n o : Nat} {h : Hp} : ldv Γ 72 (.pointer (some ⟨n, o, none⟩)) h = h.cell n o := nr rfl
@[go_sem] theorem sv_72 {n o : Nat} {x : Value} {h : Hp} : stv Γ 72 (.pointer (some ⟨n, o, none⟩)) x h = stC n o 1 x h := nr rfl
@[go_sem] theorem za_72 {nm : Nat} : (Γ 72).map (fun t => (Value.pointer (some ⟨nm, 0, none⟩), ({ cells := t.zero, rw := true } : Blk))) = some (.pointer (some ⟨nm, 0, none⟩), { cells := [Value.pointer none], rw := true }) := nr rfl
@[go_sem] theorem ld_74 {n o : Nat} {h : Hp} : ldv Γ 74 (.pointer (some ⟨n, o, none⟩)) h = (h.cells n o 2).map fun cs => .agg cs.toArray := nr rfl
@[go_sem] theorem sv_74 {n o : Nat} {x : Value} {h : Hp} : stv Γ 74 (.pointer (some ⟨n, o, none⟩)) x h = stC n o 2 x h := nr rfl
@[go_sem] theorem za_74 {nm : Nat} : (Γ 74).map (fun t => (Value.pointer (some ⟨nm, 0, none⟩), ({ cells := t.zero, rw := true } : Blk))) = some (.pointer (some ⟨nm, 0, none⟩), { cells := [Value.slice none 0 0, Value.bool false], rw := true }) := nr rfl
@[go_sem] theorem es_105 : es Γ 105 = some 2 := nr rfl
@[go_sem] theorem st_105 : isStr Γ 105 = some false := nr rfl
theorem mk_105 {nm n : Nat} {kk k' : IntKind} (hn : n < 4294967296) : mkO Γ nm 105 (.int kk (n : Int)) (.int k' (n : Int)) = some (.slice (some ⟨nm, 0, none⟩) n (U 2), { cells := repZ [Value.int IntKind.i64 0, Value.slice none 0 0] n, rw := true }) := mkO_ok (i1 := ti183) rfl rfl (by decide) rfl (by decide) hn
theorem bs_105 {C : Rel} {D : DrawR} {Q : Ex → S → Prop} {k : List Fr} {s : S} {base i : Nat} {l : List POp} {d : Option Nat} {len : Nat} {parts : Array (Nat × Operand)} : OpG Γ E C D Q base i (⟨d, none, .buildSlice 105 len parts⟩ :: l) k s = OpK Γ E C D Q base (i + 1) l k s d (base + i) (bsO (base + i) 2 [Value.int IntKind.i64 0, Value.slice none 0 0] len (parts.toList.map fun p => (p.1, s.ev p.2))) := op_bs (i1 := ti183) rfl rfl rfl (by decide) rfl
theorem ap_105 {nm : Nat} {x y : Value} {h : Hp} : appendV Γ nm 105 105 x y h = apO 2 nm x h (apT 2 y h) := append_eq (i1 := ti183) rfl rfl (by decide) rfl (by decide) (by decide) rfl
attribute [go_sem] mk_105 bs_105 ap_105
@[go_sem] theorem nn_105 {a : Option Addr} {n c : Nat} : binV Γ E .neq 105 (.slice a n c) (.slice none 0 0) = some (.bool (!a.isNone)) := nr rfl
@[go_sem] theorem en_105 {a : Option Addr} {n c : Nat} : binV Γ E .eql 105 (.slice a n c) (.slice none 0 0) = some (.bool a.isNone) := nr rfl
@[go_sem] theorem ld_105 {n o : Nat} {h : Hp} : ldv Γ 105 (.pointer (some ⟨n, o, none⟩)) h = h.cell n o := nr rfl
@[go_sem] theorem sv_105 {n o : Nat} {x : Value} {h : Hp} : stv Γ 105 (.pointer (some ⟨n, o, none⟩)) x h = stC n o 1 x h := nr rfl
@[go_sem] theorem za_105 {nm : Nat} : (Γ 105).map (fun t => (Value.pointer (some ⟨nm, 0, none⟩), ({ cells := t.zero, rw := true } : Blk))) = some (.pointer (some ⟨nm, 0, none⟩), { cells := [Value.slice none 0 0], rw := true }) := nr rfl
@[go_sem] theorem es_106 : es Γ 106 = some 5 := nr rfl
@[go_sem] theorem st_106 : isStr Γ 106 = some false := nr rfl
theorem mk_106 {nm n : Nat} {kk k' : IntKind} (hn : n < 4294967296) : mkO Γ nm 106 (.int kk (n : Int)) (.int k' (n : Int)) = some (.slice (some ⟨nm, 0, none⟩) n (U 5), { cells := repZ [Value.int IntKind.i64 0, Value.int IntKind.i64 0, Value.int IntKind.i64 0, Value.int IntKind.i64 0, Value.int IntKind.i64 0] n, rw := true }) := mkO_ok (i1 := ti186) rfl rfl (by decide) rfl (by decide) hn
theorem bs_106 {C : Rel} {D : DrawR} {Q : Ex → S → Prop} {k : List Fr} {s : S} {base i : Nat} {l : List POp} {d : Option Nat} {len : Nat} {parts : Array (Nat × Operand)} : OpG Γ E C D Q base i (⟨d, none, .buildSlice 106 len parts⟩ :: l) k s = OpK Γ E C D Q base (i + 1) l k s d (base + i) (bsO (base + i) 5 [Value.int IntKind.i64 0, Value.int IntKind.i64 0, Value.int IntKind.i64 0, Value.int IntKind.i64 0, Value.int IntKind.i64 0] len (parts.toList.map fun p => (p.1, s.ev p.2))) := op_bs (i1 := ti186) rfl rfl rfl (by decide) rfl
theorem ap_106 {nm : Nat} {x y : Value} {h : Hp} : appendV Γ nm 106 106 x y h = apO 5 nm x h (apT 5 y h) := append_eq (i1 := ti186) rfl rfl (by decide) rfl (by decide) (by decide) rfl
attribute [go_sem] mk_106 bs_106 ap_106
@[go_sem] theorem nn_106 {a : Option Addr} {n c : Nat} : binV Γ E .neq 106 (.slice a n c) (.slice none 0 0) = some (.bool (!a.isNone)) := nr rfl
@[go_sem] theorem en_106 {a : Option Addr} {n c : Nat} : binV Γ E .eql 106 (.slice a n c) (.slice none 0 0) = some (.bool a.isNone) := nr rfl
@[go_sem] theorem ld_106 {n o : Nat} {h : Hp} : ldv Γ 106 (.pointer (some ⟨n, o, none⟩)) h = h.cell n o := nr rfl
@[go_sem] theorem sv_106 {n o : Nat} {x : Value} {h : Hp} : stv Γ 106 (.pointer (some ⟨n, o, none⟩)) x h = stC n o 1 x h := nr rfl
@[go_sem] theorem za_106 {nm : Nat} : (Γ 106).map (fun t => (Value.pointer (some ⟨nm, 0, none⟩), ({ cells := t.zero, rw := true } : Blk))) = some (.pointer (some ⟨nm, 0, none⟩), { cells := [Value.slice none 0 0], rw := true }) := nr rfl
@[go_sem] theorem ld_107 {n o : Nat} {h : Hp} : ldv Γ 107 (.pointer (some ⟨n, o, none⟩)) h = (h.cells n o 4).map fun cs => .agg cs.toArray := nr rfl
@[go_sem] theorem sv_107 {n o : Nat} {x : Value} {h : Hp} : stv Γ 107 (.pointer (some ⟨n, o, none⟩)) x h = stC n o 4 x h := nr rfl
@[go_sem] theorem za_107 {nm : Nat} : (Γ 107).map (fun t => (Value.pointer (some ⟨nm, 0, none⟩), ({ cells := t.zero, rw := true } : Blk))) = some (.pointer (some ⟨nm, 0, none⟩), { cells := [Value.int IntKind.i64 0, Value.int IntKind.i64 0, Value.int IntKind.i64 0, Value.int IntKind.i64 0], rw := true }) := nr rfl
@[go_sem] theorem ld_109 {n o : Nat} {h : Hp} : ldv Γ 109 (.pointer (some ⟨n, o, none⟩)) h = (h.cells n o 6).map fun cs => .agg cs.toArray := nr rfl
@[go_sem] theorem sv_109 {n o : Nat} {x : Value} {h : Hp} : stv Γ 109 (.pointer (some ⟨n, o, none⟩)) x h = stC n o 6 x h := nr rfl
@[go_sem] theorem za_109 {nm : Nat} : (Γ 109).map (fun t => (Value.pointer (some ⟨nm, 0, none⟩), ({ cells := t.zero, rw := true } : Blk))) = some (.pointer (some ⟨nm, 0, none⟩), { cells := [Value.slice none 0 0, Value.slice none 0 0, Value.int IntKind.i64 0, Value.int IntKind.i64 0, Value.int IntKind.i64 0, Value.int IntKind.i64 0], rw := true }) := nr rfl
@[go_sem] theorem ld_117 {n o : Nat} {h : Hp} : ldv Γ 117 (.pointer (some ⟨n, o, none⟩)) h = h.cell n o := nr rfl
@[go_sem] theorem sv_117 {n o : Nat} {x : Value} {h : Hp} : stv Γ 117 (.pointer (some ⟨n, o, none⟩)) x h = stC n o 1 x h := nr rfl
@[go_sem] theorem za_117 {nm : Nat} : (Γ 117).map (fun t => (Value.pointer (some ⟨nm, 0, none⟩), ({ cells := t.zero, rw := true } : Blk))) = some (.pointer (some ⟨nm, 0, none⟩), { cells := [Value.nilFunc], rw := true }) := nr rfl
@[go_sem] theorem ld_119 {n o : Nat} {h : Hp} : ldv Γ 119 (.pointer (some ⟨n, o, none⟩)) h = h.cell n o := nr rfl
@[go_sem] theorem sv_119 {n o : Nat} {x : Value} {h : Hp} : stv Γ 119 (.pointer (some ⟨n, o, none⟩)) x h = stC n o 1 x h := nr rfl
@[go_sem] theorem za_119 {nm : Nat} : (Γ 119).map (fun t => (Value.pointer (some ⟨nm, 0, none⟩), ({ cells := t.zero, rw := true } : Blk))) = some (.pointer (some ⟨nm, 0, none⟩), { cells := [Value.nilFunc], rw := true }) := nr rfl
@[go_sem] theorem ld_120 {n o : Nat} {h : Hp} : ldv Γ 120 (.pointer (some ⟨n, o, none⟩)) h = h.cell n o := nr rfl
@[go_sem] theorem sv_120 {n o : Nat} {x : Value} {h : Hp} : stv Γ 120 (.pointer (some ⟨n, o, none⟩)) x h = stC n o 1 x h := nr rfl
@[go_sem] theorem za_120 {nm : Nat} : (Γ 120).map (fun t => (Value.pointer (some ⟨nm, 0, none⟩), ({ cells := t.zero, rw := true } : Blk))) = some (.pointer (some ⟨nm, 0, none⟩), { cells := [Value.nilFunc], rw := true }) := nr rfl
@[go_sem] theorem ld_156 {n o : Nat} {h : Hp} : ldv Γ 156 (.pointer (some ⟨n, o, none⟩)) h = h.cell n o := nr rfl
@[go_sem] theorem sv_156 {n o : Nat} {x : Value} {h : Hp} : stv Γ 156 (.pointer (some ⟨n, o, none⟩)) x h = stC n o 1 x h := nr rfl
@[go_sem] theorem za_156 {nm : Nat} : (Γ 156).map (fun t => (Value.pointer (some ⟨nm, 0, none⟩), ({ cells := t.zero, rw := true } : Blk))) = some (.pointer (some ⟨nm, 0, none⟩), { cells := [Value.nilFunc], rw := true }) := nr rfl
@[go_sem] theorem ld_161 {n o : Nat} {h : Hp} : ldv Γ 161 (.pointer (some ⟨n, o, none⟩)) h = h.cell n o := nr rfl
@[go_sem] theorem sv_161 {n o : Nat} {x : Value} {h : Hp} : stv Γ 161 (.pointer (some ⟨n, o, none⟩)) x h = stC n o 1 x h := nr rfl
@[go_sem] theorem za_161 {nm : Nat} : (Γ 161).map (fun t => (Value.pointer (some ⟨nm, 0, none⟩), ({ cells := t.zero, rw := true } : Blk))) = some (.pointer (some ⟨nm, 0, none⟩), { cells := [Value.int IntKind.u64 0], rw := true }) := nr rfl
@[go_sem] theorem es_181 : es Γ 181 = some 2 := nr rfl
@[go_sem] theorem st_181 : isStr Γ 181 = some false := nr rfl
theorem mk_181 {nm n : Nat} {kk k' : IntKind} (hn : n < 4294967296) : mkO Γ nm 181 (.int kk (n : Int)) (.int k' (n : Int)) = some (.slice (some ⟨nm, 0, none⟩) n (U 2), { cells := repZ [Value.int IntKind.i64 0, Value.int IntKind.i64 0] n, rw := true }) := mkO_ok (i1 := ti203) rfl rfl (by decide) rfl (by decide) hn
theorem bs_181 {C : Rel} {D : DrawR} {Q : Ex → S → Prop} {k : List Fr} {s : S} {base i : Nat} {l : List POp} {d : Option Nat} {len : Nat} {parts : Array (Nat × Operand)} : OpG Γ E C D Q base i (⟨d, none, .buildSlice 181 len parts⟩ :: l) k s = OpK Γ E C D Q base (i + 1) l k s d (base + i) (bsO (base + i) 2 [Value.int IntKind.i64 0, Value.int IntKind.i64 0] len (parts.toList.map fun p => (p.1, s.ev p.2))) := op_bs (i1 := ti203) rfl rfl rfl (by decide) rfl
theorem ap_181 {nm : Nat} {x y : Value} {h : Hp} : appendV Γ nm 181 181 x y h = apO 2 nm x h (apT 2 y h) := append_eq (i1 := ti203) rfl rfl (by decide) rfl (by decide) (by decide) rfl
attribute [go_sem] mk_181 bs_181 ap_181
@[go_sem] theorem nn_181 {a : Option Addr} {n c : Nat} : binV Γ E .neq 181 (.slice a n c) (.slice none 0 0) = some (.bool (!a.isNone)) := nr rfl
@[go_sem] theorem en_181 {a : Option Addr} {n c : Nat} : binV Γ E .eql 181 (.slice a n c) (.slice none 0 0) = some (.bool a.isNone) := nr rfl
@[go_sem] theorem ld_181 {n o : Nat} {h : Hp} : ldv Γ 181 (.pointer (some ⟨n, o, none⟩)) h = h.cell n o := nr rfl
@[go_sem] theorem sv_181 {n o : Nat} {x : Value} {h : Hp} : stv Γ 181 (.pointer (some ⟨n, o, none⟩)) x h = stC n o 1 x h := nr rfl
@[go_sem] theorem za_181 {nm : Nat} : (Γ 181).map (fun t => (Value.pointer (some ⟨nm, 0, none⟩), ({ cells := t.zero, rw := true } : Blk))) = some (.pointer (some ⟨nm, 0, none⟩), { cells := [Value.slice none 0 0], rw := true }) := nr rfl
@[go_sem] theorem ld_183 {n o : Nat} {h : Hp} : ldv Γ 183 (.pointer (some ⟨n, o, none⟩)) h = (h.cells n o 2).map fun cs => .agg cs.toArray := nr rfl
@[go_sem] theorem sv_183 {n o : Nat} {x : Value} {h : Hp} : stv Γ 183 (.pointer (some ⟨n, o, none⟩)) x h = stC n o 2 x h := nr rfl
@[go_sem] theorem za_183 {nm : Nat} : (Γ 183).map (fun t => (Value.pointer (some ⟨nm, 0, none⟩), ({ cells := t.zero, rw := true } : Blk))) = some (.pointer (some ⟨nm, 0, none⟩), { cells := [Value.int IntKind.i64 0, Value.slice none 0 0], rw := true }) := nr rfl
@[go_sem] theorem ld_186 {n o : Nat} {h : Hp} : ldv Γ 186 (.pointer (some ⟨n, o, none⟩)) h = (h.cells n o 5).map fun cs => .agg cs.toArray := nr rfl
@[go_sem] theorem sv_186 {n o : Nat} {x : Value} {h : Hp} : stv Γ 186 (.pointer (some ⟨n, o, none⟩)) x h = stC n o 5 x h := nr rfl
@[go_sem] theorem za_186 {nm : Nat} : (Γ 186).map (fun t => (Value.pointer (some ⟨nm, 0, none⟩), ({ cells := t.zero, rw := true } : Blk))) = some (.pointer (some ⟨nm, 0, none⟩), { cells := [Value.int IntKind.i64 0, Value.int IntKind.i64 0, Value.int IntKind.i64 0, Value.int IntKind.i64 0, Value.int IntKind.i64 0], rw := true }) := nr rfl
@[go_sem] theorem ld_203 {n o : Nat} {h : Hp} : ldv Γ 203 (.pointer (some ⟨n, o, none⟩)) h = (h.cells n o 2).map fun cs => .agg cs.toArray := nr rfl
@[go_sem] theorem sv_203 {n o : Nat} {x : Value} {h : Hp} : stv Γ 203 (.pointer (some ⟨n, o, none⟩)) x h = stC n o 2 x h := nr rfl
@[go_sem] theorem za_203 {nm : Nat} : (Γ 203).map (fun t => (Value.pointer (some ⟨nm, 0, none⟩), ({ cells := t.zero, rw := true } : Blk))) = some (.pointer (some ⟨nm, 0, none⟩), { cells := [Value.int IntKind.i64 0, Value.int IntKind.i64 0], rw := true }) := nr rfl
@[go_sem] theorem cv_3_5 {C : Rel} {D : DrawR} {Q : Ex → S → Prop} {k : List Fr} {s : S} {base i : Nat} {l : List POp} {d : Option Nat} {x : Operand} : OpG Γ E C D Q base i (⟨d, none, .convert 3 5 x⟩ :: l) k s = OpV Γ E C D Q base (i + 1) l k s d (cvI .u8 (s.ev x)) := op_cvI rfl rfl
@[go_sem] theorem cv_3_161 {C : Rel} {D : DrawR} {Q : Ex → S → Prop} {k : List Fr} {s : S} {base i : Nat} {l : List POp} {d : Option Nat} {x : Operand} : OpG Γ E C D Q base i (⟨d, none, .convert 3 161 x⟩ :: l) k s = OpV Γ E C D Q base (i + 1) l k s d (cvI .u64 (s.ev x)) := op_cvI rfl rfl
@[go_sem] theorem cv_9_26 {C : Rel} {D : DrawR} {Q : Ex → S → Prop} {k : List Fr} {s : S} {base i : Nat} {l : List POp} {d : Option Nat} {x : Operand} : OpG Γ E C D Q base i (⟨d, none, .convert 9 26 x⟩ :: l) k s = OpK Γ E C D Q base (i + 1) l k s d (base + i) (cvB (base + i) (s.ev x)) := op_cvB rfl rfl rfl
@[go_sem] theorem cv_161_5 {C : Rel} {D : DrawR} {Q : Ex → S → Prop} {k : List Fr} {s : S} {base i : Nat} {l : List POp} {d : Option Nat} {x : Operand} : OpG Γ E C D Q base i (⟨d, none, .convert 161 5 x⟩ :: l) k s = OpV Γ E C D Q base (i + 1) l k s d (cvI .u8 (s.ev x)) := op_cvI rfl rfl
def F_laws_FnExactPackFn : FuncId := 3
def F_laws_szFn : FuncId := 7
def F_spec_PackFn : FuncId := 8
def F_laws_toFn : FuncId := 9
def F_impl_PackFn : FuncId := 10
def F_laws_eqByteS : FuncId := 11
def F_laws_eqFn : FuncId := 12
def F_laws_markFn : FuncId := 13
def F_laws_markByteS : FuncId := 14
def F_laws_heldByteS : FuncId := 15
def F_laws_szBlockS : FuncId := 33
def F_spec_ShapeOk : FuncId := 34
def F_spec_l19Nums : FuncId := 35
def F_spec_PackNum : FuncId := 36
def F_laws_toBlockS : FuncId := 37
def F_impl_ShapeOk : FuncId := 38
def F_impl_packer_put : FuncId := 39
def F_laws_eqBlockS : FuncId := 40
def F_laws_markBlockS : FuncId := 41
def F_laws_szBlock : FuncId := 61
def F_spec_l1In : FuncId := 62
def F_spec_l2Term : FuncId := 63
def F_spec_l2Phi : FuncId := 64
def F_spec_l2Ins : FuncId := 65
def F_laws_toBlock : FuncId := 66
def F_impl_in : FuncId := 67
def F_slices_ContainsFunc_impl_Block : FuncId := 68
def F_impl_ShapeOk_1 : FuncId := 69
def F_impl_termOk : FuncId := 70
def F_slices_ContainsFunc_impl_Phi : FuncId := 71
def F_impl_ShapeOk_1_1 : FuncId := 72
def F_impl_phiOk : FuncId := 73
def F_slices_ContainsFunc_impl_Ins : FuncId := 74
def F_impl_ShapeOk_1_2 : FuncId := 75
def F_impl_insOk : FuncId := 76
def F_impl_PackNum : FuncId := 77
def F_laws_eqBlock : FuncId := 78
def F_laws_markPhiS : FuncId := 79
def F_laws_markInsS : FuncId := 80
def F_laws_szPhiS : FuncId := 100
def F_laws_szInsS : FuncId := 101
def F_spec_l2Value : FuncId := 102
def F_spec_WordOk : FuncId := 103
def F_laws_toPhiS : FuncId := 104
def F_laws_toInsS : FuncId := 105
def F_laws_toTerm : FuncId := 106
def F_slices_IndexFunc_impl_Block : FuncId := 107
def F_impl_partOk : FuncId := 108
def F_slices_IndexFunc_impl_Phi : FuncId := 109
def F_slices_ContainsFunc_impl_Arm : FuncId := 110
def F_impl_phiOk_1 : FuncId := 111
def F_slices_IndexFunc_impl_Ins : FuncId := 112
def F_impl_formOf : FuncId := 113
def F_impl_has : FuncId := 114
def F_laws_eqPhiS : FuncId := 115
def F_laws_eqInsS : FuncId := 116
def F_laws_eqTerm : FuncId := 117
def F_laws_markArmS : FuncId := 118
def F_slices_Contains_byte : FuncId := 129
def F_laws_szPhi : FuncId := 141
def F_laws_toPhi : FuncId := 142
def F_laws_toIns : FuncId := 143
def F_slices_IndexFunc_impl_Arm : FuncId := 144
def F_impl_WordOk : FuncId := 145
def F_laws_eqPhi : FuncId := 146
def F_laws_eqIns : FuncId := 147
def F_slices_Index_byte : FuncId := 149
def F_laws_szArmS : FuncId := 156
def F_laws_toArmS : FuncId := 157
def F_laws_eqArmS : FuncId := 158
def F_laws_toArm : FuncId := 160
def F_laws_eqArm : FuncId := 161
noncomputable def F : FuncId → Option Func
  | 3 => some Try.f3
  | 7 => some Try.f7
  | 8 => some Try.f8
  | 9 => some Try.f9
  | 10 => some Try.f10
  | 11 => some Try.f11
  | 12 => some Try.f12
  | 13 => some Try.f13
  | 14 => some Try.f14
  | 15 => some Try.f15
  | 33 => some Try.f33
  | 34 => some Try.f34
  | 35 => some Try.f35
  | 36 => some Try.f36
  | 37 => some Try.f37
  | 38 => some Try.f38
  | 39 => some Try.f39
  | 40 => some Try.f40
  | 41 => some Try.f41
  | 61 => some Try.f61
  | 62 => some Try.f62
  | 63 => some Try.f63
  | 64 => some Try.f64
  | 65 => some Try.f65
  | 66 => some Try.f66
  | 67 => some Try.f67
  | 68 => some Try.f68
  | 69 => some Try.f69
  | 70 => some Try.f70
  | 71 => some Try.f71
  | 72 => some Try.f72
  | 73 => some Try.f73
  | 74 => some Try.f74
  | 75 => some Try.f75
  | 76 => some Try.f76
  | 77 => some Try.f77
  | 78 => some Try.f78
  | 79 => some Try.f79
  | 80 => some Try.f80
  | 100 => some Try.f100
  | 101 => some Try.f101
  | 102 => some Try.f102
  | 103 => some Try.f103
  | 104 => some Try.f104
  | 105 => some Try.f105
  | 106 => some Try.f106
  | 107 => some Try.f107
  | 108 => some Try.f108
  | 109 => some Try.f109
  | 110 => some Try.f110
  | 111 => some Try.f111
  | 112 => some Try.f112
  | 113 => some Try.f113
  | 114 => some Try.f114
  | 115 => some Try.f115
  | 116 => some Try.f116
  | 117 => some Try.f117
  | 118 => some Try.f118
  | 129 => some Try.f129
  | 141 => some Try.f141
  | 142 => some Try.f142
  | 143 => some Try.f143
  | 144 => some Try.f144
  | 145 => some Try.f145
  | 146 => some Try.f146
  | 147 => some Try.f147
  | 149 => some Try.f149
  | 156 => some Try.f156
  | 157 => some Try.f157
  | 158 => some Try.f158
  | 160 => some Try.f160
  | 161 => some Try.f161
  | _ => none
theorem fok : FOk Try.prog F := by
  intro f fn h
  unfold F at h
  split at h
  · injection h with h; subst h; exact ⟨Try.func3, by kernel_rfl, _, rfl, by kernel_rfl, by kernel_rfl⟩
  · injection h with h; subst h; exact ⟨Try.func7, by kernel_rfl, _, rfl, by kernel_rfl, by kernel_rfl⟩
  · injection h with h; subst h; exact ⟨Try.func8, by kernel_rfl, _, rfl, by kernel_rfl, by kernel_rfl⟩
  · injection h with h; subst h; exact ⟨Try.func9, by kernel_rfl, _, rfl, by kernel_rfl, by kernel_rfl⟩
  · injection h with h; subst h; exact ⟨Try.func10, by kernel_rfl, _, rfl, by kernel_rfl, by kernel_rfl⟩
  · injection h with h; subst h; exact ⟨Try.func11, by kernel_rfl, _, rfl, by kernel_rfl, by kernel_rfl⟩
  · injection h with h; subst h; exact ⟨Try.func12, by kernel_rfl, _, rfl, by kernel_rfl, by kernel_rfl⟩
  · injection h with h; subst h; exact ⟨Try.func13, by kernel_rfl, _, rfl, by kernel_rfl, by kernel_rfl⟩
  · injection h with h; subst h; exact ⟨Try.func14, by kernel_rfl, _, rfl, by kernel_rfl, by kernel_rfl⟩
  · injection h with h; subst h; exact ⟨Try.func15, by kernel_rfl, _, rfl, by kernel_rfl, by kernel_rfl⟩
  · injection h with h; subst h; exact ⟨Try.func33, by kernel_rfl, _, rfl, by kernel_rfl, by kernel_rfl⟩
  · injection h with h; subst h; exact ⟨Try.func34, by kernel_rfl, _, rfl, by kernel_rfl, by kernel_rfl⟩
  · injection h with h; subst h; exact ⟨Try.func35, by kernel_rfl, _, rfl, by kernel_rfl, by kernel_rfl⟩
  · injection h with h; subst h; exact ⟨Try.func36, by kernel_rfl, _, rfl, by kernel_rfl, by kernel_rfl⟩
  · injection h with h; subst h; exact ⟨Try.func37, by kernel_rfl, _, rfl, by kernel_rfl, by kernel_rfl⟩
  · injection h with h; subst h; exact ⟨Try.func38, by kernel_rfl, _, rfl, by kernel_rfl, by kernel_rfl⟩
  · injection h with h; subst h; exact ⟨Try.func39, by kernel_rfl, _, rfl, by kernel_rfl, by kernel_rfl⟩
  · injection h with h; subst h; exact ⟨Try.func40, by kernel_rfl, _, rfl, by kernel_rfl, by kernel_rfl⟩
  · injection h with h; subst h; exact ⟨Try.func41, by kernel_rfl, _, rfl, by kernel_rfl, by kernel_rfl⟩
  · injection h with h; subst h; exact ⟨Try.func61, by kernel_rfl, _, rfl, by kernel_rfl, by kernel_rfl⟩
  · injection h with h; subst h; exact ⟨Try.func62, by kernel_rfl, _, rfl, by kernel_rfl, by kernel_rfl⟩
  · injection h with h; subst h; exact ⟨Try.func63, by kernel_rfl, _, rfl, by kernel_rfl, by kernel_rfl⟩
  · injection h with h; subst h; exact ⟨Try.func64, by kernel_rfl, _, rfl, by kernel_rfl, by kernel_rfl⟩
  · injection h with h; subst h; exact ⟨Try.func65, by kernel_rfl, _, rfl, by kernel_rfl, by kernel_rfl⟩
  · injection h with h; subst h; exact ⟨Try.func66, by kernel_rfl, _, rfl, by kernel_rfl, by kernel_rfl⟩
  · injection h with h; subst h; exact ⟨Try.func67, by kernel_rfl, _, rfl, by kernel_rfl, by kernel_rfl⟩
  · injection h with h; subst h; exact ⟨Try.func68, by kernel_rfl, _, rfl, by kernel_rfl, by kernel_rfl⟩
  · injection h with h; subst h; exact ⟨Try.func69, by kernel_rfl, _, rfl, by kernel_rfl, by kernel_rfl⟩
  · injection h with h; subst h; exact ⟨Try.func70, by kernel_rfl, _, rfl, by kernel_rfl, by kernel_rfl⟩
  · injection h with h; subst h; exact ⟨Try.func71, by kernel_rfl, _, rfl, by kernel_rfl, by kernel_rfl⟩
  · injection h with h; subst h; exact ⟨Try.func72, by kernel_rfl, _, rfl, by kernel_rfl, by kernel_rfl⟩
  · injection h with h; subst h; exact ⟨Try.func73, by kernel_rfl, _, rfl, by kernel_rfl, by kernel_rfl⟩
  · injection h with h; subst h; exact ⟨Try.func74, by kernel_rfl, _, rfl, by kernel_rfl, by kernel_rfl⟩
  · injection h with h; subst h; exact ⟨Try.func75, by kernel_rfl, _, rfl, by kernel_rfl, by kernel_rfl⟩
  · injection h with h; subst h; exact ⟨Try.func76, by kernel_rfl, _, rfl, by kernel_rfl, by kernel_rfl⟩
  · injection h with h; subst h; exact ⟨Try.func77, by kernel_rfl, _, rfl, by kernel_rfl, by kernel_rfl⟩
  · injection h with h; subst h; exact ⟨Try.func78, by kernel_rfl, _, rfl, by kernel_rfl, by kernel_rfl⟩
  · injection h with h; subst h; exact ⟨Try.func79, by kernel_rfl, _, rfl, by kernel_rfl, by kernel_rfl⟩
  · injection h with h; subst h; exact ⟨Try.func80, by kernel_rfl, _, rfl, by kernel_rfl, by kernel_rfl⟩
  · injection h with h; subst h; exact ⟨Try.func100, by kernel_rfl, _, rfl, by kernel_rfl, by kernel_rfl⟩
  · injection h with h; subst h; exact ⟨Try.func101, by kernel_rfl, _, rfl, by kernel_rfl, by kernel_rfl⟩
  · injection h with h; subst h; exact ⟨Try.func102, by kernel_rfl, _, rfl, by kernel_rfl, by kernel_rfl⟩
  · injection h with h; subst h; exact ⟨Try.func103, by kernel_rfl, _, rfl, by kernel_rfl, by kernel_rfl⟩
  · injection h with h; subst h; exact ⟨Try.func104, by kernel_rfl, _, rfl, by kernel_rfl, by kernel_rfl⟩
  · injection h with h; subst h; exact ⟨Try.func105, by kernel_rfl, _, rfl, by kernel_rfl, by kernel_rfl⟩
  · injection h with h; subst h; exact ⟨Try.func106, by kernel_rfl, _, rfl, by kernel_rfl, by kernel_rfl⟩
  · injection h with h; subst h; exact ⟨Try.func107, by kernel_rfl, _, rfl, by kernel_rfl, by kernel_rfl⟩
  · injection h with h; subst h; exact ⟨Try.func108, by kernel_rfl, _, rfl, by kernel_rfl, by kernel_rfl⟩
  · injection h with h; subst h; exact ⟨Try.func109, by kernel_rfl, _, rfl, by kernel_rfl, by kernel_rfl⟩
  · injection h with h; subst h; exact ⟨Try.func110, by kernel_rfl, _, rfl, by kernel_rfl, by kernel_rfl⟩
  · injection h with h; subst h; exact ⟨Try.func111, by kernel_rfl, _, rfl, by kernel_rfl, by kernel_rfl⟩
  · injection h with h; subst h; exact ⟨Try.func112, by kernel_rfl, _, rfl, by kernel_rfl, by kernel_rfl⟩
  · injection h with h; subst h; exact ⟨Try.func113, by kernel_rfl, _, rfl, by kernel_rfl, by kernel_rfl⟩
  · injection h with h; subst h; exact ⟨Try.func114, by kernel_rfl, _, rfl, by kernel_rfl, by kernel_rfl⟩
  · injection h with h; subst h; exact ⟨Try.func115, by kernel_rfl, _, rfl, by kernel_rfl, by kernel_rfl⟩
  · injection h with h; subst h; exact ⟨Try.func116, by kernel_rfl, _, rfl, by kernel_rfl, by kernel_rfl⟩
  · injection h with h; subst h; exact ⟨Try.func117, by kernel_rfl, _, rfl, by kernel_rfl, by kernel_rfl⟩
  · injection h with h; subst h; exact ⟨Try.func118, by kernel_rfl, _, rfl, by kernel_rfl, by kernel_rfl⟩
  · injection h with h; subst h; exact ⟨Try.func129, by kernel_rfl, _, rfl, by kernel_rfl, by kernel_rfl⟩
  · injection h with h; subst h; exact ⟨Try.func141, by kernel_rfl, _, rfl, by kernel_rfl, by kernel_rfl⟩
  · injection h with h; subst h; exact ⟨Try.func142, by kernel_rfl, _, rfl, by kernel_rfl, by kernel_rfl⟩
  · injection h with h; subst h; exact ⟨Try.func143, by kernel_rfl, _, rfl, by kernel_rfl, by kernel_rfl⟩
  · injection h with h; subst h; exact ⟨Try.func144, by kernel_rfl, _, rfl, by kernel_rfl, by kernel_rfl⟩
  · injection h with h; subst h; exact ⟨Try.func145, by kernel_rfl, _, rfl, by kernel_rfl, by kernel_rfl⟩
  · injection h with h; subst h; exact ⟨Try.func146, by kernel_rfl, _, rfl, by kernel_rfl, by kernel_rfl⟩
  · injection h with h; subst h; exact ⟨Try.func147, by kernel_rfl, _, rfl, by kernel_rfl, by kernel_rfl⟩
  · injection h with h; subst h; exact ⟨Try.func149, by kernel_rfl, _, rfl, by kernel_rfl, by kernel_rfl⟩
  · injection h with h; subst h; exact ⟨Try.func156, by kernel_rfl, _, rfl, by kernel_rfl, by kernel_rfl⟩
  · injection h with h; subst h; exact ⟨Try.func157, by kernel_rfl, _, rfl, by kernel_rfl, by kernel_rfl⟩
  · injection h with h; subst h; exact ⟨Try.func158, by kernel_rfl, _, rfl, by kernel_rfl, by kernel_rfl⟩
  · injection h with h; subst h; exact ⟨Try.func160, by kernel_rfl, _, rfl, by kernel_rfl, by kernel_rfl⟩
  · injection h with h; subst h; exact ⟨Try.func161, by kernel_rfl, _, rfl, by kernel_rfl, by kernel_rfl⟩
  · cases h
noncomputable def X0 : Rel := fun _ _ _ _ _ => False
abbrev CC : Rel := Call Γ E F X0 (Draw Γ E)
/-- What region of open order is meant. -/
abbrev DD : DrawR := Draw Γ E CC 0
abbrev OpEq (C : Rel) (D : DrawR) (l l' : List POp) : Prop := ∀ (Q : Ex → S → Prop) (b i : Nat) (k : List Fr) (s : S), OpG Γ E C D Q b i l k s = OpG Γ E C D Q b i l' k s
theorem opEq {C : Rel} {D : DrawR} {l l' : List POp} (h : l = l') : OpEq C D l l' := fun _ _ _ _ _ => by rw [h]
abbrev GoEq (C : Rel) (D : DrawR) (c c' : PC) : Prop := ∀ (Q : Ex → S → Prop) (k : List Fr) (s : S), Go Γ E C D Q c k s = Go Γ E C D Q c' k s
theorem goEq {C : Rel} {D : DrawR} {c c' : PC} (h : c = c') : GoEq C D c c' := fun _ _ _ => by rw [h]
end Go.Proofs.YtpinapckafbkiaaM
