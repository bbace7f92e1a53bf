import Derived.Test.YtonpnjfclelpiaaGreatVDMiN
import Derived.Laws.StructEq
namespace Go.Proofs.YtonpnjfclelpiaaGreatM
open Go
set_option linter.unusedVariables false
set_option linter.unusedSimpArgs false
section
variable {P : Program}
theorem part_int {ti : TypeId} {k : IntKind} (hi : P.underlying ti = some (.int k)) {xs : Array Value} {off : Nat} {v : Value} (hx : xs[off]? = some v) (w : World) : (part ti xs off).run P w = .ok v w := by
 simp [part, isAgg, run_underlying hi, hx]
theorem allI_get : ∀ {l : List Value} {k : Nat}, allI l = true → k < l.length → ∃ n : Int, l[k]? = some (.int .i64 n) ∧ numI (.int .i64 n) = n ∧ ∃ h, l[k]'h = .int .i64 n
 | [], k, _, hk => by simp at hk
 | v :: l, k, h, hk => by
  unfold allI at h
  split at h
  ·rename_i a b; cases b
  ·rename_i n r heq
   injection heq with h1 h2; subst h1; subst h2
   cases k with
   | zero => exact ⟨n, rfl, rfl, by simp, rfl⟩
   | succ k =>
    obtain ⟨m, h3, h4, h5, h6⟩ := allI_get (k := k) h (by simpa using hk)
    exact ⟨m, by simpa using h3, h4, by simpa using h5, by simpa using h6⟩
  ·cases h
theorem eqF_ints {ti : TypeId} (hi : P.underlying ti = some (.int .i64)) {d : Nat} {xs ys : Array Value} (hx : allI xs.toList = true) (hy : allI ys.toList = true) (w : World) : ∀ (fs : List Field) (k : Nat), (∀ (j : Nat) (f : Field), fs[j]? = some f → f.name ≠ "_" ∧ f.type = ti ∧ f.offset = k + j) → fs.length + k = xs.size → fs.length + k = ys.size → (Op.eqFields (d + 1) xs ys fs).run P w = .ok (decide ((xs.toList.drop k).map numI = (ys.toList.drop k).map numI)) w
 | [], k, _, h1, h2 => by
  simp only [List.length_nil, Nat.zero_add] at h1 h2
  rw [List.drop_eq_nil_of_le (by simp; omega), List.drop_eq_nil_of_le (by simp; omega)]
  simp [Op.eqFields]
 | f :: fs, k, hf, h1, h2 => by
  obtain ⟨g1, g2, g3⟩ := hf 0 f rfl
  rw [Nat.add_zero] at g3
  have l1 : k < xs.toList.length := by simp at h1 ⊢; omega
  have l2 : k < ys.toList.length := by simp at h2 ⊢; omega
  obtain ⟨n, a1, a2, a3, a4⟩ := allI_get hx l1
  obtain ⟨m, b1, b2, b3, b4⟩ := allI_get hy l2
  have ih := eqF_ints hi (d := d) hx hy w fs (k + 1) (fun j f h => by
   obtain ⟨q1, q2, q3⟩ := hf (j + 1) f (by simpa using h)
   exact ⟨q1, q2, by omega⟩) (by simp at h1; omega) (by simp at h2; omega)
  rw [Op.eqFields]
  have p1 := part_int (P := P) hi (xs := xs) (off := f.offset) (v := .int .i64 n) (by rw [g3, ← Array.getElem?_toList]; exact a1) w
  have p2 := part_int (P := P) hi (xs := ys) (off := f.offset) (v := .int .i64 m) (by rw [g3, ← Array.getElem?_toList]; exact b1) w
  rw [if_pos g1]
  simp only [Sem.run_bind, g2, p1, p2, Result.andThen_ok, run_equalIn_int w d ti .i64 .i64 n m hi]
  rw [List.drop_eq_getElem_cons l1, List.drop_eq_getElem_cons l2, a4, b4]
  simp only [List.map_cons, List.cons.injEq, a2, b2]
  by_cases hnm : n = m
  ·subst hnm; simpa using ih
  ·have : (n == m) = false := by simpa using hnm
   simp [this, hnm]
theorem eqS_ints {t ti : TypeId} {fs : Array Field} (hu : P.underlying t = some (.struct fs)) (hp : P.stoodInHeld t = false) (hi : P.underlying ti = some (.int .i64)) {d : Nat} {xs ys : Array Value} (hx : allI xs.toList = true) (hy : allI ys.toList = true) (hf : ∀ (j : Nat) (f : Field), fs.toList[j]? = some f → f.name ≠ "_" ∧ f.type = ti ∧ f.offset = j) (h1 : fs.size = xs.size) (h2 : fs.size = ys.size) (w : World) : (Op.equalIn (d + 2) t (.agg xs) (.agg ys)).run P w = .ok (decide (xs.toList.map numI = ys.toList.map numI)) w := by
 have hfo : P.fieldsOf t = fs := by simp [Program.fieldsOf, hu]
 rw [run_equalIn_struct (P := P) w (d + 1) t xs ys (by rw [hfo]; exact hu) hp, hfo]
 have := eqF_ints hi hx hy w (d := d) fs.toList 0 (fun j f h => by obtain ⟨a, b, c⟩ := hf j f h; exact ⟨a, b, by omega⟩) (by simpa using h1) (by simpa using h2)
 simpa using this
theorem eql_ints {t ti : TypeId} {fs : Array Field} (hu : P.underlying t = some (.struct fs)) (hp : P.stoodInHeld t = false) (hg : P.eqGuardType P.depth t = false) (hi : P.underlying ti = some (.int .i64)) (hf : ∀ (j : Nat) (f : Field), fs.toList[j]? = some f → f.name ≠ "_" ∧ f.type = ti ∧ f.offset = j) {xs ys : Array Value} (hx : allI xs.toList = true) (hy : allI ys.toList = true) (h1 : xs.size = fs.size) (h2 : ys.size = fs.size) (x y : Operand) (w : World) :
  ((do eqGuard .eql t x y (.agg xs) (.agg ys); binOp .eql t (.agg xs) (.agg ys) : Sem Value)).run P w = .ok (.bool (decide (xs.toList.map numI = ys.toList.map numI))) w := by
 have h := eqS_ints hu hp hi (d := 9998) hx hy hf h1.symm h2.symm w
 simp only [Sem.run_bind, run_eqGuard_agg w .eql t x y xs ys hg, Result.andThen_ok, binOp, Op.equal, Op.maxDepth, h, Sem.run_pure]
theorem neq_ints {t ti : TypeId} {fs : Array Field} (hu : P.underlying t = some (.struct fs)) (hp : P.stoodInHeld t = false) (hg : P.eqGuardType P.depth t = false) (hi : P.underlying ti = some (.int .i64)) (hf : ∀ (j : Nat) (f : Field), fs.toList[j]? = some f → f.name ≠ "_" ∧ f.type = ti ∧ f.offset = j) {xs ys : Array Value} (hx : allI xs.toList = true) (hy : allI ys.toList = true) (h1 : xs.size = fs.size) (h2 : ys.size = fs.size) (x y : Operand) (w : World) :
  ((do eqGuard .neq t x y (.agg xs) (.agg ys); binOp .neq t (.agg xs) (.agg ys) : Sem Value)).run P w = .ok (.bool (!decide (xs.toList.map numI = ys.toList.map numI))) w := by
 have h := eqS_ints hu hp hi (d := 9998) hx hy hf h1.symm h2.symm w
 simp only [Sem.run_bind, run_eqGuard_agg w .neq t x y xs ys hg, Result.andThen_ok, binOp, Op.equal, Op.maxDepth, h, Sem.run_pure]
def fieldsOk (ti : TypeId) : Nat → List Field → Bool
 | _, [] => true
 | k, f :: fs => f.name != "_" && f.type == ti && f.offset == k && fieldsOk ti (k + 1) fs
theorem fieldsOk_get {ti : TypeId} : ∀ {fs : List Field} {k : Nat}, fieldsOk ti k fs = true → ∀ (j : Nat) (f : Field), fs[j]? = some f → f.name ≠ "_" ∧ f.type = ti ∧ f.offset = k + j
 | [], _, _, j, f, hj => by simp at hj
 | g :: fs, k, h, j, f, hj => by
  unfold fieldsOk at h
  simp only [Bool.and_eq_true, bne_iff_ne, beq_iff_eq] at h
  obtain ⟨⟨⟨h1, h2⟩, h3⟩, h4⟩ := h
  cases j with
  | zero => simp at hj; subst hj; exact ⟨h1, h2, by omega⟩
  | succ j =>
   obtain ⟨a, b, c⟩ := fieldsOk_get h4 j f (by simpa using hj)
   exact ⟨a, b, by omega⟩
structure EqOk (P : Program) (t : TypeId) (n : Nat) : Prop where
 it : ∃ ti fs, P.underlying ti = some (.int .i64) ∧ P.underlying t = some (.struct fs) ∧ fieldsOk ti 0 fs.toList = true ∧ fs.size = n
 held : P.stoodInHeld t = false
 grd : P.eqGuardType P.depth t = false
theorem EqOk.eql {t : TypeId} {n : Nat} (e : EqOk P t n) (x y : Operand) (xs ys : Array Value) (h1 : xs.size = n) (h2 : ys.size = n) (hx : allI xs.toList = true) (hy : allI ys.toList = true) (w : World) :
  ((do eqGuard .eql t x y (.agg xs) (.agg ys); binOp .eql t (.agg xs) (.agg ys) : Sem Value)).run P w = .ok (.bool (decide (xs.toList.map numI = ys.toList.map numI))) w := by
 obtain ⟨ti, fs, a, b, c, rfl⟩ := e.it
 exact eql_ints b e.held e.grd a (fun j f h => by have := fieldsOk_get c j f h; rw [Nat.zero_add] at this; exact this) hx hy h1 h2 x y w
theorem EqOk.neq {t : TypeId} {n : Nat} (e : EqOk P t n) (x y : Operand) (xs ys : Array Value) (h1 : xs.size = n) (h2 : ys.size = n) (hx : allI xs.toList = true) (hy : allI ys.toList = true) (w : World) :
  ((do eqGuard .neq t x y (.agg xs) (.agg ys); binOp .neq t (.agg xs) (.agg ys) : Sem Value)).run P w = .ok (.bool (!decide (xs.toList.map numI = ys.toList.map numI))) w := by
 obtain ⟨ti, fs, a, b, c, rfl⟩ := e.it
 exact neq_ints b e.held e.grd a (fun j f h => by have := fieldsOk_get c j f h; rw [Nat.zero_add] at this; exact this) hx hy h1 h2 x y w
end
end Go.Proofs.YtonpnjfclelpiaaGreatM
