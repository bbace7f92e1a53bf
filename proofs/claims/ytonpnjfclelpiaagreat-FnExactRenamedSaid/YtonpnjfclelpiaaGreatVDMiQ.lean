import Derived.Test.YtonpnjfclelpiaaGreatVDMiY
namespace Go.Proofs.YtonpnjfclelpiaaGreatM
open Go
set_option linter.unusedVariables false
set_option linter.unusedSimpArgs false
section
variable (Γ : TypeId → Option TI) (E : TypeId → Nat) (C : Rel) (am : List Nat) (base : Nat)
end
def hq (s : S) (N : Nat) (A : Nat → Option Blk) (p : Nat → Bool) : Hp := { next := s.h.next + N, blk := fun m => if m < s.h.next then s.h.blk m else if m < s.h.next + N then (bif p (m - s.h.next) then A (m - s.h.next) else none) else none }
section
variable {Γ : TypeId → Option TI} {E : TypeId → Nat} {C : Rel} {am : List Nat} {ops : Array Oper} {s : S} {val val' : Nat → Value} {A A' : Nat → Option Blk} {on on' : Nat → Bool}
theorem fr_congr {t : Nat → Value} : ∀ i, (∀ j, j < i → val j = val' j) → fr ops t val i = fr ops t val' i
 | 0, _ => rfl
 | i + 1, h => by
  unfold fr
  rw [fr_congr i fun j hj => h j (by omega), h i (by omega)]
theorem ldv_mono {t : TypeId} {x v : Value} {h h' : Hp} (hl : ldv Γ t x h = some v) (hh : ∀ m b, h.blk m = some b → h'.blk m = some b) : ldv Γ t x h' = some v := by
 unfold ldv at hl ⊢
 split at hl
 ·rename_i n o i hg
  split at hl
  ·rename_i ha
   rw [if_pos ha]
   unfold Hp.cells at hl ⊢
   cases hb : h.blk n with
   | none => rw [hb] at hl; cases hl
   | some b => rw [hb] at hl; rw [hh n b hb]; exact hl
  ·rename_i ha
   rw [if_neg ha]
   unfold Hp.cell at hl ⊢
   cases hb : h.blk n with
   | none => rw [hb] at hl; cases hl
   | some b => rw [hb] at hl; rw [hh n b hb]; exact hl
 ·cases hl
theorem rise_cut : ∀ (l : List Nat) (i : Nat), l.Pairwise (· < ·) → ∃ k, k ≤ l.length ∧ ∀ x e, l[x]? = some e → (x < k ↔ e < i)
 | [], i, _ => ⟨0, Nat.le_refl _, fun x e h => by simp at h⟩
 | a :: l, i, h => by
  rw [List.pairwise_cons] at h
  by_cases ha : a < i
  ·obtain ⟨k, h1, h2⟩ := rise_cut l i h.2
   refine ⟨k + 1, by simp; omega, fun x e hx => ?_⟩
   cases x with
   | zero => simp at hx; subst hx; simp; exact ha
   | succ x => have := h2 x e (by simpa using hx); omega
  ·refine ⟨0, by simp, fun x e hx => ?_⟩
   have : a ≤ e := by
    cases x with
    | zero => simp at hx; omega
    | succ x => exact Nat.le_of_lt (h.1 e (List.mem_of_getElem? (by simpa using hx)))
   omega
end
end Go.Proofs.YtonpnjfclelpiaaGreatM
