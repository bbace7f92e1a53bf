/- What a law's arguments read; small words for laws. -/
import Derived.Test.YtbgaljpilmmefaaA5E0
namespace Go.Proofs.YtbgaljpilmmefaaM
open Go
set_option linter.unusedVariables false
set_option linter.unusedSimpArgs false
attribute [local irreducible] OpG Go Done OpV OpK OpH OpN OpL endQ exQ RunP OpsP Call pureV opV binV makeV effV appendV sliceV isPut

attribute [go_sem] bne_self_eq_false bne_self_eq_false'
theorem sz_small {n : Nat} (hm : n ≤ maxLen) (hg : ¬(if IntKind.i64.wrap (1048576 - (n : Int)) < 0 then -1 else IntKind.i64.wrap (1048576 - (n : Int))) < 0) : n < 4294967296 := by
  unfold maxLen at hm
  rw [wrapI (by omega) (by omega)] at hg
  split at hg <;> omega
theorem sz_small2 {n : Nat} (hm : n ≤ maxLen) (hg : ¬(if IntKind.i64.wrap (1048576 - (n : Int)) < 0 then -1 else IntKind.i64.wrap (1048576 - (n : Int))) < 0) : n < 1073741824 := by
  unfold maxLen at hm
  rw [wrapI (by omega) (by omega)] at hg
  split at hg <;> omega
/-- What a row of steps reads. -/
theorem Rd_steps {h : Hp} {g : Nat} {t e ti : TypeId} {cs : List Value} {x : Dat} {b b' b3 b4 : Nat} {z z' z2 : List Value} (hr : Rd Γ h (g + 3) t cs x) (ht : Γ t = some ⟨.slice e, b3, b, z⟩) (he : Γ e = some ⟨.struct [(0, ti), (1, ti), (2, ti), (3, ti), (4, ti)], 5, b4, z2⟩) (hi : Γ ti = some ⟨.int .i64, 1, b', z'⟩) :
    ∃ a c l, cs = [.slice a l.length c] ∧ SL rStep h a l ∧ (∀ x ∈ l, StepD.wf x) ∧ l.length ≤ maxLen := by
  rcases Rd_slice hr ht with ⟨h1, _⟩ | ⟨l, n, o, c, ie, rfl, h1, h2, h3, _, h4, h5⟩
  · exact ⟨none, 0, [], h1, fun j hj => by simp at hj, fun x hx => by simp at hx, by simp⟩
  · rw [he] at h2
    injection h2 with h2
    subst h2
    obtain ⟨l', q1, q2⟩ := list_choose (Q := fun j (s : StepD) => h.cells n (o + j * 5) 5 = some s.enc ∧ s.wf) l.length fun j hj => by
      obtain ⟨xs, r1, r2⟩ := h5 j l[j] (List.getElem?_eq_getElem hj)
      obtain ⟨n0, n1, n2, n3, n4, r3, w0, w1, w2, w3, w4⟩ := Rd_five r2 he hi
      exact ⟨⟨n0, n1, n2, n3, n4⟩, by rw [r1, r3]; rfl, i64_wf w0, i64_wf w1, i64_wf w2, i64_wf w3, i64_wf w4⟩
    refine ⟨some ⟨n, o, none⟩, c, l', by rw [q1]; exact h1, fun j hj => ?_, fun x hx => ?_, by rw [q1]; exact h3⟩
    · exact ⟨n, o, _, rfl, h4, (q2 j _ (List.getElem?_eq_getElem hj)).1, rfl⟩
    · obtain ⟨j, hj, rfl⟩ := List.getElem_of_mem hx
      exact (q2 j _ (List.getElem?_eq_getElem hj)).2
theorem Rd_stepD {h : Hp} {g : Nat} {t ti : TypeId} {cs : List Value} {x : Dat} {b b' : Nat} {z z' : List Value} (hr : Rd Γ h (g + 2) t cs x) (ht : Γ t = some ⟨.struct [(0, ti), (1, ti), (2, ti), (3, ti), (4, ti)], 5, b, z⟩) (hi : Γ ti = some ⟨.int .i64, 1, b', z'⟩) :
    ∃ s : StepD, cs = s.enc ∧ s.wf := by
  obtain ⟨n0, n1, n2, n3, n4, r3, w0, w1, w2, w3, w4⟩ := Rd_five hr ht hi
  exact ⟨⟨n0, n1, n2, n3, n4⟩, r3, i64_wf w0, i64_wf w1, i64_wf w2, i64_wf w3, i64_wf w4⟩
theorem slice_not {P : Program} {Γ : TypeId → Option TI} {E : TypeId → Nat} (K : Know P Γ E) {t e : TypeId} {a b : Nat} {z : List Value} {W : World} {r : Reach} {base : Nat} {v : Value} (hv : Value.okWide P W r base t v) (hg : Γ t = some ⟨.slice e, a, b, z⟩) : ∀ cs, v ≠ .agg cs := by
  rintro cs rfl
  obtain ⟨d, h1, h2⟩ := K.under hg
  have h3 : d = .slice e := h2
  subst h3
  simp only [Value.okWide, h1, Cell.okWide, Cell.ok] at hv
theorem trv_not {z M : Nat} {v : Value} (h : ∀ cs, v ≠ .agg cs) : ∀ cs, trv z M v ≠ .agg cs := by
  intro cs hh
  unfold trv at hh
  split at hh
  · exact h _ rfl
  · unfold tr at hh
    split at hh
    · split at hh <;> cases hh
    · exact h _ hh

end Go.Proofs.YtbgaljpilmmefaaM
