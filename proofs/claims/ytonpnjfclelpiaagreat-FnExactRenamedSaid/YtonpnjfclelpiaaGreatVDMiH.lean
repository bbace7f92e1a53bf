import Derived.Test.YtonpnjfclelpiaaGreatVDMiY
namespace Go.Proofs.YtonpnjfclelpiaaGreatM
open Go Go.RowKit
set_option linter.unusedVariables false
set_option linter.unusedSimpArgs false
def trv (z M : Nat) : Value → Value
 | .agg cs => .agg (cs.map (tr z M))
 | v => tr z M v
section
variable {P : Program} {Γ : TypeId → Option TI} {E : TypeId → Nat} {F : FuncId → Option Func} {W : World} {M : Nat} {H : Type} {enc : TypeId × Value → H} {base : Nat} {held : Bool}
theorem cells_of {v : Value} : (∃ cs, v = .agg cs) ∨ v.cells = #[v] := by
 cases v <;> first | exact .inl ⟨_, rfl⟩ | exact .inr rfl
theorem trod_arg (K : Know P Γ E) (hM : ∀ (b : Nat) (c : Array Value) (e : TypeId) (fr : Nat × Nat), W.heap[b]? = some (.cells c e fr) → c.size < M) (g : Nat) {t : TypeId} {v : Value} {d : DataW H} {ps : List MemPlace}
  (hd : DataW.Trod enc P W base (fun _ => true) held t v d ps) (ht : tyOk Γ g t = true) : ∃ x, Rd Γ (hp0 W M) g t (trv W.heap.size M v).cells.toList x ∧ VR (pl0 W M) (trv W.heap.size M v) v := by
 obtain ⟨fuel, hf⟩ := hd
 obtain ⟨x, h1, h2⟩ := trod_rd (base := base) (held := held) K hM g fuel t _ _ hf ht
 rcases cells_of (v := v) with ⟨cs, rfl⟩ | hc
 ·refine ⟨x, ?_, ?_⟩
  ·have : (trv W.heap.size M (.agg cs)).cells.toList = cs.toList.map (tr W.heap.size M) := by simp [trv, Value.cells]
   rw [this]; exact h1
  ·refine VRf.v (VRa.f ?_)
   refine ⟨cs, rfl, ?_⟩
   rw [Array.toList_map]
   apply All2.of (by simp)
   intro i a b ha hb
   rw [List.getElem?_map] at ha
   rw [hb] at ha
   injection ha with ha; subst ha
   exact tr_ok (h2 b (List.mem_of_getElem? hb))
 ·have hv : okc W.heap.size M v = true := h2 v (by rw [hc]; simp)
  have hnot : ∀ cs, v ≠ .agg cs := fun cs h => by subst h; cases hv
  have htr : trv W.heap.size M v = tr W.heap.size M v := by
   unfold trv
   split
   ·exact absurd rfl (hnot _)
   ·rfl
  have hx := tr_ok (W := W) hv
  refine ⟨x, ?_, by rw [htr]; exact hx.a.f.v⟩
  rw [htr, hx.one.2.2.1]
  rw [hc] at h1
  exact h1
theorem law_end (K : Know P Γ E) (hF : FOk P F) {X : Rel} (hX : ∀ f a h v h', X f a h v h' → Sim P W.heap.size (kept W) f a h v h') (hM : 0 < M) {f : FuncId} {vs : List Value} {args : Array Value} {h' : Hp} (hc : Call Γ E F X (Draw Γ E) f vs (hp0 W M) (.bool true) h')
  (ha : All2 (VR (pl0 W M)) vs args.toList) : Calls P f args W fun e W' => e = .returned (.bool true) ∧ Below W.heap.size W W' := by
 have hs := call_sound (kept_low W) K hF hX (fun n => draw_sound (kept_low W) K) hc
 refine (hs.2 (pl0 W M) W args (hp0_rep W M hM) ha).mono ?_
 rintro e w' ⟨v', π', rfl, h1, h2⟩
 have : v' = .bool true := h1
 subst this
 have hi := h2.rep.inv
 exact ⟨rfl, hi.1.1, hi.1.2.1, hi.1.2.2, h2.grow, hi.2⟩
end
end Go.Proofs.YtonpnjfclelpiaaGreatM
