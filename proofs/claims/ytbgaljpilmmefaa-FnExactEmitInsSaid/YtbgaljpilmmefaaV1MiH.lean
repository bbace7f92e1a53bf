import Derived.Test.YtbgaljpilmmefaaV1MiY
/- A law's call: what its arguments are in the small machine, and what is behind it. -/
namespace Go.Proofs.YtbgaljpilmmefaaM
open Go Go.RowKit
set_option linter.unusedVariables false
set_option linter.unusedSimpArgs false

def trv (z M : Nat) : Value → Value
  | .agg cs => .agg (cs.map (tr z M))
  | v => tr z M v

section
variable {P : Program} {Γ : TypeId → Option TI} {E : TypeId → Nat} {F : FuncId → Option Func} {W : World} {M : Nat} {H : Type} {enc : TypeId × Value → H} {base : Nat} {held : Bool}

theorem cells_of {v : Value} : (∃ cs, v = .agg cs) ∨ v.cells = #[v] := by
  cases v <;> first | exact .inl ⟨_, rfl⟩ | exact .inr rfl

theorem trod_arg (K : Know P Γ E) (hM : ∀ (b : Nat) (c : Array Value) (e : TypeId) (fr : Nat × Nat), W.heap[b]? = some (.cells c e fr) → c.size < M) (g : Nat) {t : TypeId} {v : Value} {d : DataW H} {ps : List MemPlace}
    (hd : DataW.Trod enc P W base (fun _ => true) held t v d ps) (ht : tyOk Γ g t = true) : ∃ x, Rd Γ (hp0 W M) g t (trv W.heap.size M v).cells.toList x ∧ VR (pl0 W M) (trv W.heap.size M v) v := by
  obtain ⟨fuel, hf⟩ := hd
  obtain ⟨x, h1, h2⟩ := trod_rd (base := base) (held := held) K hM g fuel t _ _ hf ht
  rcases cells_of (v := v) with ⟨cs, rfl⟩ | hc
  · refine ⟨x, ?_, ?_⟩
    · have : (trv W.heap.size M (.agg cs)).cells.toList = cs.toList.map (tr W.heap.size M) := by simp [trv, Value.cells]
      rw [this]; exact h1
    · refine VRf.v (VRa.f ?_)
      refine ⟨cs, rfl, ?_⟩
      rw [Array.toList_map]
      apply All2.of (by simp)
      intro i a b ha hb
      rw [List.getElem?_map] at ha
      rw [hb] at ha
      injection ha with ha; subst ha
      exact tr_ok (h2 b (List.mem_of_getElem? hb))
  · have hv : okc W.heap.size M v = true := h2 v (by rw [hc]; simp)
    have hnot : ∀ cs, v ≠ .agg cs := fun cs h => by subst h; cases hv
    have htr : trv W.heap.size M v = tr W.heap.size M v := by
      unfold trv
      split
      · exact absurd rfl (hnot _)
      · rfl
    have hx := tr_ok (W := W) hv
    refine ⟨x, ?_, by rw [htr]; exact hx.a.f.v⟩
    rw [htr, hx.one.2.2.1]
    rw [hc] at h1
    exact h1

/-- A LAW'S CALL. -/
theorem law_end (K : Know P Γ E) (hF : FOk P F) {X : Rel} (hX : ∀ f a h v h', X f a h v h' → Sim P W.heap.size (kept W) f a h v h') (hM : 0 < M) {f : FuncId} {vs : List Value} {args : Array Value} {h' : Hp} (hc : Call Γ E F X (Draw Γ E) f vs (hp0 W M) (.bool true) h')
    (ha : All2 (VR (pl0 W M)) vs args.toList) : Calls P f args W fun e W' => e = .returned (.bool true) ∧ Below W.heap.size W W' := by
  have hs := call_sound (kept_low W) K hF hX (fun n => draw_sound (kept_low W) K) hc
  refine (hs.2 (pl0 W M) W args (hp0_rep W M hM) ha).mono ?_
  rintro e w' ⟨v', π', rfl, h1, h2⟩
  have : v' = .bool true := h1
  subst this
  have hi := h2.rep.inv
  exact ⟨rfl, hi.1.1, hi.1.2.1, hi.1.2.2, h2.grow, hi.2⟩

/- What is read, by its type. -/
theorem Rd_int {h : Hp} {g : Nat} {t : TypeId} {cs : List Value} {x : Dat} {k : IntKind} {a b : Nat} {z : List Value} (hr : Rd Γ h (g + 1) t cs x) (ht : Γ t = some ⟨.int k, a, b, z⟩) : ∃ n, x = .int n ∧ cs = [.int k n] ∧ (Lit.int k n).wf = true := by
  unfold Rd at hr
  rw [ht] at hr
  simp only at hr
  split at hr <;> first | (rename_i hh; injection hh with hh; subst hh; exact ⟨_, rfl, hr⟩) | (rename_i hh; cases hh) | exact hr.elim
theorem Rd_slice {h : Hp} {g : Nat} {t : TypeId} {cs : List Value} {x : Dat} {e : TypeId} {a b : Nat} {z : List Value} (hr : Rd Γ h (g + 1) t cs x) (ht : Γ t = some ⟨.slice e, a, b, z⟩) :
    (cs = [.slice none 0 0] ∧ x = .row true []) ∨ ∃ l n o c ie, x = .row false l ∧ cs = [.slice (some ⟨n, o, none⟩) l.length c] ∧ Γ e = some ie ∧ l.length ≤ maxLen ∧ c < 18446744073709551616 ∧ n < h.next ∧
          ∀ j x, l[j]? = some x → ∃ xs, h.cells n (o + j * ie.size) ie.size = some xs ∧ Rd Γ h g e xs x := by
  unfold Rd at hr
  rw [ht] at hr
  simp only at hr
  split at hr
  · rename_i hh; cases hh
  · rename_i hh; cases hh
  · rename_i hh; cases hh
  · rename_i hh; injection hh with hh; subst hh
    exact .inl ⟨hr.1, by rw [hr.2]⟩
  · rename_i hh; injection hh with hh; subst hh
    obtain ⟨n, o, c, ie, h1, h2, h3, h4⟩ := hr
    exact .inr ⟨_, n, o, c, ie, rfl, h1, h2, h3.1, h4⟩
  · rename_i hh; cases hh
  · exact hr.elim
theorem Rd_struct {h : Hp} {g : Nat} {t : TypeId} {cs : List Value} {x : Dat} {fs : List (Nat × TypeId)} {a b : Nat} {z : List Value} (hr : Rd Γ h (g + 1) t cs x) (ht : Γ t = some ⟨.struct fs, a, b, z⟩) :
    ∃ l, x = .agg l ∧ cs.length = a ∧ l.length = fs.length ∧ ∀ (j : Nat) (p : Nat × TypeId) (x : Dat), fs[j]? = some p → l[j]? = some x → ∃ ti, Γ p.2 = some ti ∧ Rd Γ h g p.2 ((cs.drop p.1).take ti.size) x := by
  unfold Rd at hr
  rw [ht] at hr
  simp only at hr
  split at hr <;> first | (rename_i hh; injection hh with hh; subst hh; exact ⟨_, rfl, hr⟩) | (rename_i hh; cases hh) | exact hr.elim

/-- Five whole numbers. -/
theorem Rd_five {h : Hp} {g : Nat} {t ti : TypeId} {cs : List Value} {x : Dat} {b b' : Nat} {z z' : List Value} (hr : Rd Γ h (g + 2) t cs x) (ht : Γ t = some ⟨.struct [(0, ti), (1, ti), (2, ti), (3, ti), (4, ti)], 5, b, z⟩) (hi : Γ ti = some ⟨.int .i64, 1, b', z'⟩) :
    ∃ n0 n1 n2 n3 n4 : Int, cs = [.int .i64 n0, .int .i64 n1, .int .i64 n2, .int .i64 n3, .int .i64 n4] ∧ (Lit.int .i64 n0).wf = true ∧ (Lit.int .i64 n1).wf = true ∧ (Lit.int .i64 n2).wf = true ∧ (Lit.int .i64 n3).wf = true ∧ (Lit.int .i64 n4).wf = true := by
  obtain ⟨l, _, h1, h2, h3⟩ := Rd_struct hr ht
  match cs, h1 with
  | [c0, c1, c2, c3, c4], _ =>
    match l, h2 with
    | [x0, x1, x2, x3, x4], _ =>
      have one : ∀ (j : Nat) (c : Value) (x : Dat), ([(0, ti), (1, ti), (2, ti), (3, ti), (4, ti)] : List (Nat × TypeId))[j]? = some (j, ti) → [x0, x1, x2, x3, x4][j]? = some x → (([c0, c1, c2, c3, c4].drop j).take 1) = [c] → ∃ n, c = .int .i64 n ∧ (Lit.int .i64 n).wf = true := by
        intro j c x k1 k2 k3
        obtain ⟨t', k4, k5⟩ := h3 j (j, ti) x k1 k2
        rw [hi] at k4
        injection k4 with k4; subst k4
        simp only [k3] at k5
        obtain ⟨n, _, k6, k7⟩ := Rd_int k5 hi
        injection k6 with k6
        exact ⟨n, k6, k7⟩
      obtain ⟨n0, rfl, w0⟩ := one 0 c0 x0 rfl rfl rfl
      obtain ⟨n1, rfl, w1⟩ := one 1 c1 x1 rfl rfl rfl
      obtain ⟨n2, rfl, w2⟩ := one 2 c2 x2 rfl rfl rfl
      obtain ⟨n3, rfl, w3⟩ := one 3 c3 x3 rfl rfl rfl
      obtain ⟨n4, rfl, w4⟩ := one 4 c4 x4 rfl rfl rfl
      exact ⟨n0, n1, n2, n3, n4, rfl, w0, w1, w2, w3, w4⟩
theorem agg_of {v : Value} {cs : List Value} (h : v.cells.toList = cs) (hl : 1 < cs.length) : v = .agg cs.toArray := by
  rcases cells_of (v := v) with ⟨xs, rfl⟩ | hc
  · have : xs.toList = cs := h
    rw [← this]
  · rw [hc] at h; simp at h; subst h; simp at hl
theorem one_of {v x : Value} (h : v.cells.toList = [x]) (hv : ∀ cs, v ≠ .agg cs) : v = x := by
  rcases cells_of (v := v) with ⟨xs, rfl⟩ | hc
  · exact absurd rfl (hv _)
  · rw [hc] at h; simpa using h

end
end Go.Proofs.YtbgaljpilmmefaaM
