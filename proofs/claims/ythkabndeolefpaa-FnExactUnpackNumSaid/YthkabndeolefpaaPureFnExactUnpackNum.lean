/- The statement of the law FnExactUnpackNum over lists of bytes holds for every list of bytes and every place. -/
import Derived.Test.YthkabndeolefpaaPFnExactUnpackNumx2
namespace Go.Proofs.Ythkabndeolefpaa.Pure
open Go.RowKit Go.Proofs.Ythkabndeolefpaa.PFnExactUnpackNum Go.Proofs.YthkabndeolefpaaW.PrintWords Go.Proofs.YthkabndeolefpaaW.PrintLast

theorem wrap64_id {x : Int} (h : -9223372036854775808 ≤ x) (h2 : x ≤ 9223372036854775807) : wrap64 x = x := by
  unfold wrap64; omega

theorem wraps_i64 (n : Int) (h₀ : 0 ≤ n) (h₁ : n < 2 ^ 63) : IntKind.i64.wrap n = n := by rw [IntKind.wrap_i64]; omega

theorem mask127 {x : Int} (h0 : 0 ≤ x) (h1 : x < 256) : Go.bits .and .i64 x 127 = Int.tmod x 128 := by
  have e := bits_mask .i64 63 (by decide) wraps_i64 7 (by decide) x h0 (by omega)
  have e2 : ((2 : Int) ^ 7 - 1) = 127 := by decide
  rw [e2] at e
  rw [e, Int.tmod_eq_emod_of_nonneg h0]
  rfl

theorem byte_rd {l : List Int} (hw : ∀ x ∈ l, (Lit.int .u8 x).wf = true) (i : Int) : 0 ≤ rd l i ∧ rd l i < 256 := by
  unfold rd
  by_cases h : i.toNat < l.length
  · have e : l.getD i.toNat 0 = l[i.toNat] := by simp [h]
    rw [e]
    have := hw _ (List.getElem_mem h)
    simp only [Lit.wf, IntKind.min, IntKind.max, IntKind.signed, IntKind.bits, Bool.and_eq_true] at this
    simp at this
    omega
  · have e : l.getD i.toNat 0 = 0 := by simp [List.getD, List.getElem?_eq_none (by omega : l.length ≤ i.toNat)]
    rw [e]; omega

theorem to_loop (l : List Int) (hn : l.length ≤ 1048576) (d : Nat) : ∀ (k : Nat) (i : Nat) (m : List Int),
    i + d = l.length → d < k → m.length = l.length → m.take i = l.take i → laws_toByteS.l0 k l m i = some l := by
  induction d with
  | zero =>
    intro k i m h0 hk hm ht
    obtain ⟨k, rfl⟩ : ∃ m, k = m + 1 := ⟨k - 1, by omega⟩
    simp only [laws_toByteS.l0]; rw [if_neg (by omega)]
    rw [List.take_of_length_le (by omega), List.take_of_length_le (by omega)] at ht
    rw [ht]
  | succ d ih =>
    intro k i m h0 hk hm ht
    obtain ⟨k, rfl⟩ : ∃ m, k = m + 1 := ⟨k - 1, by omega⟩
    simp only [laws_toByteS.l0]; rw [if_pos (by omega), if_pos (by omega), if_pos (by omega), wrap64_id (by omega) (by omega)]
    have e : (i : Int) + 1 = ((i + 1 : Nat) : Int) := by omega
    rw [e]
    refine ih k (i + 1) _ (by omega) (by omega) (by simpa using hm) ?_
    rw [show ((i : Nat) : Int).toNat = i by omega]
    have hi : i < l.length := by omega
    rw [List.take_succ_eq_append_getElem hi, List.take_succ_eq_append_getElem (by simp; omega), List.take_set_of_le (by omega), ht]
    simp [rd, hi]

theorem to_all (l : List Int) (hn : l.length ≤ 1048576) {k : Nat} (hk : l.length < k) : laws_toByteS.f k l = some l := by
  unfold laws_toByteS.f
  rw [if_pos (by omega), if_pos (by omega)]
  exact to_loop l hn l.length k 0 _ (by omega) hk (by simp) (by simp)

theorem eq_loop (l : List Int) (hn : l.length ≤ 1048576) (d : Nat) : ∀ (k : Nat) (i : Nat),
    i + d = l.length → d < k → laws_eqByteS.l0 k l l i = some true := by
  induction d with
  | zero =>
    intro k i h0 hk
    obtain ⟨k, rfl⟩ : ∃ m, k = m + 1 := ⟨k - 1, by omega⟩
    simp only [laws_eqByteS.l0]; rw [if_neg (by omega)]
  | succ d ih =>
    intro k i h0 hk
    obtain ⟨k, rfl⟩ : ∃ m, k = m + 1 := ⟨k - 1, by omega⟩
    simp only [laws_eqByteS.l0]; rw [if_pos (by omega), if_pos (by omega), if_pos (by omega), wrap64_id (by omega) (by omega)]
    simp only [if_true]
    exact ih k (i + 1) (by omega) (by omega)

theorem eq_all (l : List Int) (hn : l.length ≤ 1048576) {k : Nat} (hk : l.length < k) : laws_eqByteS.f k l l = some true := by
  unfold laws_eqByteS.f
  rw [if_pos rfl]
  exact eq_loop l hn l.length k 0 (by omega) hk

theorem ends_spec (k : Nat) (a n x : Int) (b : Bool) : ∃ r, spec_UnpackNum.j3 (k + 1) a n x b = some r ∧ impl_UnpackNum.j2 (k + 1) a n x b = some r := by
  simp only [spec_UnpackNum.j3, impl_UnpackNum.j2]
  split
  · exact ⟨_, rfl, rfl⟩
  · split <;> exact ⟨_, rfl, rfl⟩

theorem both (l : List Int) (hn : l.length ≤ 1048576) (hw : ∀ x ∈ l, (Lit.int .u8 x).wf = true) (a : Int) (ha : 0 ≤ a) (ha2 : a ≤ l.length) (d : Nat) :
    ∀ (k : Nat) (i n : Int), 0 ≤ i → i + d = 9 → 2 * d + 4 < k → ∃ r, spec_UnpackNum.l0 k l a n i = some r ∧ impl_UnpackNum.l0 k l a n i = some r := by
  induction d with
  | zero =>
    intro k i n h0 h1 hk
    obtain ⟨k, rfl⟩ : ∃ m, k = m + 2 := ⟨k - 2, by omega⟩
    simp only [spec_UnpackNum.l0, impl_UnpackNum.l0, if_neg (show ¬ i < 9 by omega), spec_UnpackNum.j2, impl_UnpackNum.j1]
    exact ⟨_, rfl, rfl⟩
  | succ d ih =>
    intro k i n h0 h1 hk
    obtain ⟨k, rfl⟩ : ∃ m, k = m + 3 := ⟨k - 3, by omega⟩
    simp only [spec_UnpackNum.l0, impl_UnpackNum.l0, if_pos (show i < 9 by omega), spec_UnpackNum.j2, impl_UnpackNum.j1]
    rw [wrap64_id (x := a + i) (by omega) (by omega), wrap64_id (x := 7 * i) (by omega) (by omega), wrap64_id (x := i + 1) (by omega) (by omega)]
    by_cases h : a + i < (l.length : Int)
    · have hb := byte_rd hw (a + i)
      simp only [decide_eq_true h, if_true, if_pos h, if_pos (show (0 : Int) ≤ a + i by omega), if_pos (show (0 : Int) ≤ 7 * i by omega)]
      rw [wrap64_id (x := rd l (a + i)) (by omega) (by omega), mask127 hb.1 hb.2]
      generalize rd l (a + i) = v at hb ⊢
      by_cases hv : v < 128
      · simp only [if_pos hv, if_neg (show ¬ v > 127 by omega)]
        by_cases hz : v = 0
        · simp only [if_pos hz]
          exact ends_spec k _ _ _ _
        · simp only [if_neg hz]
          exact ends_spec k _ _ _ _
      · simp only [if_neg hv, if_pos (show v > 127 by omega)]
        exact ih (k + 1) (i + 1) _ (by omega) (by omega) (by omega)
    · simp only [decide_eq_false h]
      exact ⟨_, rfl, rfl⟩

theorem whole (l : List Int) (hn : l.length ≤ 1048576) (hw : ∀ x ∈ l, (Lit.int .u8 x).wf = true) (a : Int) (k : Nat) (hk : 30 < k) :
    ∃ r, spec_UnpackNum.f k l a = some r ∧ impl_UnpackNum.f k l a = some r := by
  obtain ⟨k, rfl⟩ : ∃ m, k = m + 2 := ⟨k - 2, by omega⟩
  unfold spec_UnpackNum.f impl_UnpackNum.f impl_in.f
  by_cases h0 : a < 0
  · simp only [if_pos h0, if_neg (show ¬ a ≥ 0 by omega), Option.bind_some, spec_UnpackNum.j0]
    exact ⟨_, rfl, rfl⟩
  · simp only [if_neg h0, if_pos (show a ≥ 0 by omega), Option.bind_some, spec_UnpackNum.j0]
    by_cases h1 : a ≥ (l.length : Int)
    · simp only [decide_eq_true h1, if_true]
      by_cases h2 : a ≤ (l.length : Int)
      · simp only [decide_eq_true h2, if_true]
        refine ⟨_, rfl, ?_⟩
        simp only [impl_UnpackNum.l0, if_pos (show (0 : Int) < 9 by omega)]
        rw [wrap64_id (x := a + 0) (by omega) (by omega)]
        simp only [decide_eq_false (show ¬ a + 0 < (l.length : Int) by omega), impl_UnpackNum.j1]
        rfl
      · simp only [decide_eq_false h2]
        exact ⟨_, rfl, rfl⟩
    · simp only [decide_eq_false h1, decide_eq_true (show a ≤ (l.length : Int) by omega), if_true]
      obtain ⟨r, h2, h3⟩ := both l hn hw a (by omega) (by omega) 9 (k + 1) 0 0 (by omega) (by omega) (by omega)
      have h4 := both l hn hw a (by omega) (by omega) 9 (k + 2) 0 0 (by omega) (by omega) (by omega)
      obtain ⟨r2, h5, h6⟩ := h4
      have := at_rounds (g := fun k => spec_UnpackNum.l0 k l a 0 0) (fun k => (spec_UnpackNum.mono_l k).2.1 l a 0 0) (show k + 1 ≤ k + 2 by omega) h2
      have e : r = r2 := Option.some.inj (this.symm.trans h5)
      exact ⟨r, by simpa using h2, by rw [e]; exact h6⟩

theorem FnExactUnpackNum : laws_FnExactUnpackNum.Pure := by
  intro l a _ _ hw _
  refine ⟨l.length + 40, ?_⟩
  unfold laws_FnExactUnpackNum.f
  by_cases big : (l.length : Int) > 1048576
  · rw [if_pos big]
  · have hn : l.length ≤ 1048576 := by omega
    obtain ⟨r, h1, h2⟩ := whole l hn hw a (l.length + 40) (by omega)
    rw [if_neg big, to_all l hn (by omega)]
    simp only [Option.bind_some]
    rw [h1]
    simp only [Option.bind_some]
    rw [h2]
    simp only [Option.bind_some, if_true, bne_self_eq_false]
    rw [show l.length + 40 = (l.length + 39) + 1 by omega]
    simp only [laws_FnExactUnpackNum.j0]
    rw [to_all l hn (by omega)]
    simp only [Option.bind_some]
    rw [eq_all l hn (by omega)]
    simp

end Go.Proofs.Ythkabndeolefpaa.Pure
