/- The statement of the law FnExactSlotsOf over lists of numbers holds for every list of 64-bit numbers that a machine can hold. -/
import Derived.Test.YthkabndeolefpaaPFnExactSlotsOfx1
namespace Go.Proofs.Ythkabndeolefpaa.Pure
open Go.RowKit Go.Proofs.Ythkabndeolefpaa.PFnExactSlotsOf Go.Proofs.YthkabndeolefpaaW.PrintWords Go.Proofs.YthkabndeolefpaaW.PrintLast

theorem wrap64_id {x : Int} (h : -9223372036854775808 ≤ x) (h2 : x ≤ 9223372036854775807) : wrap64 x = x := by
  unfold wrap64; omega

theorem to_loop (l : List Int) (hn : l.length * 8 ≤ 140737488351232) (d : Nat) : ∀ (k : Nat) (i : Nat) (m : List Int),
    i + d = l.length → d < k → m.length = l.length → m.take i = l.take i → laws_toIntS.l0 k l m i = some l := by
  induction d with
  | zero =>
    intro k i m h0 hk hm ht
    obtain ⟨k, rfl⟩ : ∃ m, k = m + 1 := ⟨k - 1, by omega⟩
    simp only [laws_toIntS.l0]; rw [if_neg (by omega)]
    rw [List.take_of_length_le (by omega), List.take_of_length_le (by omega)] at ht
    rw [ht]
  | succ d ih =>
    intro k i m h0 hk hm ht
    obtain ⟨k, rfl⟩ : ∃ m, k = m + 1 := ⟨k - 1, by omega⟩
    simp only [laws_toIntS.l0]; rw [if_pos (by omega), if_pos (by omega), if_pos (by omega), wrap64_id (by omega) (by omega)]
    have e : (i : Int) + 1 = ((i + 1 : Nat) : Int) := by omega
    rw [e]
    refine ih k (i + 1) _ (by omega) (by omega) (by simpa using hm) ?_
    rw [show ((i : Nat) : Int).toNat = i by omega]
    have hi : i < l.length := by omega
    rw [List.take_succ_eq_append_getElem hi, List.take_succ_eq_append_getElem (by simp; omega), List.take_set_of_le (by omega), ht]
    simp [rd, hi]

theorem to_all (l : List Int) (hn : l.length * 8 ≤ 140737488351232) {k : Nat} (hk : l.length < k) : laws_toIntS.f k l = some l := by
  unfold laws_toIntS.f
  rw [if_pos (by omega), if_pos (by omega)]
  exact to_loop l hn l.length k 0 _ (by omega) hk (by simp) (by simp)

theorem eq_loop (l : List Int) (hn : l.length * 8 ≤ 140737488351232) (d : Nat) : ∀ (k : Nat) (i : Nat),
    i + d = l.length → d < k → laws_eqIntS.l0 k l l i = some true := by
  induction d with
  | zero =>
    intro k i h0 hk
    obtain ⟨k, rfl⟩ : ∃ m, k = m + 1 := ⟨k - 1, by omega⟩
    simp only [laws_eqIntS.l0]; rw [if_neg (by omega)]
  | succ d ih =>
    intro k i h0 hk
    obtain ⟨k, rfl⟩ : ∃ m, k = m + 1 := ⟨k - 1, by omega⟩
    simp only [laws_eqIntS.l0]; rw [if_pos (by omega), if_pos (by omega), if_pos (by omega), wrap64_id (by omega) (by omega)]
    simp only [if_true]
    exact ih k (i + 1) (by omega) (by omega)

theorem eq_all (l : List Int) (hn : l.length * 8 ≤ 140737488351232) {k : Nat} (hk : l.length < k) : laws_eqIntS.f k l l = some true := by
  unfold laws_eqIntS.f
  rw [if_pos rfl]
  exact eq_loop l hn l.length k 0 (by omega) hk

theorem both (l : List Int) (hn : l.length * 8 ≤ 140737488351232) (d : Nat) : ∀ (k : Nat) (i : Nat) (m : Int),
    i + d = l.length → d < k → 0 ≤ m → m ≤ 36 → ∃ r, spec_SlotsOf.l0 k l m i = some r ∧ impl_SlotsOf.l0 k m l l.length i = some r := by
  induction d with
  | zero =>
    intro k i m h0 hk h1 h2
    obtain ⟨k, rfl⟩ : ∃ m, k = m + 1 := ⟨k - 1, by omega⟩
    refine ⟨m, ?_, ?_⟩
    · simp only [spec_SlotsOf.l0]; rw [if_neg (by omega)]
    · simp only [impl_SlotsOf.l0]; rw [if_neg (by omega)]
  | succ d ih =>
    intro k i m h0 hk h1 h2
    obtain ⟨k, rfl⟩ : ∃ m, k = m + 1 := ⟨k - 1, by omega⟩
    simp only [spec_SlotsOf.l0, impl_SlotsOf.l0, spec_l1In.f, impl_isHome.f, impl_in.f, spec_l1Max.f]
    have p1 : (i : Int) < l.length := by omega
    have p2 : (0 : Int) ≤ i := by omega
    simp only [if_pos p1, if_pos p2]
    rw [wrap64_id (x := (i : Int) + 1) (by omega) (by omega)]
    generalize rd l (i : Int) = h
    by_cases a : h ≥ 0
    · simp only [if_pos a, Option.bind_some]
      by_cases b : h ≤ 39
      · simp only [decide_eq_true b, if_true]
        rw [wrap64_id (x := h - 4) (by omega) (by omega), wrap64_id (x := h - 4 + 1) (by omega) (by omega), wrap64_id (x := h + 1) (by omega) (by omega), wrap64_id (x := h + 1 - 4) (by omega) (by omega)]
        by_cases c : m > h - 4 + 1
        · rw [if_pos c]
          have e : mx m (h + 1 - 4) = m := by unfold mx; rw [if_neg (by omega)]
          rw [e]
          exact ih k (i + 1) m (by omega) (by omega) h1 h2
        · rw [if_neg c]
          have e : mx m (h + 1 - 4) = h - 4 + 1 := by unfold mx; split <;> omega
          rw [e]
          exact ih k (i + 1) (h - 4 + 1) (by omega) (by omega) (by omega) (by omega)
      · simp only [decide_eq_false b]
        exact ⟨0, rfl, rfl⟩
    · simp only [if_neg a, Option.bind_some]
      exact ⟨0, rfl, rfl⟩

theorem FnExactSlotsOf : laws_FnExactSlotsOf.Pure := by
  intro l _ hn _
  refine ⟨l.length + 1, ?_⟩
  unfold laws_FnExactSlotsOf.f
  by_cases big : (l.length : Int) > 1048576
  · rw [if_pos big]
  · rw [if_neg big, to_all l hn (by omega)]
    obtain ⟨r, h1, h2⟩ := both l hn l.length (l.length + 1) 0 0 (by omega) (by omega) (by omega) (by omega)
    simp only [Option.bind_some]
    have e1 : spec_SlotsOf.f (l.length + 1) l = some r := h1
    have e2 : impl_SlotsOf.f (l.length + 1) l = some r := h2
    rw [e1, e2]
    simp only [Option.bind_some]
    rw [eq_all l hn (by omega)]
    simp

end Go.Proofs.Ythkabndeolefpaa.Pure
