/- The statement of the law FnExactPackNum over numbers holds for every number of 64 bits. -/
import Derived.Test.YthkabndeolefpaaPFnExactPackNumx2
namespace Go.Proofs.Ythkabndeolefpaa.Pure
open Go.RowKit Go.Proofs.Ythkabndeolefpaa.PFnExactPackNum Go.Proofs.YthkabndeolefpaaW.PrintWords Go.Proofs.YthkabndeolefpaaW.PrintLast

theorem wrap64_id {x : Int} (h : -9223372036854775808 ≤ x) (h2 : x ≤ 9223372036854775807) : wrap64 x = x := by
  unfold wrap64; omega

theorem wrap_u64 (n : Int) : IntKind.u64.wrap n = n % 18446744073709551616 := by simp [IntKind.wrap, IntKind.bits, IntKind.signed]
theorem wraps_u64 (n : Int) (h₀ : 0 ≤ n) (h₁ : n < 2 ^ 63) : IntKind.u64.wrap n = n := by rw [wrap_u64]; omega

theorem form_byte {n : Int} (h0 : 0 ≤ n) (h1 : n < 9223372036854775808) : Go.bits .or .u64 (Go.bits .and .u64 n 127) 128 = n % 128 + 128 := by
  have e := bits_mask .u64 63 (by decide) wraps_u64 7 (by decide) n h0 (by omega)
  have e2 : ((2 : Int) ^ 7 - 1) = 127 := by decide
  have e3 : ((2 : Int) ^ 7) = 128 := by decide
  rw [e2, e3] at e
  rw [e]
  have hm : n % 128 = ((n % 128).toNat : Int) := by omega
  have j1 := (bits_nat .u64 63 (by decide) wraps_u64 (n % 128).toNat 128 (by omega) (by decide)).2
  have j2 := (bits_nat .u64 63 (by decide) wraps_u64 128 (n % 128).toNat (by decide) (by omega)).2
  have j3 := bits_join .u64 63 (by decide) wraps_u64 7 128 (n % 128) (by decide) (by decide) (by decide) (by omega) (by omega) (by omega)
  rw [Nat.or_comm, ← j2] at j1
  rw [← hm] at j1
  have c : ((128 : Nat) : Int) = 128 := rfl
  rw [c] at j1
  rw [j1, j3]
  omega

theorem loops (d : Nat) : ∀ (k : Nat) (n : Int) (x : List Int), 0 ≤ n → n < 9223372036854775808 → n < 128 * 128 ^ d → x.length + d < 1000 → d < k →
    ∃ r, spec_PackNum.l0 k x n = some r ∧ impl_PackNum.l0 k n x = some r ∧ r.length ≤ x.length + d + 1 := by
  induction d with
  | zero =>
    intro k n x h0 h1 h2 hx hk
    obtain ⟨k, rfl⟩ : ∃ m, k = m + 1 := ⟨k - 1, by omega⟩
    have h3 : n < 128 := by simpa using h2
    refine ⟨x ++ [n % 256], ?_, ?_, by simp⟩
    · simp only [spec_PackNum.l0]; rw [if_neg (by omega), if_pos (by omega)]
    · simp only [impl_PackNum.l0]; rw [if_neg (by omega), if_pos (by omega)]
  | succ d ih =>
    intro k n x h0 h1 h2 hx hk
    obtain ⟨k, rfl⟩ : ∃ m, k = m + 1 := ⟨k - 1, by omega⟩
    simp only [spec_PackNum.l0, impl_PackNum.l0]
    by_cases h : n > 127
    · rw [if_pos h, if_pos h, if_pos (by omega), if_pos (by omega), form_byte h0 h1, Int.tmod_eq_emod_of_nonneg h0, Int.tdiv_eq_ediv_of_nonneg h0]
      rw [wrap64_id (x := n % 128 + 128) (by omega) (by omega), wrap64_id (x := n / 128) (by omega) (by omega)]
      rw [Int.pow_succ] at h2
      obtain ⟨r, a, b, c⟩ := ih k (n / 128) (x ++ [(n % 128 + 128) % 256]) (by omega) (by omega) (by omega) (by simp; omega) (by omega)
      exact ⟨r, a, b, by simp at c; omega⟩
    · rw [if_neg h, if_neg h, if_pos (by omega)]
      exact ⟨_, rfl, rfl, by simp⟩

theorem forms (a : Int) (hw : -9223372036854775808 ≤ a ∧ a ≤ 9223372036854775807) (k : Nat) (hk : 20 < k) :
    ∃ r, spec_PackNum.f k a = some r ∧ impl_PackNum.f k a = some r ∧ r.length ≤ 20 := by
  obtain ⟨k, rfl⟩ : ∃ m, k = m + 2 := ⟨k - 2, by omega⟩
  have hp : (128 : Int) * 128 ^ 9 = 1180591620717411303424 := by decide
  unfold spec_PackNum.f impl_PackNum.f spec_l1In.f
  simp only [Option.bind_some]
  by_cases h : -4611686018427387904 ≤ a ∧ a ≤ 4611686018427387903
  · obtain ⟨h1, h2⟩ := h
    rw [if_pos (show a ≥ -4611686018427387904 from h1), if_neg (show ¬ a ≥ 4611686018427387904 by omega)]
    simp only [Option.bind_some, decide_eq_true h2, if_true, decide_eq_false (show ¬ a < -4611686018427387904 by omega), impl_PackNum.j0, spec_PackNum.j0]
    have two (n : Int) (n0 : 0 ≤ n) (n1 : n < 9223372036854775808) : ∃ r, spec_PackNum.l0 (k + 1) [] n = some r ∧ impl_PackNum.j1 (k + 1) n = some r ∧ r.length ≤ 20 := by
      obtain ⟨r, a1, b1, c1⟩ := loops 9 k n [] n0 n1 (by omega) (by simp) (by omega)
      refine ⟨r, ?_, by simp only [impl_PackNum.j1]; exact b1, by simp at c1; omega⟩
      obtain ⟨r2, a2, b2, c2⟩ := loops 9 (k + 1) n [] n0 n1 (by omega) (by simp) (by omega)
      have := spec_PackNum.mono_l k
      have e := this.2 [] n r a1
      exact e
    by_cases h3 : a < 0
    · simp only [if_pos h3]
      by_cases h4 : a = -4611686018427387904
      · subst h4
        have e : wrap64 (wrap64 (-2 * -4611686018427387904) - 1) = 9223372036854775807 := by unfold wrap64; decide
        rw [e]
        simpa using two 9223372036854775807 (by decide) (by decide)
      · rw [wrap64_id (x := -2 * a) (by omega) (by omega), wrap64_id (x := -2 * a - 1) (by omega) (by omega), wraps_u64 (-2 * a - 1) (by omega) (by omega)]
        simp only [if_neg h4]
        simpa using two (-2 * a - 1) (by omega) (by omega)
    · simp only [if_neg h3]
      rw [wrap64_id (x := 2 * a) (by omega) (by omega), wraps_u64 (2 * a) (by omega) (by omega)]
      simpa using two (2 * a) (by omega) (by omega)
  · refine ⟨[], ?_, ?_, by simp⟩
    · by_cases h1 : a ≥ -4611686018427387904
      · simp only [if_pos h1, Option.bind_some, decide_eq_false (show ¬ a ≤ 4611686018427387903 by omega)]
        rfl
      · simp only [if_neg h1, Option.bind_some]
        rfl
    · by_cases h1 : a ≥ 4611686018427387904
      · simp only [if_pos h1, impl_PackNum.j0, if_true]
      · simp only [if_neg h1, decide_eq_true (show a < -4611686018427387904 by omega), impl_PackNum.j0, if_true]

theorem eq_loop (l : List Int) (hn : l.length ≤ 1000) (d : Nat) : ∀ (k : Nat) (i : Nat),
    i + d = l.length → d < k → laws_eqByteS.l0 k l l i = some true := by
  induction d with
  | zero =>
    intro k i h0 hk
    obtain ⟨k, rfl⟩ : ∃ m, k = m + 1 := ⟨k - 1, by omega⟩
    simp only [laws_eqByteS.l0]; rw [if_neg (by omega)]
  | succ d ih =>
    intro k i h0 hk
    obtain ⟨k, rfl⟩ : ∃ m, k = m + 1 := ⟨k - 1, by omega⟩
    simp only [laws_eqByteS.l0]; rw [if_pos (by omega), if_pos (by omega), if_pos (by omega), wrap64_id (by omega) (by omega)]
    simp only [if_true]
    exact ih k (i + 1) (by omega) (by omega)

theorem eq_all (l : List Int) (hn : l.length ≤ 1000) {k : Nat} (hk : l.length < k) : laws_eqByteS.f k l l = some true := by
  unfold laws_eqByteS.f
  rw [if_pos rfl]
  exact eq_loop l hn l.length k 0 (by omega) hk

theorem mark_loop (d : Nat) : ∀ (k : Nat) (i : Nat) (x : List Int), x.length ≤ 1000 → i + d = x.length → d < k →
    (∀ j : Nat, j < i → rd x j = (1 + (j : Int)) % 256) →
    ∃ m, laws_markByteS.l0 k x (1 + (i : Int)) i = some (1 + (x.length : Int), m) ∧ m.length = x.length ∧ ∀ j : Nat, j < m.length → rd m j = (1 + (j : Int)) % 256 := by
  induction d with
  | zero =>
    intro k i x hx h0 hk hp
    obtain ⟨k, rfl⟩ : ∃ m, k = m + 1 := ⟨k - 1, by omega⟩
    refine ⟨x, ?_, rfl, fun j hj => hp j (by omega)⟩
    simp only [laws_markByteS.l0]; rw [if_neg (by omega), show i = x.length by omega]
  | succ d ih =>
    intro k i x hx h0 hk hp
    obtain ⟨k, rfl⟩ : ∃ m, k = m + 1 := ⟨k - 1, by omega⟩
    simp only [laws_markByteS.l0]; rw [if_pos (by omega), if_pos (by omega), wrap64_id (by omega) (by omega), wrap64_id (by omega) (by omega)]
    rw [show (i : Int).toNat = i by omega, show 1 + (i : Int) + 1 = 1 + ((i + 1 : Nat) : Int) by omega, show (i : Int) + 1 = ((i + 1 : Nat) : Int) by omega]
    have hi : i < x.length := by omega
    have := ih k (i + 1) (x.set i ((1 + (i : Int)) % 256)) (by simpa using hx) (by simp; omega) (by omega) (by
      intro j hj
      have hjn : (j : Int).toNat = j := by omega
      by_cases e : j = i
      · subst e
        unfold rd
        rw [hjn]
        simp [hi]
      · have q := hp j (by omega)
        unfold rd at q ⊢
        rw [hjn] at q ⊢
        simp [Ne.symm e] at q ⊢
        exact q)
    simpa using this

theorem held_loop (m : List Int) (hm : m.length ≤ 1000) (hh : ∀ j : Nat, j < m.length → rd m j = (1 + (j : Int)) % 256) (d : Nat) : ∀ (k : Nat) (i : Nat), i + d = m.length → d < k →
    laws_heldByteS.l0 k m (1 + (i : Int)) i = some (1 + (m.length : Int)) := by
  induction d with
  | zero =>
    intro k i h0 hk
    obtain ⟨k, rfl⟩ : ∃ m, k = m + 1 := ⟨k - 1, by omega⟩
    simp only [laws_heldByteS.l0]; rw [if_neg (by omega), show i = m.length by omega]
  | succ d ih =>
    intro k i h0 hk
    obtain ⟨k, rfl⟩ : ∃ m, k = m + 1 := ⟨k - 1, by omega⟩
    simp only [laws_heldByteS.l0]; rw [if_pos (by omega), if_pos (by omega), if_pos (hh i (by omega)), wrap64_id (by omega) (by omega), wrap64_id (by omega) (by omega)]
    rw [show 1 + (i : Int) + 1 = 1 + ((i + 1 : Nat) : Int) by omega, show (i : Int) + 1 = ((i + 1 : Nat) : Int) by omega]
    exact ih k (i + 1) (by omega) (by omega)

theorem wf_i64 {a : Int} (h : (Lit.int .i64 a).wf = true) : -9223372036854775808 ≤ a ∧ a ≤ 9223372036854775807 := by
  simp only [Lit.wf, IntKind.min, IntKind.max, IntKind.signed, IntKind.bits, Bool.and_eq_true] at h
  simp at h
  omega

theorem FnExactPackNum : laws_FnExactPackNum.Pure := by
  intro a hw
  refine ⟨60, ?_⟩
  obtain ⟨r, h1, h2, h3⟩ := forms a (wf_i64 hw) 60 (by decide)
  obtain ⟨m, m1, m2, m3⟩ := mark_loop r.length 60 0 r (by omega) (by omega) (by omega) (by intro j hj; omega)
  have m1' : laws_markByteS.f 60 r 1 = some (1 + (r.length : Int), m) := m1
  have hl := held_loop m (by omega) m3 m.length 60 0 (by omega) (by omega)
  have hl' : laws_heldByteS.f 60 m 1 = some (1 + (m.length : Int)) := hl
  have he := eq_all r (by omega) (k := 60) (by omega)
  unfold laws_FnExactPackNum.f
  simp only [h1, h2, he, m1', hl', Option.bind_some, if_true, m2, if_neg (show ¬ (1 + (r.length : Int)) < 0 by omega)]

end Go.Proofs.Ythkabndeolefpaa.Pure
