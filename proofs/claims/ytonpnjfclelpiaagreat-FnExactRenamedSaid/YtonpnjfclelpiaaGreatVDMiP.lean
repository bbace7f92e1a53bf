import Derived.Test.YtonpnjfclelpiaaGreatVDMiR
namespace Go.Proofs.YtonpnjfclelpiaaGreatM
open Go
set_option linter.unusedVariables false
set_option linter.unusedSimpArgs false
def plainV : Value → Bool
 | .int _ _ | .bool _ | .string _ | .nilFunc | .pointer none | .slice none 0 0 => true
 | _ => false
theorem plainV_self {π : Nat → Option Pl} {v : Value} (h : plainV v = true) : VR1 π v v := by
 unfold plainV at h
 split at h <;> first | rfl | cases h
def ShOk (d : TypeDesc) : Sh → Prop
 | .int k => d = .int k
 | .bool => d = .bool
 | .str => d = .string
 | .ptr => ∃ e, d = .pointer e
 | .slice e => d = .slice e
 | .struct fs => ∃ f, d = .struct f ∧ f.toList.map (fun x => (x.offset, x.type)) = fs
 | .fn => ∃ a b c, d = .func a b c
structure Know (P : Program) (Γ : TypeId → Option TI) (E : TypeId → Nat) : Prop where
 ty : ∀ t i, Γ t = some i → ∃ inf, P.info? t = some inf ∧ inf.size = i.size ∧ inf.bytes = i.bytes ∧ (∃ z, inf.zero = some z ∧ z.cells = i.zero.toArray) ∧
  (∀ v ∈ i.zero, plainV v = true) ∧ ∃ d, P.underlying t = some d ∧ ShOk d i.sh
 eql : ∀ t, E t ≠ 0 → ∀ (x y : Operand) (xs ys : Array Value), xs.size = E t → ys.size = E t → allI xs.toList = true → allI ys.toList = true → ∀ w,
  ((do eqGuard .eql t x y (.agg xs) (.agg ys); binOp .eql t (.agg xs) (.agg ys) : Sem Value)).run P w = .ok (.bool (decide (xs.toList.map numI = ys.toList.map numI))) w
 neq : ∀ t, E t ≠ 0 → ∀ (x y : Operand) (xs ys : Array Value), xs.size = E t → ys.size = E t → allI xs.toList = true → allI ys.toList = true → ∀ w,
  ((do eqGuard .neq t x y (.agg xs) (.agg ys); binOp .neq t (.agg xs) (.agg ys) : Sem Value)).run P w = .ok (.bool (!decide (xs.toList.map numI = ys.toList.map numI))) w
 mixed : P.follows .mixedOrders = true
section
variable {P : Program} {Γ : TypeId → Option TI} {E : TypeId → Nat} {π : Nat → Option Pl}
theorem Know.under (K : Know P Γ E) {t : TypeId} {i : TI} (h : Γ t = some i) : ∃ d, P.underlying t = some d ∧ ShOk d i.sh := by
 obtain ⟨_, _, _, _, _, _, d, hd⟩ := K.ty t i h; exact ⟨d, hd⟩
theorem Know.size (K : Know P Γ E) {t : TypeId} {i : TI} (h : Γ t = some i) (w : World) : (sizeOf t).run P w = .ok i.size w := by
 obtain ⟨inf, h1, h2, _⟩ := K.ty t i h
 simp [sizeOf, typeInfo, h1, h2]
theorem Know.agg (K : Know P Γ E) {t : TypeId} {i : TI} (h : Γ t = some i) (w : World) : (isAgg t).run P w = .ok i.sh.agg w := by
 obtain ⟨d, hd, hs⟩ := K.under h
 have hu := run_underlying hd w
 unfold isAgg
 simp only [Sem.run_bind, hu, Result.andThen_ok]
 cases hsh : i.sh <;> rw [hsh] at hs <;> simp only [ShOk] at hs <;> first
  | (subst hs; rfl)
  | (obtain ⟨e, rfl⟩ := hs; rfl)
  | (obtain ⟨e, rfl, _⟩ := hs; rfl)
  | (obtain ⟨a, b, c, rfl⟩ := hs; rfl)
theorem binI_run {op : BinOp} {k : IntKind} {a b : Int} {v : Value} (h : binI op k a b = some v) (t : TypeId) (w : World) :
  (binOp op t (.int k a) (.int k b)).run P w = .ok v w ∧ VR1 π v v := by
 unfold binI at h
 split at h <;> first
  | (injection h with h; subst h; exact ⟨by simp [binOp, Op.intArith, Op.intCmp, Op.intBits, bits], rfl⟩)
  | (split at h
     ·cases h
     ·rename_i hb; injection h with h; subst h; exact ⟨by simp [binOp, Op.intDiv, hb], rfl⟩)
  | cases h
theorem binS_run {op : BinOp} {a b : ByteArray} {v : Value} (h : binS op a b = some v) (t : TypeId) (w : World) :
  (binOp op t (.string a) (.string b)).run P w = .ok v w ∧ VR1 π v v := by
 unfold binS at h
 split at h
 ·split at h
  ·rename_i hb; injection h with h; subst h
   refine ⟨?_, rfl⟩
   have e : binOp .add t (.string a) (.string b) = Op.stringOp .add a b := by simp [binOp]
   rw [e]
   exact run_string_add_sum (P := P) (w := w) a b (by omega)
  ·cases h
 ·injection h with h; subst h; exact ⟨by simp [binOp, Op.stringOp], rfl⟩
 ·injection h with h; subst h; exact ⟨by simp [binOp, Op.stringOp], rfl⟩
 ·cases h
theorem run_equal_bool {t : TypeId} (hd : P.underlying t = some .bool) (a b : Bool) (w : World) : (Op.equal t (.bool a) (.bool b)).run P w = .ok (a == b) w := by
 have e : Op.maxDepth = 9999 + 1 := rfl
 unfold Op.equal
 rw [e]
 unfold Op.equalIn
 simp only [Sem.run_bind, run_underlying hd, Result.andThen_ok]
 rfl
theorem run_equal_slnil {t e : TypeId} (hd : P.underlying t = some (.slice e)) (a : Option Addr) (l c : Nat) (w : World) : (Op.equal t (.slice a l c) (.slice none 0 0)).run P w = .ok a.isNone w := by
 have e : Op.maxDepth = 9999 + 1 := rfl
 unfold Op.equal
 rw [e]
 unfold Op.equalIn
 simp only [Sem.run_bind, run_underlying hd, Result.andThen_ok]
 cases a <;> rfl
theorem allI_same {π : Nat → Option Pl} : ∀ {l m : List Value}, allI l = true → All2 (VR1 π) l m → m = l
 | [], [], _, _ => rfl
 | a :: l, b :: m, h, ⟨h1, h2⟩ => by
  unfold allI at h
  split at h
  ·rename_i hh; cases hh
  ·rename_i n r hh
   injection hh with e1 e2
   subst e1; subst e2
   have : b = .int .i64 n := h1
   rw [this, allI_same h h2]
  ·cases h
 | [], _ :: _, _, x => x.elim
 | _ :: _, [], _, x => x.elim
theorem agg_same {a : Array Value} {x' : Value} (h : allI a.toList = true) (hx : VR π (.agg a) x') : x' = .agg a := by
 obtain ⟨cs, rfl, h2⟩ : VRa π (.agg a) x' := hx
 have := allI_same h h2
 rw [Array.ext' this]
theorem slice_at {a : Option Addr} {l c : Nat} {x' : Value} (hx : VR π (.slice a l c) x') : ∃ a' l2 c2, x' = .slice a' l2 c2 ∧ a'.isNone = a.isNone := by
 have this : VR1 π (.slice a l c) x' := hx
 unfold VR1 at this
 split at this <;> first
  | (rename_i hh; cases hh; exact ⟨_, _, _, this, rfl⟩)
  | (rename_i hh; cases hh; obtain ⟨p, a1, c1, _, h2, _⟩ := this; exact ⟨_, _, _, h2, rfl⟩)
  | (rename_i hh; cases hh; done)
  | exact this.elim
theorem nil_at {l c : Nat} {x' : Value} (hx : VR π (.slice none l c) x') : x' = .slice none 0 0 := by
 have this : VR1 π (.slice none l c) x' := hx
 unfold VR1 at this
 split at this <;> first | exact this | (rename_i hh; cases hh; done) | exact this.elim
theorem binV_sound (K : Know P Γ E) {op : BinOp} {t : TypeId} {x y x' y' v : Value} (h : binV Γ E op t x y = some v) (hx : VR π x x') (hy : VR π y y') (xo yo : Operand) :
  VR1 π v v ∧ ∀ w, ((do eqGuard op t xo yo x' y'; binOp op t x' y' : Sem Value)).run P w = .ok v w := by
 unfold binV at h
 split at h
 ·rename_i k a k' b
  have ex : x' = .int k a := hx
  have ey : y' = .int k' b := hy
  subst ex; subst ey
  split at h
  ·cases h
  ·rename_i hb; injection h with h; subst h
   exact ⟨rfl, fun w => by simp [go_sem, binOp, Op.shift, hb]⟩
 ·rename_i k a k' b
  have ex : x' = .int k a := hx
  have ey : y' = .int k' b := hy
  subst ex; subst ey
  split at h
  ·cases h
  ·rename_i hb; injection h with h; subst h
   exact ⟨rfl, fun w => by simp [go_sem, binOp, Op.shift, hb]⟩
 ·rename_i k a k' b _ _
  have ex : x' = .int k a := hx
  have ey : y' = .int k' b := hy
  subst ex; subst ey
  split at h
  ·rename_i hk; subst hk
   refine ⟨(binI_run (P := P) h t default).2, fun w => ?_⟩
   have := (binI_run (P := P) (π := π) h t w).1
   simp only [Sem.run_bind]
   rw [eqGuard_at_int]
   simpa using this
  ·cases h
 ·rename_i a b
  have ex : x' = .string a := hx
  have ey : y' = .string b := hy
  subst ex; subst ey
  refine ⟨(binS_run (P := P) h t default).2, fun w => ?_⟩
  have := (binS_run (P := P) (π := π) h t w).1
  simp only [Sem.run_bind]
  rw [eqGuard_at_string]
  simpa using this
 ·rename_i a b
  have ex : x' = .bool a := hx
  have ey : y' = .bool b := hy
  subst ex; subst ey
  split at h
  ·rename_i hg
   injection h with h; subst h
   obtain ⟨d, hd, hs⟩ := K.under hg
   simp only [ShOk] at hs; subst hs
   refine ⟨rfl, fun w => ?_⟩
   simp only [Sem.run_bind]
   rw [eqGuard_at_bool]
   simp [binOp, run_equal_bool hd]
  ·cases h
 ·rename_i a b
  have ex : x' = .bool a := hx
  have ey : y' = .bool b := hy
  subst ex; subst ey
  split at h
  ·rename_i hg
   injection h with h; subst h
   obtain ⟨d, hd, hs⟩ := K.under hg
   simp only [ShOk] at hs; subst hs
   refine ⟨rfl, fun w => ?_⟩
   simp only [Sem.run_bind]
   rw [eqGuard_at_bool]
   simp [binOp, run_equal_bool hd]
  ·cases h
 ·rename_i a l c l' c'
  split at h
  ·rename_i e _ _ _ hg
   injection h with h; subst h
   obtain ⟨d, hd, hs⟩ := K.under hg
   simp only [ShOk] at hs; subst hs
   have ey := nil_at hy
   obtain ⟨a', l2, c2, rfl, ha⟩ := slice_at hx
   subst ey
   refine ⟨rfl, fun w => ?_⟩
   simp only [Sem.run_bind]
   rw [eqGuard_at_slice, ← ha]
   simp [binOp, run_equal_slnil hd]
  ·cases h
 ·rename_i a l c l' c'
  split at h
  ·rename_i e _ _ _ hg
   injection h with h; subst h
   obtain ⟨d, hd, hs⟩ := K.under hg
   simp only [ShOk] at hs; subst hs
   have ey := nil_at hy
   obtain ⟨a', l2, c2, rfl, ha⟩ := slice_at hx
   subst ey
   refine ⟨rfl, fun w => ?_⟩
   simp only [Sem.run_bind]
   rw [eqGuard_at_slice, ← ha]
   simp [binOp, run_equal_slnil hd]
  ·cases h
 ·split at h
  ·rename_i hc
   obtain ⟨h0, h1, h2, h3, h4⟩ := hc
   injection h with h; subst h
   rw [agg_same h3 hx, agg_same h4 hy]
   exact ⟨rfl, K.eql _ h0 xo yo _ _ h1 h2 h3 h4⟩
  ·cases h
 ·split at h
  ·rename_i hc
   obtain ⟨h0, h1, h2, h3, h4⟩ := hc
   injection h with h; subst h
   rw [agg_same h3 hx, agg_same h4 hy]
   exact ⟨rfl, K.neq _ h0 xo yo _ _ h1 h2 h3 h4⟩
  ·cases h
 ·cases h
theorem asN_some {v : Option Value} {d n : Nat} (h : asN v d = some n) : (v = none ∧ n = d) ∨ ∃ (k : IntKind) (z : Int), v = some (.int k z) ∧ 0 ≤ z ∧ z.toNat = n := by
 unfold asN at h
 split at h
 ·injection h with h; exact .inl ⟨rfl, h.symm⟩
 ·split at h
  ·rename_i hz; injection h with h; exact .inr ⟨_, _, rfl, hz, h⟩
  ·cases h
 ·cases h
theorem run_bound (k : IntKind) (z : Int) (y : Nat) (code : BoundsCode) (h0 : 0 ≤ z) (h1 : z ≤ y) (w : World) : (Instr.sliceBound (.int k z) y code).run P w = .ok z.toNat w := by
 unfold Instr.sliceBound
 simp [asIntOf, h0, h1]
theorem ltU {c e : Nat} (h : c < 18446744073709551616) : c ≠ U e := by unfold U; omega
theorem U_lt (e : Nat) : ¬ U e < 18446744073709551616 := by unfold U; omega
theorem U_inj {a b : Nat} (h : U a = U b) : a = b := by unfold U at h; omega
def OV (π : Nat → Option Pl) : Option Value → Option Value → Prop
 | none, none => True
 | some a, some b => VR π a b
 | _, _ => False
theorem asN_rel {v v' : Option Value} {d n : Nat} (h : asN v d = some n) (r : OV π v v') : v' = v := by
 rcases asN_some h with ⟨rfl, _⟩ | ⟨k, z, rfl, _, _⟩
 ·cases v' with
  | none => rfl
  | some _ => exact r.elim
 ·cases v' with
  | none => exact r.elim
  | some b => rw [show b = .int k z from r]
theorem bounds_run (isS : Bool) (len cap : Nat) {lo hi mx : Option Value} {l u m : Nat} (hl : asN lo 0 = some l) (hu : asN hi len = some u)
  (hm : (mx = none ∧ m = cap) ∨ (asN mx 0 = some m ∧ mx.isSome = true ∧ hi.isSome = true ∧ m ≤ cap)) (h1 : l ≤ u) (h2 : u ≤ m) (w : World) :
  (Instr.sliceBounds isS len cap lo hi mx).run P w = .ok (l, u, m) w := by
 unfold Instr.sliceBounds
 rcases asN_some hl with ⟨rfl, rfl⟩ | ⟨k, z, rfl, hz, rfl⟩ <;> rcases asN_some hu with ⟨rfl, rfl⟩ | ⟨k2, z2, rfl, hz2, rfl⟩ <;>
  rcases hm with ⟨rfl, rfl⟩ | ⟨hm1, hm2, hm3, hm4⟩
 all_goals first
  | (simp only [Sem.run_bind, Sem.run_pure, Result.andThen_ok, run_bound _ _ _ _ hz2 (show z2 ≤ (m : Int) by omega)]; done)
  | (simp only [Sem.run_bind, Sem.run_pure, Result.andThen_ok]; done)
  | (simp only [Sem.run_bind, Sem.run_pure, Result.andThen_ok, run_bound _ _ _ _ hz (show z ≤ (u : Int) by omega)]; done)
  | (simp only [Sem.run_bind, Sem.run_pure, Result.andThen_ok, run_bound _ _ _ _ hz2 (show z2 ≤ (m : Int) by omega), run_bound _ _ _ _ hz (show z ≤ (z2.toNat : Int) by omega)]; done)
  | (cases hm3; done)
  | (rcases asN_some hm1 with ⟨rfl, _⟩ | ⟨k3, z3, rfl, hz3, rfl⟩
     ·cases hm2
     ·simp only [Sem.run_bind, Sem.run_pure, Result.andThen_ok, run_bound _ _ _ _ hz3 (show z3 ≤ (cap : Int) by omega), run_bound _ _ _ _ hz2 (show z2 ≤ (z3.toNat : Int) by omega)]
      first | done | (simp only [run_bound _ _ _ _ hz (show z ≤ (z2.toNat : Int) by omega), Result.andThen_ok]))
theorem sliceV_sound (K : Know P Γ E) {t : TypeId} {x x' v : Value} {lo hi mx lo' hi' mx' : Option Value} {len : Nat → Option Nat}
  (h : sliceV Γ t x lo hi mx len = some v) (hx : VR π x x') (hlo : OV π lo lo') (hhi : OV π hi hi') (hmx : OV π mx mx')
  (hlen : ∀ n m, len n = some m → ∀ p, π n = some p → m ≤ p.ext) :
  ∃ v', VR1 π v v' ∧ ∀ w, (Instr.sliceAt t x' lo' hi' mx').run P w = .ok v' w := by
 unfold sliceV at h
 split at h
 ·rename_i s hg
  obtain ⟨d, hd, hs⟩ := K.under hg
  simp only [ShOk] at hs; subst hs
  have ex : x' = .string s := hx
  subst ex
  split at h
  ·rename_i l u h1 h2
   have e1 := asN_rel h1 hlo
   have e2 := asN_rel h2 hhi
   subst e1; subst e2
   cases mx' with
   | some _ => exact hmx.elim
   | none =>
    split at h
    ·rename_i hc
     injection h with h; subst h
     refine ⟨_, rfl, fun w => ?_⟩
     unfold Instr.sliceAt Instr.slice
     simp only [Sem.run_bind, run_underlying hd, Result.andThen_ok]
     rw [if_neg (by simp)]
     simp only [Sem.run_bind]
     rw [bounds_run (P := P) false s.size s.size h1 h2 (m := s.size) (.inl ⟨rfl, rfl⟩) hc.1 hc.2]
     simp
    ·cases h
  ·cases h
 ·rename_i e hg
  obtain ⟨d, hd, hs⟩ := K.under hg
  simp only [ShOk] at hs; subst hs
  have ex := nil_at hx
  subst ex
  split at h
  ·rename_i i h1 h2 hge
   have e1 := asN_rel h1 hlo
   have e2 := asN_rel h2 hhi
   subst e1; subst e2
   cases mx' with
   | some _ => exact hmx.elim
   | none =>
    injection h with h; subst h
    refine ⟨_, rfl, fun w => ?_⟩
    unfold Instr.sliceAt Instr.slice
    simp only [Sem.run_bind, run_underlying hd, Result.andThen_ok]
    rw [bounds_run (P := P) true 0 0 h1 h2 (m := 0) (.inl ⟨rfl, rfl⟩) (Nat.le_refl _) (Nat.le_refl _)]
    simp [K.size hge]
  ·cases h
 ·rename_i e n o k c hg
  obtain ⟨d, hd, hs⟩ := K.under hg
  simp only [ShOk] at hs; subst hs
  obtain ⟨p, a, c', hp, ex, hk, ha, hU, hE⟩ : VR1 π (.slice (some ⟨n, o, none⟩) k c) x' := hx
  subst ex
  split at h
  ·rename_i l u i h1 h2 hge
   have e1 := asN_rel h1 hlo
   have e2 := asN_rel h2 hhi
   subst e1; subst e2
   split at h
   ·cases h
   ·rename_i hi0
    have go : ∀ (m cc : Nat), (mx' = none ∧ m = c') ∨ (asN mx' 0 = some m ∧ mx'.isSome = true ∧ hi'.isSome = true ∧ m ≤ c') → l ≤ u → u ≤ m → m ≤ c' →
      (∀ e, cc = U e → o + l * i.size + (m - l) * e = p.ext) → (cc < 18446744073709551616 → m - l = cc) →
      ∃ v', VR1 π (.slice (some ⟨n, o + l * i.size, none⟩) (u - l) cc) v' ∧ ∀ w, (Instr.sliceAt t (.slice (some a) k c') lo' hi' mx').run P w = .ok v' w := by
     intro m cc hm q1 q2 q3 q4 q5
     refine ⟨.slice (if m = l then some a else (some a).map (·.add (l * i.size))) (u - l) (m - l), ?_, fun w => ?_⟩
     ·by_cases hml : m = l
      ·rw [if_pos hml]
       exact ⟨p, a, m - l, hp, rfl, by omega, fun hh => absurd hml (by omega), q4, q5⟩
      ·rw [if_neg hml]
       refine ⟨p, a.add (l * i.size), m - l, hp, rfl, by omega, fun _ => ?_, q4, q5⟩
       rw [ha (by omega), Addr.add_lit, Nat.add_assoc]
     ·unfold Instr.sliceAt Instr.slice
      simp only [Sem.run_bind, run_underlying hd, Result.andThen_ok]
      rw [bounds_run (P := P) true k c' h1 h2 (m := m) hm q1 q2]
      simp [K.size hge]
    split at h
    ·have em : mx' = none := by
      cases mx' with
      | none => rfl
      | some _ => exact hmx.elim
     split at h
     ·rename_i hcU
      split at h
      ·rename_i hc
       injection h with h; subst h
       have hcap : u ≤ c' := by
        rcases hc.2 with h3 | h3
        ·omega
        ·cases hl : len n with
         | none => rw [hl] at h3; cases h3
         | some m =>
          rw [hl] at h3
          have h4 : o + u * i.size ≤ m := of_decide_eq_true h3
          have h5 := hlen n m hl p hp
          have h6 := hU _ hcU
          have h7 : u * i.size ≤ c' * i.size := by omega
          exact Nat.le_of_mul_le_mul_right h7 (by omega)
       refine go c' (U i.size) (.inl ⟨em, rfl⟩) hc.1 hcap (Nat.le_refl _) ?_ (fun hh => absurd hh (U_lt _))
       intro e he
       have := U_inj he
       subst this
       have h6 := hU _ hcU
       rw [← h6, Nat.add_assoc, ← Nat.add_mul]
       congr 2
       omega
      ·cases h
     ·split at h
      ·rename_i hc
       injection h with h; subst h
       have hcc := hE hc.1
       subst hcc
       exact go c' (c' - l) (.inl ⟨em, rfl⟩) hc.2.1 hc.2.2 (Nat.le_refl _) (fun e he => absurd he (ltU (by omega))) (fun _ => rfl)
      ·cases h
    ·rename_i mv
     split at h
     ·rename_i m hmm
      split at h
      ·rename_i hc
       injection h with h; subst h
       have em := asN_rel hmm hmx
       subst em
       exact go m (m - l) (.inr ⟨hmm, rfl, hc.1, by omega⟩) hc.2.1 hc.2.2.1 (by omega) (fun e he => absurd he (ltU (by omega))) (fun _ => rfl)
      ·cases h
     ·cases h
  ·cases h
 ·cases h
theorem VR.a {v v' : Value} (h : VR π v v') (hv : isVar v = true) : VRa π v v' := by
 unfold isVar at hv
 unfold VR at h
 split at h
 ·simp at hv
 ·unfold VRf at h
  split at h
  ·simp at hv
  ·exact h
theorem splice_length {l xs : List Value} {o : Nat} (h : o + xs.length ≤ l.length) : (splice l o xs).length = l.length := by
 unfold splice; simp; omega
theorem splice_get {l xs : List Value} {o : Nat} (h : o + xs.length ≤ l.length) (i : Nat) : (splice l o xs)[i]? = if i < o then l[i]? else if i < o + xs.length then xs[i - o]? else l[i]? := by
 unfold splice
 by_cases h1 : i < o
 ·rw [if_pos h1, List.append_assoc, List.getElem?_append_left (by simp; omega), List.getElem?_take_of_lt h1]
 ·rw [if_neg h1]
  by_cases h2 : i < o + xs.length
  ·rw [if_pos h2, List.append_assoc, List.getElem?_append_right (by simp; omega), List.getElem?_append_left (by simp; omega)]
   congr 1; simp; omega
  ·rw [if_neg h2, List.getElem?_append_right (by simp; omega), List.getElem?_drop]
   congr 1; simp; omega
theorem fold_set : ∀ (xs : List Value) (k : Nat) (cs : Array Value) (o : Nat), o + k + xs.length ≤ cs.size →
  ((xs.zipIdx k).foldl (fun cs (x : Value × Nat) => cs.setIfInBounds (o + x.2) x.1) cs).toList = splice cs.toList (o + k) xs
 | [], k, cs, o, h => by simp [splice]
 | x :: xs, k, cs, o, h => by
  simp only [List.zipIdx_cons, List.foldl_cons]
  rw [fold_set xs (k + 1) _ o (by simp at h ⊢; omega)]
  have hb : o + k + (x :: xs).length ≤ cs.toList.length := by simpa using h
  apply List.ext_getElem?
  intro i
  have hb2 : o + (k + 1) + xs.length ≤ (cs.setIfInBounds (o + k) x).toList.length := by simp at hb ⊢; omega
  rw [splice_get hb2, splice_get hb]
  simp only [List.length_cons] at hb ⊢
  by_cases h1 : i < o + k
  ·rw [if_pos (by omega), if_pos h1]
   simp [List.getElem?_set, show ¬ o + k = i by omega]
  ·by_cases h2 : i = o + k
   ·subst h2
    rw [if_pos (by omega), if_neg (by omega), if_pos (by omega)]
    simp at hb ⊢
    rw [List.getElem?_set_self (by simp; omega)]
   ·rw [if_neg (by omega), if_neg h1]
    by_cases h3 : i < o + k + (xs.length + 1)
    ·rw [if_pos (by omega), if_pos h3]
     rw [show i - (o + k) = (i - (o + (k + 1))) + 1 by omega, List.getElem?_cons_succ]
    ·rw [if_neg (by omega), if_neg h3]
     simp [List.getElem?_set, show ¬ o + k = i by omega]
theorem splice_all2 {R : Value → Value → Prop} {l xs l' xs' : List Value} {o : Nat} (a : All2 R l l') (b : All2 R xs xs') : All2 R (splice l o xs) (splice l' o xs') := by
 unfold splice
 rw [← b.length]
 exact ((a.take o).append b).append (a.drop _)
theorem fillL_sound {place : Nat → Option (Nat × Nat)} : ∀ {parts : List (Nat × Value)} {parts' : List (Nat × Value)} {cells cs : List Value} {cells' : Array Value},
  fillL place cells parts = some cs → All2 (fun a b => a.1 = b.1 ∧ VR π a.2 b.2) parts parts' → All2 (VR1 π) cells cells'.toList →
  ∃ cs', Instr.fill place cells' parts' = some cs' ∧ All2 (VR1 π) cs cs'.toList
 | [], [], cells, cs, cells', h, _, hc => by
  injection h with h; subst h
  exact ⟨cells', rfl, hc⟩
 | (i, v) :: rest, (i', v') :: rest', cells, cs, cells', h, ⟨⟨h1, h2⟩, h3⟩, hc => by
  have e : i = i' := h1
  subst e
  unfold fillL at h
  unfold Instr.fill
  split at h
  ·cases h
  ·rename_i off size hp
   simp only [hp]
   split at h
   ·rename_i hcond0
    have hcond := hcond0.2
    have hva : VRa π v v' := h2.a hcond0.1
    have hcs := hva.cells
    have hl := hcs.length
    have hlc := hc.length
    have e1 : ¬ ((v'.cells.size ≠ size || decide (off + v'.cells.size > cells'.size)) = true) := by
     simp at hl hlc hcond ⊢
     omega
    rw [if_neg e1]
    have hf := fold_set v'.cells.toList 0 cells' off (by simp at hl hlc hcond ⊢; omega)
    refine fillL_sound h h3 ?_
    have : (v'.cells.zipIdx.foldl (fun cs (x : Value × Nat) => cs.setIfInBounds (off + x.2) x.1) cells').toList = splice cells'.toList off v'.cells.toList := by
     rw [← Array.foldl_toList, Array.toList_zipIdx]
     simpa using hf
    rw [this]
    exact splice_all2 hc hcs
   ·cases h
 | [], _ :: _, _, _, _, _, x, _ => x.elim
 | _ :: _, [], _, _, _, _, x, _ => x.elim
theorem vint (k : IntKind) (n : Int) : VR π (.int k n) (.int k n) := show VR1 π (.int k n) (.int k n) from rfl
theorem vbool (b : Bool) : VR π (.bool b) (.bool b) := show VR1 π (.bool b) (.bool b) from rfl
theorem vstr (s : ByteArray) : VR π (.string s) (.string s) := show VR1 π (.string s) (.string s) from rfl
theorem vptr {n : Nat} {p : Pl} (h : π n = some p) (o : Nat) : VR π (.pointer (some ⟨n, o, none⟩)) (.pointer (some ⟨p.blk, p.off + o, none⟩)) :=
 show VR1 π (.pointer (some ⟨n, o, none⟩)) (.pointer (some ⟨p.blk, p.off + o, none⟩)) from ⟨p, h, rfl⟩
theorem vagg {cs cs' : Array Value} (h : All2 (VR1 π) cs.toList cs'.toList) : VR π (.agg cs) (.agg cs') := show VRa π (.agg cs) (.agg cs') from ⟨cs', rfl, h⟩
theorem run_mapM_list {α β : Type} (f : α → Sem β) (g : α → β) : ∀ (l : List α), (∀ x ∈ l, ∀ w, (f x).run P w = .ok (g x) w) → ∀ w, (l.mapM f).run P w = .ok (l.map g) w
 | [], _, w => rfl
 | x :: l, h, w => by
  rw [List.mapM_cons]
  simp only [Sem.run_bind, h x (List.mem_cons_self), Result.andThen_ok, run_mapM_list f g l (fun y hy => h y (List.mem_cons_of_mem _ hy)), Sem.run_pure, List.map_cons]
theorem run_mapM_array {α β : Type} (f : α → Sem β) (g : α → β) (l : Array α) (h : ∀ x ∈ l, ∀ w, (f x).run P w = .ok (g x) w) (w : World) : (l.mapM f).run P w = .ok (l.map g) w := by
 rw [Array.mapM_eq_mapM_toList]
 simp only [Sem.run_map, run_mapM_list f g l.toList (fun x hx => h x (by simpa using hx)), Result.andThen_ok]
 congr 1
 apply Array.ext'
 simp
theorem Know.zero (K : Know P Γ E) {t : TypeId} {i : TI} (h : Γ t = some i) : ∃ z, z.cells = i.zero.toArray ∧ All2 (VR1 π) i.zero i.zero ∧ ∀ w, (zeroValue t).run P w = .ok z w := by
 obtain ⟨inf, h1, _, _, ⟨z, h2, h3⟩, h4, _⟩ := K.ty t i h
 refine ⟨z, h3, All2.refl fun v hv => plainV_self (h4 v hv), fun w => ?_⟩
 simp [zeroValue, typeInfo, h1, h2]
theorem struct_field {f : Array Field} {fs : List (Nat × TypeId)} (h : f.toList.map (fun x => (x.offset, x.type)) = fs) {i d t : Nat} (hi : fs[i]? = some (d, t)) :
  ∃ g, f[i]? = some g ∧ g.offset = d ∧ g.type = t := by
 subst h
 rw [List.getElem?_map] at hi
 cases hg : f.toList[i]? with
 | none => rw [hg] at hi; cases hi
 | some g =>
  rw [hg] at hi
  injection hi with hi
  injection hi with h1 h2
  exact ⟨g, by simpa using hg, h1, h2⟩
theorem pureV_sound (K : Know P Γ E) {ρ ρ' : Operand → Value} {o : Oper} {v : Value} (h : pureV Γ E ρ o.op = some v) (hρ : ∀ x ∈ o.op.operands, VR π (ρ x) (ρ' x)) :
  ∃ v', VR π v v' ∧ ∀ w, (execOp ρ' o).run P w = .ok (.value v') w := by
 obtain ⟨dst, op, type, pos, after, guard⟩ := o
 simp only at h hρ
 unfold pureV at h
 split at h
 ·injection h with h; subst h
  exact ⟨_, hρ _ (by simp [Op.operands]), fun w => rfl⟩
 ·injection h with h; subst h
  exact ⟨_, hρ _ (by simp [Op.operands]), fun w => rfl⟩
 ·rename_i c a b
  split at h
  ·rename_i t hc
   injection h with h; subst h
   have h1 : VR π (ρ c) (ρ' c) := hρ _ (by simp [Op.operands])
   rw [hc] at h1
   have h2 : ρ' c = .bool t := h1
   refine ⟨if t then ρ' a else ρ' b, ?_, fun w => ?_⟩
   ·cases t
    ·exact hρ _ (by simp [Op.operands])
    ·exact hρ _ (by simp [Op.operands])
   ·simp [execOp, h2, asBool]
  ·cases h
 ·rename_i x
  have h1 : VR π (ρ x) (ρ' x) := hρ _ (by simp [Op.operands])
  split at h
  ·rename_i a hc
   injection h with h; subst h
   rw [hc] at h1
   have h2 : ∃ b, ρ' x = .pointer (some b) := by
    have h3 : VR1 π (.pointer (some a)) (ρ' x) := h1
    unfold VR1 at h3
    split at h3 <;> first
     | (rename_i hh; cases hh; obtain ⟨p, _, h4⟩ := h3; exact ⟨_, h4⟩)
     | (rename_i hh; cases hh; done)
     | exact h3.elim
   obtain ⟨b, hb⟩ := h2
   refine ⟨.pointer (some b), by rw [← hb]; exact h1, fun w => ?_⟩
   simp [execOp, hb]
  ·rename_i f a b hc
   injection h with h; subst h
   rw [hc] at h1
   obtain ⟨a', b', hb, h3, h4⟩ : VRf π (.func (.func f) a b) (ρ' x) := h1
   refine ⟨.func (.func f) a' b', ⟨a', b', rfl, h3, h4⟩, fun w => ?_⟩
   simp [execOp, hb]
  ·cases h
 ·rename_i op t x y t2
  obtain ⟨h1, h2⟩ := binV_sound K h (hρ x (by simp [Op.operands])) (hρ y (by simp [Op.operands])) x y
  refine ⟨v, h1.a.f.v, fun w => ?_⟩
  have := h2 w
  simp only [execOp, Sem.run_bind] at this ⊢
  rw [this]; rfl
 ·rename_i op t x
  have h1 : VR π (ρ x) (ρ' x) := hρ _ (by simp [Op.operands])
  unfold unV at h
  split at h
  ·rename_i k n hc
   injection h with h; subst h
   rw [hc] at h1
   have h2 : ρ' x = .int k n := h1
   exact ⟨_, vint _ _, fun w => by simp [execOp, h2, Op.unary, Op.intArith]⟩
  ·rename_i b hc
   injection h with h; subst h
   rw [hc] at h1
   have h2 : ρ' x = .bool b := h1
   exact ⟨_, vbool _, fun w => by simp [execOp, h2, Op.unary]⟩
  ·cases h
 ·rename_i s d x
  have h1 : VR π (ρ x) (ρ' x) := hρ _ (by simp [Op.operands])
  split at h
  ·rename_i k2 _ _ _ k _ _ _ k3 n hs hd hc
   injection h with h; subst h
   obtain ⟨d1, hd1, hs1⟩ := K.under hs
   obtain ⟨d2, hd2, hs2⟩ := K.under hd
   simp only [ShOk] at hs1 hs2; subst hs1; subst hs2
   rw [hc] at h1
   have h2 : ρ' x = .int k3 n := h1
   exact ⟨_, vint _ _, fun w => by simp [execOp, h2, convert, run_underlying hd1, run_underlying hd2, Conv.intToInt]⟩
  ·rename_i b hs hd hc
   injection h with h; subst h
   obtain ⟨d1, hd1, hs1⟩ := K.under hs
   obtain ⟨d2, hd2, hs2⟩ := K.under hd
   simp only [ShOk] at hs1 hs2; subst hs1; subst hs2
   rw [hc] at h1
   have h2 : ρ' x = .string b := h1
   exact ⟨_, vstr _, fun w => by simp [execOp, h2, convert, run_underlying hd1, run_underlying hd2]⟩
  ·cases h
 ·rename_i s x f
  have h1 : VR π (ρ x) (ρ' x) := hρ _ (by simp [Op.operands])
  split at h
  ·rename_i fs _ _ _ n off hs hc
   obtain ⟨d1, hd1, f1, rfl, hf⟩ := K.under hs
   rw [hc] at h1
   obtain ⟨p, hp, h2⟩ : VR1 π (.pointer (some ⟨n, off, none⟩)) (ρ' x) := h1
   split at h
   ·rename_i d t hfd
    split at h
    ·rename_i i hi
     split at h
     ·cases h
     ·rename_i hz
      injection h with h; subst h
      obtain ⟨g, hg1, hg2, hg3⟩ := struct_field hf hfd
      refine ⟨.pointer (some ⟨p.blk, p.off + (off + d), none⟩), vptr hp _, fun w => ?_⟩
      subst hg3
      simp [execOp, h2, Instr.fieldAt, run_underlying hd1, hg1, Instr.sureAddr, fieldPlace, K.size hi, hz, Addr.add_lit, hg2, Nat.add_assoc]
    ·cases h
   ·cases h
  ·cases h
 ·rename_i s x f
  have h1 : VR π (ρ x) (ρ' x) := hρ _ (by simp [Op.operands])
  split at h
  ·rename_i fs _ _ _ cs hs hc
   obtain ⟨d1, hd1, f1, rfl, hf⟩ := K.under hs
   rw [hc] at h1
   obtain ⟨cs', h2, hcs⟩ : VRa π (.agg cs) (ρ' x) := h1
   split at h
   ·rename_i d t hfd
    obtain ⟨g, hg1, hg2, hg3⟩ := struct_field hf hfd
    subst hg3
    split at h
    ·rename_i i hi
     split at h
     ·rename_i hagg
      split at h
      ·rename_i hsz
       injection h with h; subst h
       refine ⟨.agg (cs'.extract d (d + i.size)), vagg ?_, fun w => ?_⟩
       ·have := (hcs.drop d).take i.size
        simpa [Array.toList_extract, List.extract_eq_take_drop] using this
       ·simp [execOp, h2, Instr.field, run_underlying hd1, hg1, asAgg, part, K.agg hi, K.size hi, hagg, hg2]
      ·cases h
     ·rename_i hagg
      have hv := hcs.get d v (by simpa using h)
      obtain ⟨v', hv1, hv2⟩ := hv
      refine ⟨v', hv2.a.f.v, fun w => ?_⟩
      have hv3 : cs'[d]? = some v' := by simpa using hv1
      simp [execOp, h2, Instr.field, run_underlying hd1, hg1, asAgg, part, K.agg hi, hagg, hg2, hv3]
    ·cases h
   ·cases h
  ·cases h
 ·rename_i t x i
  have h1 : VR π (ρ x) (ρ' x) := hρ _ (by simp [Op.operands])
  have h2 : VR π (ρ i) (ρ' i) := hρ _ (by simp [Op.operands])
  split at h
  ·rename_i e _ _ _ n off len c k j hs hc hi
   obtain ⟨d1, hd1, hsh⟩ := K.under hs
   simp only [ShOk] at hsh; subst hsh
   rw [hc] at h1
   rw [hi] at h2
   obtain ⟨p, a, c', hp, hx, hk, ha, hU, hE⟩ : VR1 π (.slice (some ⟨n, off, none⟩) len c) (ρ' x) := h1
   have hix : ρ' i = .int k j := h2
   split at h
   ·rename_i ie hie
    split at h
    ·rename_i hb
     injection h with h; subst h
     have ha' := ha (by omega)
     subst ha'
     refine ⟨.pointer (some ⟨p.blk, p.off + (off + j.toNat * ie.size), none⟩), vptr hp _, fun w => ?_⟩
     simp [execOp, hx, hix, Instr.indexAt, asIntOf, run_underlying hd1, hb, K.size hie, Addr.add_lit, Nat.add_assoc]
    ·cases h
   ·cases h
  ·cases h
 ·rename_i t x i
  have h1 : VR π (ρ x) (ρ' x) := hρ _ (by simp [Op.operands])
  have h2 : VR π (ρ i) (ρ' i) := hρ _ (by simp [Op.operands])
  split at h
  ·rename_i s k j hs hc hi
   obtain ⟨d1, hd1, hsh⟩ := K.under hs
   simp only [ShOk] at hsh; subst hsh
   rw [hc] at h1
   rw [hi] at h2
   have hx : ρ' x = .string s := h1
   have hix : ρ' i = .int k j := h2
   split at h
   ·rename_i hb
    cases hg : s[j.toNat]? with
    | none => rw [hg] at h; cases h
    | some b =>
     rw [hg] at h
     injection h with h; subst h
     refine ⟨_, vint _ _, fun w => ?_⟩
     simp [execOp, hx, hix, Instr.index, asIntOf, run_underlying hd1, hb, hg]
   ·cases h
  ·cases h
 ·rename_i x j
  have h1 : VR π (ρ x) (ρ' x) := hρ _ (by simp [Op.operands])
  split at h
  ·rename_i vs hc
   rw [hc] at h1
   obtain ⟨vs', hx, hvs⟩ := h1
   obtain ⟨v', hv1, hv2⟩ := hvs.get j v (by simpa using h)
   have hv3 : vs'[j]? = some v' := by simpa using hv1
   exact ⟨v', hv2.v, fun w => by simp [execOp, hx, Instr.extract, hv3]⟩
  ·cases h
 ·rename_i f first captured
  split at h
  ·rename_i hv
   injection h with h; subst h
   simp only [Bool.and_eq_true, List.all_eq_true] at hv
   have go : ∀ l : Array Operand, (∀ x ∈ l, VR π (ρ x) (ρ' x)) → (∀ x ∈ l.toList, isVar (ρ x) = true) → All2 (VRa π) (l.map ρ).toList (l.map ρ').toList := by
    intro l h1 h2
    rw [Array.toList_map, Array.toList_map]
    apply All2.of (by simp)
    intro i a b ha hb
    rw [List.getElem?_map] at ha hb
    cases hl : l.toList[i]? with
    | none => rw [hl] at ha; cases ha
    | some x =>
     rw [hl] at ha hb
     injection ha with ha; injection hb with hb
     subst ha; subst hb
     have hm : x ∈ l.toList := List.mem_of_getElem? hl
     exact (h1 x (by simpa using hm)).a (h2 x hm)
   refine ⟨.func (.func f) (first.map ρ') (captured.map ρ'), show VRf π (.func (.func f) (first.map ρ) (captured.map ρ)) _ from ⟨_, _, rfl, go _ ?_ hv.1, go _ ?_ hv.2⟩, fun w => rfl⟩
   ·exact fun x hx => hρ x (by simp [Op.operands, hx])
   ·exact fun x hx => hρ x (by simp [Op.operands, hx])
  ·cases h
 ·rename_i t parts
  split at h
  ·rename_i fs _ _ zero hs
   obtain ⟨d1, hd1, f1, rfl, hf⟩ := K.under hs
   split at h
   ·cases h
   ·rename_i hall
    have hall' : ∀ p ∈ fs, (Γ p.2).isSome = true := by
     intro p hp
     have : fs.all (fun p => (Γ p.2).isSome) = true := by cases hq : fs.all (fun p => (Γ p.2).isSome) <;> simp_all
     exact List.all_eq_true.1 this p hp
    obtain ⟨z, hz1, hz2, hz3⟩ := K.zero (π := π) hs
    have hsz : ∀ g ∈ f1, ∀ w, ((do pure (g.offset, ← sizeOf g.type)) : Sem (Nat × Nat)).run P w = .ok (g.offset, ((Γ g.type).map (·.size)).getD 0) w := by
     intro g hg w
     have : (g.offset, g.type) ∈ fs := by
      rw [← hf]; exact List.mem_map.2 ⟨g, by simpa using hg, rfl⟩
     have h5 := hall' _ this
     cases h6 : Γ g.type with
     | none => rw [h6] at h5; cases h5
     | some i => simp [K.size h6]
    have hmap := run_mapM_array (P := P) _ _ f1 hsz
    cases hfill : fillL (fun i => (fs[i]?).bind fun p => (Γ p.2).map fun ti => (p.1, ti.size)) zero (parts.toList.map fun p => (p.1, ρ p.2)) with
    | none => rw [hfill] at h; cases h
    | some cs =>
     rw [hfill] at h
     injection h with h; subst h
     have hparts : All2 (fun a b : Nat × Value => a.1 = b.1 ∧ VR π a.2 b.2) (parts.toList.map fun p => (p.1, ρ p.2)) ((parts.map fun (x : Nat × Operand) => (x.1, ρ' x.2)).toList) := by
      rw [Array.toList_map]
      apply All2.of (by simp)
      intro i a b ha hb
      rw [List.getElem?_map] at ha hb
      cases hl : parts.toList[i]? with
      | none => rw [hl] at ha; cases ha
      | some x =>
       rw [hl] at ha hb
       injection ha with ha; injection hb with hb
       subst ha; subst hb
       have hm : x ∈ parts.toList := List.mem_of_getElem? hl
       exact ⟨rfl, hρ _ (by simp [Op.operands]; exact ⟨x.1, by simpa using hm⟩)⟩
     have hzz : All2 (VR1 π) zero z.cells.toList := by rw [hz1]; simpa using hz2
     obtain ⟨cs', hcs1, hcs2⟩ := fillL_sound hfill hparts hzz
     refine ⟨.agg cs', vagg (by simpa using hcs2), fun w => ?_⟩
     have hplace : (fun i : Nat => (f1.map (fun g => (g.offset, ((Γ g.type).map (·.size)).getD 0)))[i]?) = (fun i : Nat => (fs[i]?).bind fun p : Nat × TypeId => (Γ p.2).map fun ti => (p.1, ti.size)) := by
      funext i
      subst hf
      rw [Array.getElem?_map, List.getElem?_map, ← Array.getElem?_toList]
      cases hg : f1.toList[i]? with
      | none => rfl
      | some g =>
       have h5 := hall' (g.offset, g.type) (List.mem_map.2 ⟨g, List.mem_of_getElem? hg, rfl⟩)
       cases h6 : Γ g.type with
       | none => rw [h6] at h5; cases h5
       | some i => simp [h6]
     simp only [execOp, Instr.build, Sem.run_bind, hz3, Result.andThen_ok, run_underlying hd1, hmap]
     rw [hplace, hcs1]
     rfl
  ·cases h
 ·rename_i t x lo hi mx
  obtain ⟨v', hv1, hv2⟩ := sliceV_sound K h (hρ x (by simp [Op.operands]))
   (lo' := lo.map ρ') (hi' := hi.map ρ') (mx' := mx.map ρ')
   (by cases lo with | none => trivial | some y => exact hρ y (by simp [Op.operands]))
   (by cases hi with | none => trivial | some y => exact hρ y (by simp [Op.operands]))
   (by cases mx with | none => trivial | some y => exact hρ y (by simp [Op.operands]))
   (fun n m hh => by cases hh)
  exact ⟨v', hv1.a.f.v, fun w => by simp [execOp, hv2 w]⟩
 ·rename_i args argTypes
  split at h
  ·rename_i t x ht hx0
   have h1 : VR π (ρ x) (ρ' x) := hρ _ (by simp [Op.operands, Call.operands]; exact Array.mem_of_getElem? hx0)
   have hax : (args.map ρ')[0]? = some (ρ' x) := by simp [hx0]
   split at h
   ·rename_i s hs hc
    injection h with h; subst h
    obtain ⟨d1, hd1, hsh⟩ := K.under hs
    simp only [ShOk] at hsh; subst hsh
    rw [hc] at h1
    have hx : ρ' x = .string s := h1
    refine ⟨_, vint _ _, fun w => ?_⟩
    rw [hx] at hax
    simp only [execOp, resolve, invoke, builtin, Builtin.len_, Sem.run_bind, Sem.run_pure, Result.andThen_ok]
    simp only [ht, hax, Sem.run_bind, run_underlying hd1, Result.andThen_ok, Sem.run_pure, goInt]
   ·rename_i e _ _ _ a n c hs hc
    injection h with h; subst h
    obtain ⟨d1, hd1, hsh⟩ := K.under hs
    simp only [ShOk] at hsh; subst hsh
    rw [hc] at h1
    have hx : ∃ a' c', ρ' x = .slice a' n c' := by
     have h3 : VR1 π (.slice a n c) (ρ' x) := h1
     unfold VR1 at h3
     split at h3 <;> first
      | (rename_i hh; cases hh; exact ⟨_, _, h3⟩)
      | (rename_i hh; cases hh; obtain ⟨p, a1, c1, _, h4, _⟩ := h3; exact ⟨_, _, h4⟩)
      | (rename_i hh; cases hh; done)
      | exact h3.elim
    obtain ⟨a', c', hx⟩ := hx
    refine ⟨_, vint _ _, fun w => ?_⟩
    rw [hx] at hax
    simp only [execOp, resolve, invoke, builtin, Builtin.len_, Sem.run_bind, Sem.run_pure, Result.andThen_ok]
    simp only [ht, hax, Sem.run_bind, run_underlying hd1, Result.andThen_ok, Sem.run_pure, goInt]
   ·cases h
  ·cases h
 ·rename_i args argTypes
  split at h
  ·rename_i x y hxy
   have h1 : VR π (ρ x) (ρ' x) := hρ _ (by simp [Op.operands, Call.operands, ← Array.mem_toList_iff, hxy])
   have h2 : VR π (ρ y) (ρ' y) := hρ _ (by simp [Op.operands, Call.operands, ← Array.mem_toList_iff, hxy])
   split at h
   ·rename_i k a k' b hx hy
    injection h with h; subst h
    rw [hx] at h1
    rw [hy] at h2
    have e1 : ρ' x = .int k a := h1
    have e2 : ρ' y = .int k' b := h2
    refine ⟨_, vint _ _, fun w => ?_⟩
    simp [execOp, resolve, invoke, builtin, Builtin.min_, hxy, e1, e2, Builtin.min2]
   ·cases h
  ·cases h
 ·rename_i args argTypes
  split at h
  ·rename_i x y hxy
   have h1 : VR π (ρ x) (ρ' x) := hρ _ (by simp [Op.operands, Call.operands, ← Array.mem_toList_iff, hxy])
   have h2 : VR π (ρ y) (ρ' y) := hρ _ (by simp [Op.operands, Call.operands, ← Array.mem_toList_iff, hxy])
   split at h
   ·rename_i k a k' b hx hy
    injection h with h; subst h
    rw [hx] at h1
    rw [hy] at h2
    have e1 : ρ' x = .int k a := h1
    have e2 : ρ' y = .int k' b := h2
    refine ⟨_, vint _ _, fun w => ?_⟩
    simp [execOp, resolve, invoke, builtin, Builtin.max_, hxy, e1, e2, Builtin.max2]
   ·cases h
  ·cases h
 ·cases h
end
end Go.Proofs.YtonpnjfclelpiaaGreatM
