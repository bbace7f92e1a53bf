import Derived.Test.YtonpnjfclelpiaaGreatVDMiZ
namespace Go.Proofs.YtonpnjfclelpiaaGreatM
open Go
set_option linter.unusedVariables false
set_option linter.unusedSimpArgs false
def Nr (h h' : Hp) : Prop := h.next ≤ h'.next ∧ ∀ m, m < h.next → h.blk m = none → h'.blk m = none
def okAt (b : Nat) : Value → Prop
 | .pointer (some ⟨n, _, _⟩) => n < b
 | .slice (some ⟨n, _, _⟩) _ _ => n < b
 | _ => True
def PS : FuncId := 4294967295
def ldQ (t : TypeId) (a : Operand) : Op := .call { callee := .value (.func PS), args := #[a, .const (.int .i64 (t : Int))], argTypes := #[] }
def cvQ (q d : TypeId) (a : Operand) : Op := .call { callee := .value (.func PS), args := #[a, .const (.int .i64 (q : Int)), .const (.int .i64 (d : Int))], argTypes := #[] }
def TC (Γ : TypeId → Option TI) (C : Rel) (x : Bool) (bound : Nat) : Rel := fun g args h v h' =>
 (x = true ∧ g = PS ∧ h' = h ∧ ((∃ a, ∃ t : TypeId, args = [a, .int .i64 (t : Int)] ∧ okAt bound a ∧ ldv Γ t a h = some v) ∨ ∃ a, ∃ q d : TypeId, args = [a, .int .i64 (q : Int), .int .i64 (d : Int)] ∧ okAt bound a ∧ textV Γ q d a h = some v)) ∨
 ((x = false ∨ g ≠ PS) ∧ C g args h v h' ∧ Nr h h' ∧ (x = true → Ext h h'))
def callsOk (x : Bool) : Op → Bool
 | .call { callee := .value f, .. } => !x || match f with | .func g => g != PS | _ => false
 | _ => true
def cvK (Γ : TypeId → Option TI) (s d : TypeId) : Bool := match Γ s, Γ d with
 | some ⟨.str, _, _, _⟩, some ⟨.slice _, _, _, _⟩ => true
 | _, _ => false
def cvT (Γ : TypeId → Option TI) (s d : TypeId) : Bool := match Γ s, Γ d with
 | some ⟨.slice _, _, _, _⟩, some ⟨.str, _, _, _⟩ => true
 | _, _ => false
def kindFits (Γ : TypeId → Option TI) (k : Nat) (o : Op) : Bool :=
 match o with
 | .load _ _ => k == 1 || k == 2
 | .convert s d _ => if cvK Γ s d then k == 3 else if cvT Γ s d then k == 1 || k == 2 else k == 0
 | .alloc _ | .box _ _ | .buildSlice _ _ _ | .makeSlice _ _ _ => k == 3
 | .store _ _ _ => k == 5
 | .call c => match c.callee with
  | .value _ => k == 5 || k == 6
  | .builtin .append | .builtin .clear => k == 5
  | .builtin .len | .builtin .min | .builtin .max => k == 0
  | _ => false
 | o => k == 0 && isP o
def isE (k : Nat) : Bool := k == 5 || k == 6
def pairOk (am : List Nat) (i k j kj : Nat) : Bool :=
 !isE kj || match k with
 | 1 => ancB am i j || ancB am j i
 | 2 => kj == 6 || ancB am i j || ancB am j i
 | 3 => !decide (i < j) || ancB am i j
 | 5 | 6 => !decide (j < i) || ancB am j i
 | _ => true
def txtOk (Γ : TypeId → Option TI) (ops : Array Oper) (am kd : List Nat) (x : Bool) : Bool := (List.range ops.size).all fun i => match ops[i]? with
 | none => true
 | some o => kindFits Γ (kd.getD i 0) o.op && callsOk x o.op && (kd.getD i 0 != 2 || x) && (List.range ops.size).all fun j => pairOk am i (kd.getD i 0) j (kd.getD j 0)
def opT (k : Nat) (o : Op) : Op := match k, o with
 | 2, .load t a => ldQ t a
 | 2, .convert q d a => cvQ q d a
 | _, o => o
def prepT : List Nat → List POp → List POp
 | _, [] => []
 | kd, o :: r => { o with op := opT (kd.headD 0) o.op } :: prepT kd.tail r
section
variable {Γ : TypeId → Option TI} {E : TypeId → Nat} {C : Rel} {am kd : List Nat} {ops : Array Oper} {s : S} {val val' : Nat → Value} {A A' : Nat → Option Blk} {on on' : Nat → Bool} {M M' : Nat → Hp} {x : Bool}
def stepT (Γ : TypeId → Option TI) (E : TypeId → Nat) (C : Rel) (x : Bool) (base N : Nat) (k i : Nat) (s : S) (op : Op) (v : Value) (b : Option Blk) (h' : Hp) : Prop :=
 match calleeV s op with
 | some (g, args) => C g args s.h v h' ∧ Nr s.h h' ∧ (x = true → Ext s.h h') ∧ b = none
 | none => match pureV Γ E s.ev op with
  | some w => v = w ∧ b = none ∧ h' = s.h
  | none => match op with
   | .load t a => ldv Γ t (s.ev a) s.h = some v ∧ b = none ∧ h' = s.h ∧ (k = 2 → okAt (base + N) (s.ev a))
   | op => match makeV Γ (base + i) s.ev op with
    | some (w, c) => v = w ∧ b = some c ∧ h' = s.h.put (base + i) (some c)
    | none => match op with
     | .convert q d a => textV Γ q d (s.ev a) s.h = some v ∧ b = none ∧ h' = s.h ∧ (k = 2 → okAt (base + N) (s.ev a))
     | op => effV Γ (base + i) s.ev op s.h = some (v, h') ∧ b = none
def sT (ops : Array Oper) (s : S) (val : Nat → Value) (M : Nat → Hp) (i : Nat) : S := ⟨fr ops s.t val i, M i⟩
def CT (Γ : TypeId → Option TI) (E : TypeId → Nat) (C : Rel) (x : Bool) (kd : List Nat) (ops : Array Oper) (s : S) (val : Nat → Value) (A : Nat → Option Blk) (on : Nat → Bool) (M : Nat → Hp) (j : Nat) : Prop :=
 ∀ o, ops[j]? = some o → wantB ops (sT ops s val M j) o = some (on j) ∧ (on j = false → val j = undef ∧ A j = none ∧ M (j + 1) = M j) ∧
  (on j = true → stepT Γ E C x s.h.next ops.size (kd.getD j 0) j (sT ops s val M j) o.op (val j) (A j) (M (j + 1)))
theorem CT_congr {j : Nat} (hv : ∀ k, k ≤ j → val k = val' k) (hA : ∀ k, k ≤ j → A k = A' k) (ho : on j = on' j) (hM : ∀ k, k ≤ j + 1 → M k = M' k) (h : CT Γ E C x kd ops s val A on M j) : CT Γ E C x kd ops s val' A' on' M' j := by
 intro o hoj
 have h1 := h o hoj
 have e : sT ops s val M j = sT ops s val' M' j := by
  unfold sT; rw [fr_congr j fun k hk => hv k (by omega), hM j (by omega)]
 rw [e, hv j (Nat.le_refl _), hA j (Nat.le_refl _), ho, hM j (by omega), hM (j + 1) (Nat.le_refl _)] at h1
 exact h1
theorem s_ext {a b : S} (h1 : a.t = b.t) (h2 : a.h = b.h) : a = b := by
 cases a; cases b; simp only at h1 h2; subst h1; subst h2; rfl
theorem sT_next {i : Nat} {o : Oper} (ho : ops[i]? = some o) : sT ops s val M (i + 1) = ((sT ops s val M i).hp (M (i + 1))).put o.dst (val i) := by
 have hd : dstOf ops i = o.dst := by unfold dstOf; rw [ho]; rfl
 refine s_ext ?_ ?_
 ·show fr ops s.t val (i + 1) = _
  rw [fr, hd]
  cases o.dst <;> rfl
 ·cases o.dst <;> rfl
theorem opT_cases (k : Nat) (op : Op) : opT k op = op ∨ (∃ t a, k = 2 ∧ op = .load t a ∧ opT k op = ldQ t a) ∨ ∃ q d a, k = 2 ∧ op = .convert q d a ∧ opT k op = cvQ q d a := by
 unfold opT
 split
 ·exact .inr (.inl ⟨_, _, rfl, rfl, rfl⟩)
 ·exact .inr (.inr ⟨_, _, _, rfl, rfl, rfl⟩)
 ·exact .inl rfl
theorem step_text {i k base N : Nat} {s : S} {op : Op} {v : Value} {h' : Hp} (hk : kindFits Γ k op = true) (hx : callsOk x op = true) (h2 : (k != 2 || x) = true)
  (h : (∃ g args, calleeV s (opT k op) = some (g, args) ∧ TC Γ C x (base + N) g args s.h v h') ∨ (calleeV s (opT k op) = none ∧ opV Γ E (base + i) s.ev (opT k op) s.h = some (v, h'))) :
  ∃ b, stepT Γ E C x base N k i s op v b h' := by
 rcases opT_cases k op with e | ⟨t, a, rfl, rfl, e⟩ | ⟨q, d, a, rfl, rfl, e⟩
 ·rw [e] at h
  have nk2 : (∃ t a, op = .load t a) ∨ (∃ q d a, op = .convert q d a) → k ≠ 2 := by
   rintro (⟨t, a, rfl⟩ | ⟨q, d, a, rfl⟩) rfl <;> cases e
  unfold stepT
  rcases h with ⟨g, args, h1, h3⟩ | ⟨h1, h3⟩
  ·simp only [h1]
   rcases h3 with ⟨h4, h5, h6, _⟩ | ⟨_, h4, h5, h6⟩
   ·exfalso
    subst h4
    subst h5
    unfold calleeV at h1
    split at h1
    ·rename_i f args' ts
     simp only [callsOk, Bool.not_true, Bool.false_or] at hx
     cases f with
     | func g2 =>
      simp only [S.ev] at h1
      injection h1 with h1; injection h1 with h1 _
      subst h1
      simp at hx
     | _ => cases hx
    ·cases h1
   ·exact ⟨none, h4, h5, h6, rfl⟩
  ·simp only [h1]
   unfold opV at h3
   cases hp : pureV Γ E s.ev op with
   | some w =>
    rw [hp] at h3
    injection h3 with h3; injection h3 with h3 h4
    exact ⟨none, h3.symm, rfl, h4.symm⟩
   | none =>
    rw [hp] at h3
    simp only at h3 ⊢
    have gen : ∀ (h3 : (match makeV Γ (base + i) s.ev op with
      | some (v, b) => some (v, s.h.put (base + i) (some b))
      | none => match effV Γ (base + i) s.ev op s.h with
       | some r => some r
       | none => none) = some (v, h')), ∃ b, (match makeV Γ (base + i) s.ev op with
      | some (w, c) => v = w ∧ b = some c ∧ h' = s.h.put (base + i) (some c)
      | none => effV Γ (base + i) s.ev op s.h = some (v, h') ∧ b = none) := by
     intro h3
     cases hm : makeV Γ (base + i) s.ev op with
     | some r =>
      obtain ⟨w, c⟩ := r
      rw [hm] at h3
      injection h3 with h3; injection h3 with h3 h4
      exact ⟨some c, h3.symm, rfl, h4.symm⟩
     | none =>
      rw [hm] at h3
      simp only at h3
      cases he : effV Γ (base + i) s.ev op s.h with
      | none => rw [he] at h3; cases h3
      | some r =>
       rw [he] at h3
       injection h3 with h3; subst h3
       exact ⟨none, rfl, rfl⟩
    cases op with
    | load t a =>
     simp only at h3 ⊢
     obtain ⟨w, h4, h5⟩ := Option.map_eq_some_iff.1 h3
     injection h5 with h5 h6
     subst h5
     exact ⟨none, h4, rfl, h6.symm, fun hk2 => absurd hk2 (nk2 (.inl ⟨_, _, rfl⟩))⟩
    | alloc e => exact gen h3
    | box t y => exact gen h3
    | buildSlice t n ps => exact gen h3
    | makeSlice t y z => exact gen h3
    | store t a y => exact gen h3
    | convert s' d' y =>
     simp only at h3 ⊢
     cases hm : makeV Γ (base + i) s.ev (.convert s' d' y) with
     | some r =>
      obtain ⟨w, c⟩ := r
      rw [hm] at h3
      injection h3 with h3; injection h3 with h3 h4
      exact ⟨some c, h3.symm, rfl, h4.symm⟩
     | none =>
      rw [hm] at h3
      have he : effV Γ (base + i) s.ev (.convert s' d' y) s.h = none := rfl
      rw [he] at h3
      simp only at h3
      obtain ⟨w, h4, h5⟩ := Option.map_eq_some_iff.1 h3
      injection h5 with h5 h6
      subst h5
      exact ⟨none, h4, rfl, h6.symm, fun hk2 => absurd hk2 (nk2 (.inr ⟨_, _, _, rfl⟩))⟩
    | call c =>
     have key : (match makeV Γ (base + i) s.ev (.call c) with
      | some (v, b) => some (v, s.h.put (base + i) (some b))
      | none => match effV Γ (base + i) s.ev (.call c) s.h with
       | some r => some r
       | none => none) = some (v, h') := by
      obtain ⟨callee, args, ts⟩ := c
      exact h3
     exact gen key
    | slice t x lo hi mx => exfalso; simp only [makeV, effV] at h3; cases h3
    | _ => first | (exfalso; simp [kindFits, isP] at hk; done) | (exfalso; simp only [makeV, effV] at h3; cases h3)
 ·have hxt : x = true := by simpa using h2
  rw [e] at h
  have hc : calleeV s (ldQ t a) = some (PS, [s.ev a, .int .i64 (t : Int)]) := rfl
  rw [hc] at h
  rcases h with ⟨g, args, h1, h3⟩ | ⟨h1, _⟩
  ·injection h1 with h1; injection h1 with h1 h4
   subst h1; subst h4
   have hcn : calleeV s (.load t a) = none := rfl
   have hpn : pureV Γ E s.ev (.load t a) = none := rfl
   refine ⟨none, ?_⟩
   unfold stepT
   simp only [hcn, hpn]
   rcases h3 with ⟨_, _, rfl, ⟨a', t', h7, h8, h9⟩ | ⟨a', q', d', h7, _⟩⟩ | ⟨h4, _⟩
   ·injection h7 with h7 h10
    injection h10 with h10 _
    injection h10 with _ h10
    have : t = t' := by exact_mod_cast h10
    subst this
    rw [h7]
    exact ⟨h9, by trivial, by trivial, fun _ => h8⟩
   ·injection h7 with _ h10
    injection h10 with _ h10
    cases h10
   ·rcases h4 with h4 | h4
    ·rw [hxt] at h4; cases h4
    ·exact absurd rfl h4
  ·cases h1
 ·have hxt : x = true := by simpa using h2
  rw [e] at h
  have hc : calleeV s (cvQ q d a) = some (PS, [s.ev a, .int .i64 (q : Int), .int .i64 (d : Int)]) := rfl
  rw [hc] at h
  rcases h with ⟨g, args, h1, h3⟩ | ⟨h1, _⟩
  ·injection h1 with h1; injection h1 with h1 h4
   subst h1; subst h4
   rcases h3 with ⟨_, _, rfl, ⟨a', t', h7, _⟩ | ⟨a', q', d', h7, h8, h9⟩⟩ | ⟨h4, _⟩
   ·injection h7 with _ h10
    injection h10 with _ h10
    cases h10
   ·injection h7 with h7 h10
    injection h10 with h10 h11
    injection h11 with h11 _
    injection h10 with _ h10
    injection h11 with _ h11
    have e1 : q = q' := by exact_mod_cast h10
    have e2 : d = d' := by exact_mod_cast h11
    subst e1; subst e2; subst h7
    have hcn : calleeV s (.convert q d a) = none := rfl
    have hpn : pureV Γ E s.ev (.convert q d a) = none ∧ makeV Γ (base + i) s.ev (.convert q d a) = none := by
     unfold textV at h9
     simp only [pureV, makeV]
     split at h9
     ·rename_i hq hd hv; rw [hq, hd]; exact ⟨rfl, rfl⟩
     ·rename_i hq hd hv; rw [hq, hd]; exact ⟨rfl, rfl⟩
     ·cases h9
    refine ⟨none, ?_⟩
    unfold stepT
    simp only [hcn, hpn.1, hpn.2]
    exact ⟨h9, by trivial, by trivial, fun _ => h8⟩
   ·rcases h4 with h4 | h4
    ·rw [hxt] at h4; cases h4
    ·exact absurd rfl h4
  ·cases h1
theorem text_data {Q : S → Prop} : ∀ (l : List Oper) (i : Nat) (r : List POp) (val : Nat → Value) (A : Nat → Option Blk) (on : Nat → Bool) (M : Nat → Hp), (∀ j, l[j]? = ops[i + j]?) → prepO ops l = some r → i + l.length = ops.size →
  (∀ j o, ops[j]? = some o → kindFits Γ (kd.getD j 0) o.op = true ∧ callsOk x o.op = true ∧ (kd.getD j 0 != 2 || x) = true) →
  (∀ j, j < i → CT Γ E C x kd ops s val A on M j) → OpsP Γ E (TC Γ C x (s.h.next + ops.size)) s.h.next i (prepT (kd.drop i) r) (sT ops s val M i) Q →
  ∃ val A on M', M' 0 = M 0 ∧ (∀ j, j < ops.size → CT Γ E C x kd ops s val A on M' j) ∧ Q (sT ops s val M' ops.size)
 | [], i, r, val, A, on, M, hl, hp, hn, hk, hC, h => by
  simp [prepO] at hp; subst hp
  simp at hn; subst hn
  exact ⟨val, A, on, M, rfl, hC, h⟩
 | o :: l, i, r, val, A, on, M, hl, hp, hn, hk, hC, h => by
  unfold prepO at hp
  split at hp
  ·rename_i g rl hg hrl
   injection hp with hp; subst hp
   have ho : ops[i]? = some o := by have := hl 0; simpa using this.symm
   have hl' : ∀ j, l[j]? = ops[i + 1 + j]? := fun j => by have := hl (j + 1); simpa [Nat.add_assoc, Nat.add_comm 1 j] using this
   have hn' : i + 1 + l.length = ops.size := by simp at hn; omega
   obtain ⟨hk1, hk2, hk3⟩ := hk i o ho
   have go : ∀ (v : Value) (b : Option Blk) (h' : Hp) (w : Bool), wantB ops (sT ops s val M i) o = some w → (w = false → v = undef ∧ b = none ∧ h' = M i) →
     (w = true → stepT Γ E C x s.h.next ops.size (kd.getD i 0) i (sT ops s val M i) o.op v b h') →
     OpsP Γ E (TC Γ C x (s.h.next + ops.size)) s.h.next (i + 1) (prepT (kd.drop (i + 1)) rl) (((sT ops s val M i).hp h').put o.dst v) Q →
     ∃ val A on M', M' 0 = M 0 ∧ (∀ j, j < ops.size → CT Γ E C x kd ops s val A on M' j) ∧ Q (sT ops s val M' ops.size) := by
    intro v b h' w h1 h2 h3 h4
    let val' : Nat → Value := fun j => if j = i then v else val j
    let A' : Nat → Option Blk := fun j => if j = i then b else A j
    let on' : Nat → Bool := fun j => if j = i then w else on j
    let M2 : Nat → Hp := fun j => if j = i + 1 then h' else M j
    have hv : ∀ j, j < i → val j = val' j := fun j hj => by simp only [val']; rw [if_neg (by omega)]
    have hA : ∀ j, j < i → A j = A' j := fun j hj => by simp only [A']; rw [if_neg (by omega)]
    have hM : ∀ j, j ≤ i → M j = M2 j := fun j hj => by simp only [M2]; rw [if_neg (by omega)]
    have hs : sT ops s val M i = sT ops s val' M2 i := by unfold sT; rw [fr_congr i hv, hM i (Nat.le_refl _)]
    have vi : val' i = v := by simp [val']
    have Ai : A' i = b := by simp [A']
    have oi : on' i = w := by simp [on']
    have Mi : M2 (i + 1) = h' := by simp [M2]
    obtain ⟨val2, A2, on2, M3, q1, q2, q3⟩ := text_data l (i + 1) rl val' A' on' M2 hl' hrl hn' hk (fun j hj => by
     by_cases hji : j = i
     ·subst hji
      intro o2 ho2
      rw [ho] at ho2; injection ho2 with ho2; subst ho2
      rw [← hs, vi, Ai, oi, Mi, ← hM j (Nat.le_refl _)]
      exact ⟨h1, h2, h3⟩
     ·exact CT_congr (fun k hk => hv k (by omega)) (fun k hk => hA k (by omega)) (by simp only [on']; rw [if_neg hji]) (fun k hk => hM k (by omega)) (hC j (by omega))) (by
     rw [sT_next ho, ← hs, vi, Mi]; exact h4)
    exact ⟨val2, A2, on2, M3, by rw [q1]; exact (hM 0 (by omega)).symm, q2, q3⟩
   have hw := wantB_eq hg (sT ops s val M i)
   have hkd : prepT (kd.drop i) (⟨o.dst, g, o.op⟩ :: rl) = ⟨o.dst, g, opT (kd.getD i 0) o.op⟩ :: prepT (kd.drop (i + 1)) rl := by
    conv => lhs; unfold prepT
    have e1 : (kd.drop i).headD 0 = kd.getD i 0 := by
     rw [List.headD_eq_head?_getD, List.head?_drop, List.getD_eq_getElem?_getD]
    have e2 : (kd.drop i).tail = kd.drop (i + 1) := by rw [List.tail_drop]
    rw [e1, e2]
   rw [hkd] at h
   unfold OpsP at h
   simp only at h
   split at h
   ·exact h.elim
   ·rename_i hgd
    exact go undef none (M i) false (hw.trans hgd) (fun _ => ⟨rfl, rfl, rfl⟩) (fun h => by cases h) h
   ·rename_i hgd
    split at h
    ·rename_i g2 args hc
     obtain ⟨v, h', h1, h2⟩ := h
     obtain ⟨b, h3⟩ := step_text (i := i) hk1 hk2 hk3 (.inl ⟨g2, args, hc, h1⟩)
     exact go v b h' true (hw.trans hgd) (fun h => by cases h) (fun _ => h3) h2
    ·rename_i hc
     split at h
     ·rename_i v h' hv
      obtain ⟨b, h3⟩ := step_text (C := C) (x := x) (N := ops.size) hk1 hk2 hk3 (.inr ⟨hc, hv⟩)
      exact go v b h' true (hw.trans hgd) (fun h => by cases h) (fun _ => h3) h
     ·exact h.elim
  ·cases hp
structure TD (Γ : TypeId → Option TI) (E : TypeId → Nat) (C : Rel) (x : Bool) (am kd : List Nat) (ops : Array Oper) (s : S) (val : Nat → Value) (A : Nat → Option Blk) (on : Nat → Bool) (M : Nat → Hp) : Prop where
 zero : M 0 = s.h.cl ops.size
 each : ∀ j, j < ops.size → CT Γ E C x kd ops s val A on M j
 anc : ancOk ops am = true
 txt : txtOk Γ ops am kd x = true
def esT (kd : List Nat) (N : Nat) (on : Nat → Bool) : List Nat := (List.range N).filter fun j => on j && isE (kd.getD j 0)
def HT (s : S) (N : Nat) (es : List Nat) (M : Nat → Hp) : Nat → Hp
 | 0 => s.h.cl N
 | k + 1 => match es[k]? with
  | some e => M (e + 1)
  | none => s.h.cl N
def lastT (es : List Nat) : Nat → Nat
 | 0 => 0
 | k + 1 => match es[k]? with
  | some e => e + 1
  | none => 0
theorem esT_mem {N e : Nat} : e ∈ esT kd N on ↔ e < N ∧ on e = true ∧ isE (kd.getD e 0) = true := by
 unfold esT
 rw [List.mem_filter, List.mem_range, Bool.and_eq_true]
theorem esT_rise {N : Nat} : (esT kd N on).Pairwise (· < ·) := List.Pairwise.filter _ List.pairwise_lt_range
theorem esT_lt {N a b e e' : Nat} (h : a < b) (ha : (esT kd N on)[a]? = some e) (hb : (esT kd N on)[b]? = some e') : e < e' := by
 have hx := List.getElem?_eq_some_iff.1 ha
 have hy := List.getElem?_eq_some_iff.1 hb
 have := List.pairwise_iff_getElem.1 (esT_rise (kd := kd) (on := on) (N := N)) a b hx.1 hy.1 h
 rw [hx.2, hy.2] at this; exact this
theorem txt_at (h : txtOk Γ ops am kd x = true) {i : Nat} {o : Oper} (ho : ops[i]? = some o) : kindFits Γ (kd.getD i 0) o.op = true ∧ callsOk x o.op = true ∧ (kd.getD i 0 != 2 || x) = true ∧ ∀ j, j < ops.size → pairOk am i (kd.getD i 0) j (kd.getD j 0) = true := by
 have hi : i < ops.size := (Array.getElem?_eq_some_iff.1 ho).1
 have h1 := List.all_eq_true.1 h i (List.mem_range.2 hi)
 rw [ho] at h1
 simp only [Bool.and_eq_true] at h1
 exact ⟨h1.1.1.1, h1.1.1.2, h1.1.2, fun j hj => List.all_eq_true.1 h1.2 j (List.mem_range.2 hj)⟩
def MoveOk (x : Bool) (kk : Nat) (s : S) (A : Nat → Option Blk) (on : Nat → Bool) (M : Nat → Hp) (i : Nat) : Prop :=
  (M i).next ≤ (M (i + 1)).next ∧
  ((on i = true ∧ isE (kk) = true ∧ A i = none ∧ (∀ m, m < (M i).next → m ≠ s.h.next + i → (M i).blk m = none → (M (i + 1)).blk m = none) ∧ (kk = 6 → x = true → ∀ m, m < (M i).next → (M (i + 1)).blk m = (M i).blk m)) ∨
   ((on i = false ∨ isE (kk) = false) ∧ A i = none ∧ M (i + 1) = M i) ∨
   ((on i = false ∨ isE (kk) = false) ∧ kk = 3 ∧ ∃ b, A i = some b ∧ M (i + 1) = (M i).put (s.h.next + i) (some b)))
theorem move_stay {i kk : Nat} (h1 : A i = none ∧ M (i + 1) = M i) (h2 : isE (kk) = false) : MoveOk x kk s A on M i := ⟨by rw [h1.2]; exact Nat.le_refl _, .inr (.inl ⟨.inr h2, h1⟩)⟩
theorem move_lay {i kk : Nat} {c : Blk} (h1 : A i = some c ∧ M (i + 1) = (M i).put (s.h.next + i) (some c)) (h2 : kk = 3) : MoveOk x kk s A on M i :=
 ⟨by rw [h1.2]; exact Nat.le_refl _, .inr (.inr ⟨.inr (by rw [h2]; rfl), h2, c, h1⟩)⟩
theorem cv_notE {q d : TypeId} {kk : Nat} (f1 : (if cvK Γ q d = true then kk == 3 else if cvT Γ q d = true then kk == 1 || kk == 2 else kk == 0) = true) : isE kk = false := by
 split at f1
 ·simp at f1; rw [f1]; rfl
 ·split at f1
  ·simp at f1; rcases f1 with f1 | f1 <;> rw [f1] <;> rfl
  ·simp at f1; rw [f1]; rfl
theorem stv_nr {t : TypeId} {a y : Value} {h h' : Hp} (hs : stv Γ t a y h = some h') : h'.next = h.next ∧ ∀ m, h.blk m = none → h'.blk m = none := by
 unfold stv at hs
 split at hs
 ·obtain ⟨b, h1, h2⟩ := Option.bind_eq_some_iff.1 hs
  split at h2
  ·injection h2 with h2; subst h2
   refine ⟨rfl, fun m hm => ?_⟩
   simp only [Hp.put]
   split
   ·rename_i he; subst he; rw [h1] at hm; cases hm
   ·exact hm
  ·cases h2
 ·cases hs
theorem append_nr {nm : Nat} {t t2 : TypeId} {a y v : Value} {h h' : Hp} (hs : appendV Γ nm t t2 a y h = some (v, h')) : h'.next = h.next ∧ ∀ m, m ≠ nm → h.blk m = none → h'.blk m = none := by
 unfold appendV at hs
 have putn : ∀ (b : Option Blk) (g : Hp), g = h.put nm b → g.next = h.next ∧ ∀ m, m ≠ nm → h.blk m = none → g.blk m = none := by
  rintro b g rfl
  refine ⟨rfl, fun m h1 h2 => ?_⟩
  simp only [Hp.put]; rw [if_neg h1, h2]
 repeat' (split at hs)
 all_goals first
  | (cases hs; done)
  | (injection hs with hs; injection hs with _ hs; subst hs; exact ⟨rfl, fun _ _ hm => hm⟩)
  | (injection hs with hs; injection hs with _ hs; exact putn _ _ hs.symm)
  | (rename_i b hb _ _ _ _
     injection hs with hs; injection hs with _ hs; subst hs
     refine ⟨rfl, fun m h1 h2 => ?_⟩
     simp only [Hp.put]
     split
     ·rename_i he; subst he; rw [hb] at h2; cases h2
     ·exact h2)
  | (rename_i b hb _ _ _ _ _
     injection hs with hs; injection hs with _ hs; subst hs
     refine ⟨rfl, fun m h1 h2 => ?_⟩
     simp only [Hp.put]
     rw [if_neg h1]
     split
     ·rfl
     ·exact h2)
theorem clear_nr {nm : Nat} {ρ : Operand → Value} {as : Array Operand} {ts : Array TypeId} {v : Value} {h h' : Hp} (hs : effV Γ nm ρ (.call { callee := .builtin .clear, args := as, argTypes := ts }) h = some (v, h')) : h'.next = h.next ∧ ∀ m, h.blk m = none → h'.blk m = none := by
 unfold effV at hs
 simp only at hs
 repeat' (split at hs)
 all_goals first
  | (cases hs; done)
  | (injection hs with hs; injection hs with _ hs; subst hs; exact ⟨rfl, fun _ hm => hm⟩)
  | (obtain ⟨b, h1, h2⟩ := Option.bind_eq_some_iff.1 hs
     split at h2
     ·injection h2 with h2; injection h2 with _ h2; subst h2
      refine ⟨rfl, fun m hm => ?_⟩
      simp only [Hp.put]
      split
      ·rename_i he; subst he; rw [h1] at hm; cases hm
      ·exact hm
     ·cases h2)
variable {N : Nat}
theorem TD.move (d : TD Γ E C x am kd ops s val A on M) {i : Nat} (hi : i < ops.size) : MoveOk x (kd.getD i 0) s A on M i := by
 have ho : ops[i]? = some ops[i] := Array.getElem?_eq_getElem hi
 obtain ⟨h1, h2, h3⟩ := d.each i hi _ ho
 obtain ⟨f1, f2, f3, _⟩ := txt_at d.txt ho
 cases hon : on i with
 | false =>
  obtain ⟨_, k2, k3⟩ := h2 hon
  exact ⟨by rw [k3]; exact Nat.le_refl _, .inr (.inl ⟨.inl hon, k2, k3⟩)⟩
 | true =>
  have h4 := h3 hon
  unfold stepT at h4
  generalize ops[i].op = op at h4 f1
  generalize kd.getD i 0 = kk at h4 f1 ⊢
  split at h4
  ·rename_i g args hc
   obtain ⟨c1, c2, c3, c4⟩ := h4
   have hE : isE kk = true := by
    unfold calleeV at hc
    split at hc
    ·simpa [kindFits, isE] using f1
    ·cases hc
   exact ⟨c2.1, .inl ⟨hon, hE, c4, fun m hm _ hn => c2.2 m hm hn, fun _ hx m hm => (c3 hx).2 m hm⟩⟩
  ·rename_i hc
   have notV : ∀ c, op = .call c → ∀ f, c.callee ≠ .value f ∨ ∀ g a b, (sT ops s val M i).ev f ≠ .func (.func g) a b := by
    rintro ⟨callee, as, ts⟩ rfl f
    by_cases hcc : callee = .value f
    ·subst hcc
     refine .inr fun g a b hf => ?_
     simp only [calleeV, hf] at hc
     cases hc
    ·exact .inl hcc
   split at h4
   ·rename_i w hp
    refine move_stay ⟨h4.2.1, h4.2.2⟩ ?_
    cases op with
    | call c =>
     obtain ⟨callee, as, ts⟩ := c
     cases callee with
     | builtin b => cases b <;> first | (simp [kindFits] at f1; done) | (simp [kindFits] at f1; rw [f1]; rfl) | (cases hp; done) | (simp [pureV] at hp; done)
     | value f => simp [pureV] at hp
     | _ => simp [kindFits] at f1
    | load t a => cases hp
    | store t a y => cases hp
    | convert q d a =>
     simp only [kindFits] at f1
     exact cv_notE f1
    | alloc e => cases hp
    | box e y => cases hp
    | buildSlice a b c => cases hp
    | makeSlice a b c => cases hp
    | _ => simp [kindFits] at f1; rw [f1.1]; rfl
   ·rename_i hp
    cases op with
    | load t a =>
     refine move_stay ⟨h4.2.1, h4.2.2.1⟩ ?_
     simp [kindFits] at f1
     rcases f1 with f1 | f1 <;> rw [f1] <;> rfl
    | convert q d a =>
     simp only [kindFits] at f1
     simp only at h4
     split at h4
     ·rename_i w c hm
      refine move_lay ⟨h4.2.1, h4.2.2⟩ ?_
      have : cvK Γ q d = true := by
       unfold makeV at hm
       simp only at hm
       split at hm
       ·rename_i h5 h6 _; unfold cvK; rw [h5, h6]
       ·cases hm
      rw [this] at f1
      simpa using f1
     ·rename_i hm
      refine move_stay ⟨h4.2.1, h4.2.2.1⟩ ?_
      exact cv_notE f1
    | alloc e =>
     simp [kindFits] at f1
     simp only at h4
     split at h4
     ·exact move_lay ⟨h4.2.1, h4.2.2⟩ f1
     ·cases h4.1
    | box e y =>
     simp [kindFits] at f1
     simp only at h4
     split at h4
     ·exact move_lay ⟨h4.2.1, h4.2.2⟩ f1
     ·cases h4.1
    | buildSlice a b c =>
     simp [kindFits] at f1
     simp only at h4
     split at h4
     ·exact move_lay ⟨h4.2.1, h4.2.2⟩ f1
     ·cases h4.1
    | makeSlice a b c =>
     simp [kindFits] at f1
     simp only at h4
     split at h4
     ·exact move_lay ⟨h4.2.1, h4.2.2⟩ f1
     ·cases h4.1
    | store t a y =>
     simp [kindFits] at f1
     have h5 : effV Γ (s.h.next + i) (sT ops s val M i).ev (.store t a y) (M i) = some (val i, M (i + 1)) ∧ A i = none := h4
     obtain ⟨h5, h6⟩ := h5
     simp only [effV] at h5
     obtain ⟨g, h7, h8⟩ := Option.map_eq_some_iff.1 h5
     injection h8 with _ h8; subst h8
     obtain ⟨k1, k2⟩ := stv_nr h7
     exact ⟨by rw [k1]; exact Nat.le_refl _, .inl ⟨hon, by rw [f1]; rfl, h6, fun m _ _ hm => k2 m hm, fun h => by rw [f1] at h; cases h⟩⟩
    | call c =>
     obtain ⟨callee, as, ts⟩ := c
     cases callee with
     | builtin b =>
      have h5 : effV Γ (s.h.next + i) (sT ops s val M i).ev (.call { callee := .builtin b, args := as, argTypes := ts }) (M i) = some (val i, M (i + 1)) ∧ A i = none := h4
      obtain ⟨h5, h6⟩ := h5
      cases b with
      | append =>
       simp [kindFits] at f1
       simp only [effV] at h5
       split at h5
       ·obtain ⟨k1, k2⟩ := append_nr h5
        exact ⟨by rw [k1]; exact Nat.le_refl _, .inl ⟨hon, by rw [f1]; rfl, h6, fun m _ hm hn => k2 m hm hn, fun h => by rw [f1] at h; cases h⟩⟩
       ·cases h5
      | clear =>
       simp [kindFits] at f1
       obtain ⟨k1, k2⟩ := clear_nr h5
       exact ⟨by rw [k1]; exact Nat.le_refl _, .inl ⟨hon, by rw [f1]; rfl, h6, fun m _ hm hn => k2 m hn, fun h => by rw [f1] at h; cases h⟩⟩
      | _ => first | (simp [kindFits] at f1; done) | (simp [effV] at h5; done)
     | value f =>
      have h5 : effV Γ (s.h.next + i) (sT ops s val M i).ev (.call { callee := .value f, args := as, argTypes := ts }) (M i) = some (val i, M (i + 1)) ∧ A i = none := h4
      simp [effV] at h5
     | _ => simp [kindFits] at f1
    | _ => first | (simp [kindFits, isP] at f1; done) | (exfalso; simp only [makeV, effV] at h4; cases h4.1)
theorem at_ex {l : List Nat} {k : Nat} (h : k < l.length) : ∃ e, l[k]? = some e := ⟨l[k], List.getElem?_eq_getElem h⟩
def Cut (es : List Nat) (i k : Nat) : Prop := k ≤ es.length ∧ ∀ x e, es[x]? = some e → (x < k ↔ e < i)
theorem cut_ex (kd : List Nat) (on : Nat → Bool) (N i : Nat) : ∃ k, Cut (esT kd N on) i k := by
 obtain ⟨k, h1, h2⟩ := rise_cut (esT kd N on) i esT_rise
 exact ⟨k, h1, h2⟩
theorem cut_at {k i : Nat} (h : (esT kd N on)[k]? = some i) : Cut (esT kd N on) i k := by
 have hk := (List.getElem?_eq_some_iff.1 h).1
 refine ⟨by omega, fun x e hx => ⟨fun hl => esT_lt hl hx h, fun hl => ?_⟩⟩
 rcases Nat.lt_trichotomy x k with h1 | h1 | h1
 ·exact h1
 ·subst h1; rw [h] at hx; injection hx with hx; omega
 ·have := esT_lt h1 h hx; omega
theorem cut_uniq {i k k' : Nat} (h : Cut (esT kd N on) i k) (h' : Cut (esT kd N on) i k') : k = k' := by
 have key : ∀ {a b : Nat}, Cut (esT kd N on) i a → Cut (esT kd N on) i b → ¬ a < b := by
  intro a b ha hb hl
  obtain ⟨e, h1⟩ := at_ex (l := esT kd N on) (k := a) (by have := hb.1; omega)
  have h2 := (hb.2 a _ h1).1 hl
  have := (ha.2 a _ h1).2 h2
  omega
 have := key h h'; have := key h' h; omega
theorem cut_next_in {k i : Nat} (h : (esT kd N on)[k]? = some i) : Cut (esT kd N on) (i + 1) (k + 1) := by
 have hc := cut_at h
 have hk := (List.getElem?_eq_some_iff.1 h).1
 refine ⟨by omega, fun x e hx => ?_⟩
 have h1 := hc.2 x e hx
 by_cases hxk : x = k
 ·subst hxk; rw [h] at hx; injection hx with hx; subst hx; omega
 ·constructor
  ·intro hl; have := h1.1 (by omega); omega
  ·intro hl
   by_cases he : e = i
   ·exfalso
    subst he
    rcases Nat.lt_or_gt_of_ne hxk with h2 | h2
    ·have := esT_lt h2 hx h; omega
    ·have := esT_lt h2 h hx; omega
   ·have := h1.2 (by omega); omega
theorem cut_next_out {k i : Nat} (hi : i ∉ esT kd N on) (h : Cut (esT kd N on) (i + 1) k) : Cut (esT kd N on) i k := by
 refine ⟨h.1, fun x e hx => ?_⟩
 have h1 := h.2 x e hx
 have : e ≠ i := fun he => hi (by rw [← he]; exact List.mem_of_getElem? hx)
 omega
structure MInv (kd : List Nat) (ops : Array Oper) (s : S) (A : Nat → Option Blk) (on : Nat → Bool) (M : Nat → Hp) (i k : Nat) : Prop where
 nx : s.h.next + ops.size ≤ (M i).next
 fresh : ∀ j, i ≤ j → j < ops.size → (M i).blk (s.h.next + j) = none
 next : (M i).next = (HT s ops.size (esT kd ops.size on) M k).next
 old : ∀ m, (∀ j, lastT (esT kd ops.size on) k ≤ j → j < i → A j ≠ none → m ≠ s.h.next + j) → (M i).blk m = (HT s ops.size (esT kd ops.size on) M k).blk m
 new : ∀ j, lastT (esT kd ops.size on) k ≤ j → j < i → A j ≠ none → (M i).blk (s.h.next + j) = A j
theorem TD.inv (d : TD Γ E C x am kd ops s val A on M) : ∀ i, i ≤ ops.size → ∀ k, Cut (esT kd ops.size on) i k → MInv kd ops s A on M i k
 | 0, _, k, hc => by
  have hk : k = 0 := by
   rcases Nat.eq_zero_or_pos k with h | h
   ·exact h
   ·obtain ⟨e, h1⟩ := at_ex (l := esT kd ops.size on) (k := 0) (by have := hc.1; omega)
    have := (hc.2 0 _ h1).1 h; omega
  subst hk
  refine ⟨by rw [d.zero]; exact Nat.le_refl _, fun j _ _ => by rw [d.zero]; simp only [Hp.cl]; rw [if_neg (by omega)], by rw [d.zero]; rfl, fun m _ => by rw [d.zero]; rfl, fun j _ hj => by omega⟩
 | i + 1, hi, k, hc => by
  have hi' : i < ops.size := by omega
  obtain ⟨m1, m2⟩ := d.move hi'
  obtain ⟨ki, hci⟩ := cut_ex kd on ops.size i
  have ih := TD.inv d i (by omega) ki hci
  by_cases hin : i ∈ esT kd ops.size on
  ·obtain ⟨k0, hk0⟩ := List.getElem?_of_mem hin
   have hk := cut_uniq hc (cut_next_in hk0)
   subst hk
   have hH : HT s ops.size (esT kd ops.size on) M (k0 + 1) = M (i + 1) := by simp only [HT, hk0]
   have hL : lastT (esT kd ops.size on) (k0 + 1) = i + 1 := by simp only [lastT, hk0]
   refine ⟨Nat.le_trans ih.nx m1, fun j hj hj2 => ?_, by rw [hH], fun m _ => by rw [hH], fun j h1 h2 => by rw [hL] at h1; omega⟩
   have hne : on i = true ∧ isE (kd.getD i 0) = true := ⟨(esT_mem.1 hin).2.1, (esT_mem.1 hin).2.2⟩
   rcases m2 with ⟨_, _, _, q, _⟩ | ⟨q, _⟩ | ⟨q, _⟩
   ·exact q _ (by have := ih.nx; omega) (by omega) (ih.fresh j (by omega) hj2)
   ·rcases q with q | q
    ·rw [hne.1] at q; cases q
    ·rw [hne.2] at q; cases q
   ·rcases q with q | q
    ·rw [hne.1] at q; cases q
    ·rw [hne.2] at q; cases q
  ·have hc' := cut_next_out hin hc
   have := cut_uniq hci hc'; subst this
   have hL : lastT (esT kd ops.size on) ki ≤ i := by
    cases ki with
    | zero => exact Nat.zero_le _
    | succ q =>
     obtain ⟨e, h1⟩ := at_ex (l := esT kd ops.size on) (k := q) (by have := hci.1; omega)
     have := (hci.2 q _ h1).1 (by omega)
     simp only [lastT, h1]; omega
   rcases m2 with ⟨q1, q2, _⟩ | ⟨_, q2, q3⟩ | ⟨_, q2, b, q3, q4⟩
   ·exact absurd (esT_mem.2 ⟨hi', q1, q2⟩) hin
   ·refine ⟨by rw [q3]; exact ih.nx, fun j hj hj2 => by rw [q3]; exact ih.fresh j (by omega) hj2, by rw [q3]; exact ih.next, fun m hm => ?_, fun j h1 h2 h3 => ?_⟩
    ·rw [q3]; exact ih.old m fun j h1 h2 h3 => hm j h1 (by omega) h3
    ·have : j ≠ i := fun h => h3 (by rw [h]; exact q2)
     rw [q3]; exact ih.new j h1 (by omega) h3
   ·refine ⟨by rw [q4]; exact ih.nx, fun j hj hj2 => ?_, by rw [q4]; exact ih.next, fun m hm => ?_, fun j h1 h2 h3 => ?_⟩
    ·rw [q4]; simp only [Hp.put]; rw [if_neg (by omega)]; exact ih.fresh j (by omega) hj2
    ·have := hm i hL (by omega) (by rw [q3]; simp)
     rw [q4]; simp only [Hp.put]; rw [if_neg this]
     exact ih.old m fun j h1 h2 h3 => hm j h1 (by omega) h3
    ·rw [q4]; simp only [Hp.put]
     by_cases hji : j = i
     ·subst hji; rw [if_pos rfl, q3]
     ·rw [if_neg (by omega)]; exact ih.new j h1 (by omega) h3
theorem TD.A_kind (d : TD Γ E C x am kd ops s val A on M) {j : Nat} (hj : j < ops.size) (hA : A j ≠ none) : kd.getD j 0 = 3 ∧ j ∉ esT kd ops.size on := by
 obtain ⟨_, m2⟩ := d.move hj
 rcases m2 with ⟨_, _, q, _⟩ | ⟨_, q, _⟩ | ⟨q, q2, _⟩
 ·exact absurd q hA
 ·exact absurd q hA
 ·refine ⟨q2, fun h => ?_⟩
  have := (esT_mem.1 h).2.2
  rw [q2] at this; cases this
theorem TD.A_anc (d : TD Γ E C x am kd ops s val A on M) {j e : Nat} (hj : j < ops.size) (hA : A j ≠ none) (he : e ∈ esT kd ops.size on) (hl : j < e) : ancB am j e = true := by
 obtain ⟨h1, _, h2⟩ := esT_mem.1 he
 have h3 := (txt_at d.txt (Array.getElem?_eq_getElem hj)).2.2.2 e h1
 rw [(d.A_kind hj hA).1] at h3
 simp only [pairOk, h2, Bool.not_true, Bool.false_or, hl, decide_true] at h3
 exact h3
theorem TD.mg_no (d : TD Γ E C x am kd ops s val A on M) {i k j : Nat} (hc : Cut (esT kd ops.size on) i k) (h1 : lastT (esT kd ops.size on) k ≤ j) : mg am (esT kd ops.size on) k j = false := by
 cases hm : mg am (esT kd ops.size on) k j with
 | false => rfl
 | true =>
  obtain ⟨y, e, h2, h3, h4⟩ := mg_hit am hm
  have h5 := anc_size d.anc (esT_mem.1 (List.mem_of_getElem? h3)).1 h4
  exfalso
  cases k with
  | zero => omega
  | succ q =>
   obtain ⟨e6, h6⟩ := at_ex (l := esT kd ops.size on) (k := q) (by have := hc.1; omega)
   simp only [lastT, h6] at h1
   rcases Nat.lt_or_ge y q with h7 | h7
   ·have := esT_lt h7 h3 h6; omega
   ·have : y = q := by omega
    subst this
    rw [h6] at h3; injection h3 with h3; omega
theorem TD.mg_yes (d : TD Γ E C x am kd ops s val A on M) {k j : Nat} (hk : k ≤ (esT kd ops.size on).length) (hj : j < ops.size) (hA : A j ≠ none) (h1 : j < lastT (esT kd ops.size on) k) : mg am (esT kd ops.size on) k j = true := by
 cases k with
 | zero => simp [lastT] at h1
 | succ q =>
  obtain ⟨e6, h6⟩ := at_ex (l := esT kd ops.size on) (k := q) (by omega)
  simp only [lastT, h6] at h1
  have hne : j ≠ e6 := fun h => (d.A_kind hj hA).2 (by rw [h]; exact List.mem_of_getElem? h6)
  have := d.A_anc hj hA (List.mem_of_getElem? h6) (by omega)
  unfold mg
  rw [List.any_eq_true]
  exact ⟨_, List.mem_of_getElem? (by rw [List.getElem?_take, if_pos (Nat.lt_succ_self q)]; exact h6), this⟩
theorem TD.hin_eq (d : TD Γ E C x am kd ops s val A on M) {e k : Nat} (hk : (esT kd ops.size on)[k]? = some e) :
  hin ops am s A (esT kd ops.size on) (HT s ops.size (esT kd ops.size on) M) k e = M e := by
 have he := (esT_mem.1 (List.mem_of_getElem? hk)).1
 have hc := cut_at hk
 have iv := d.inv e (by omega) k hc
 refine hp_ext iv.next.symm fun m => ?_
 simp only [hin, uni_blk]
 by_cases hex : ∃ j, lastT (esT kd ops.size on) k ≤ j ∧ j < e ∧ A j ≠ none ∧ m = s.h.next + j
 ·obtain ⟨j, h1, h2, h3, rfl⟩ := hex
  rw [iv.new j h1 h2 h3]
  have hL : lastT (esT kd ops.size on) k ≤ ops.size := by omega
  have hn : (HT s ops.size (esT kd ops.size on) M k).blk (s.h.next + j) = none := by
   cases k with
   | zero => simp only [HT, Hp.cl]; rw [if_neg (by omega)]
   | succ q =>
    obtain ⟨e6, h6⟩ := at_ex (l := esT kd ops.size on) (k := q) (by have := hc.1; omega)
    simp only [HT, lastT, h6] at h1 ⊢
    have := (esT_mem.1 (List.mem_of_getElem? h6)).1
    exact (d.inv (e6 + 1) (by omega) (q + 1) (cut_next_in h6)).fresh j h1 (by omega)
  rw [hn]
  show sd _ _ _ _ _ = _
  rw [sd_mk (by omega : j < ops.size) (by rw [d.A_anc (by omega) h3 (List.mem_of_getElem? hk) h2, d.mg_no hc h1]; rfl)]
 ·rw [iv.old m fun j h1 h2 h3 h4 => hex ⟨j, h1, h2, h3, h4⟩]
  cases hb : (HT s ops.size (esT kd ops.size on) M k).blk m with
  | some b => rfl
  | none =>
   show sd _ _ _ _ _ = none
   cases hs : sd s.h.next ops.size A (fun j => ancB am j e && !mg am (esT kd ops.size on) k j) m with
   | none => rfl
   | some b =>
    exfalso
    obtain ⟨j, rfl, h1, h2, h3⟩ := sd_at hs
    simp only [Bool.and_eq_true, Bool.not_eq_true'] at h2
    have hA : A j ≠ none := by rw [h3]; simp
    have hje := anc_size d.anc he h2.1
    rcases Nat.lt_or_ge j (lastT (esT kd ops.size on) k) with h4 | h4
    ·have := d.mg_yes hc.1 h1 hA h4; rw [h2.2] at this; cases this
    ·exact hex ⟨j, h4, hje, hA, rfl⟩
theorem TD.full_at (d : TD Γ E C x am kd ops s val A on M) {i k : Nat} (hi : i ≤ ops.size) (hc : Cut (esT kd ops.size on) i k) {m : Nat} {b : Blk} (hb : (M i).blk m = some b) :
  (full ops am s A (esT kd ops.size on) (HT s ops.size (esT kd ops.size on) M) k).blk m = some b := by
 have iv := d.inv i hi k hc
 simp only [full, uni_blk]
 by_cases hex : ∃ j, lastT (esT kd ops.size on) k ≤ j ∧ j < i ∧ A j ≠ none ∧ m = s.h.next + j
 ·obtain ⟨j, h1, h2, h3, rfl⟩ := hex
  rw [iv.new j h1 h2 h3] at hb
  have hn : (HT s ops.size (esT kd ops.size on) M k).blk (s.h.next + j) = none := by
   cases k with
   | zero => simp only [HT, Hp.cl]; rw [if_neg (by omega)]
   | succ q =>
    obtain ⟨e6, h6⟩ := at_ex (l := esT kd ops.size on) (k := q) (by have := hc.1; omega)
    simp only [HT, lastT, h6] at h1 ⊢
    have := (esT_mem.1 (List.mem_of_getElem? h6)).1
    exact (d.inv (e6 + 1) (by omega) (q + 1) (cut_next_in h6)).fresh j h1 (by omega)
  rw [hn]
  show sd _ _ _ _ _ = _
  rw [sd_mk (by omega : j < ops.size) (by rw [d.mg_no hc h1]; rfl), hb]
 ·rw [iv.old m fun j h1 h2 h3 h4 => hex ⟨j, h1, h2, h3, h4⟩] at hb
  rw [hb]
theorem TD.full_still (d : TD Γ E C x am kd ops s val A on M) (hx : x = true) {k e : Nat} (hk : (esT kd ops.size on)[k]? = some e) (h6 : kd.getD e 0 = 6) {m : Nat} (hm : m < s.h.next + ops.size) :
  (full ops am s A (esT kd ops.size on) (HT s ops.size (esT kd ops.size on) M) k).blk m = (full ops am s A (esT kd ops.size on) (HT s ops.size (esT kd ops.size on) M) (k + 1)).blk m := by
 have he := (esT_mem.1 (List.mem_of_getElem? hk))
 have hc := cut_at hk
 have iv := d.inv e (by omega) k hc
 have hH : HT s ops.size (esT kd ops.size on) M (k + 1) = M (e + 1) := by simp only [HT, hk]
 have hblk : (M (e + 1)).blk m = (M e).blk m := by
  obtain ⟨_, m2⟩ := d.move he.1
  rcases m2 with ⟨_, _, _, _, q⟩ | ⟨q, _⟩ | ⟨q, _⟩
  ·exact q h6 hx m (by have := iv.nx; omega)
  ·rcases q with q | q
   ·rw [he.2.1] at q; cases q
   ·rw [he.2.2] at q; cases q
  ·rcases q with q | q
   ·rw [he.2.1] at q; cases q
   ·rw [he.2.2] at q; cases q
 have hin : hin ops am s A (esT kd ops.size on) (HT s ops.size (esT kd ops.size on) M) k e = M e := d.hin_eq hk
 rw [← hin] at hblk
 simp only [full, uni_blk, hH, hblk]
 simp only [Go.Proofs.YtonpnjfclelpiaaGreatM.hin, uni_blk]
 cases (HT s ops.size (esT kd ops.size on) M k).blk m with
 | some b => rfl
 | none =>
  simp only [sd]
  by_cases hm2 : s.h.next ≤ m ∧ m < s.h.next + ops.size
  ·obtain ⟨q1, q2⟩ := hm2
   simp only [q1, q2, true_and, mg_succ hk]
   cases hg : mg am (esT kd ops.size on) k (m - s.h.next) <;> cases ha : ancB am (m - s.h.next) e <;> simp
   cases A (m - s.h.next) <;> rfl
  ·have e1 : ∀ q : Bool, ¬ (s.h.next ≤ m ∧ m < s.h.next + ops.size ∧ q = true) := fun q z => hm2 ⟨z.1, z.2.1⟩
   rw [if_neg (e1 _), if_neg (e1 _), if_neg (e1 _)]
theorem TD.reads (d : TD Γ E C x am kd ops s val A on M) {i : Nat} (hi : i < ops.size) (hon : i ∉ esT kd ops.size on) (hA : A i = none) (rd : Hp → Option Value) (b : Nat → Prop) (h12 : kd.getD i 0 = 1 ∨ kd.getD i 0 = 2)
  (hmono : ∀ h h' v, rd h = some v → (∀ m b, h.blk m = some b → h'.blk m = some b) → rd h' = some v) (hcg : ∀ h h', (∀ m, b m → h.blk m = h'.blk m) → rd h = rd h') (hb : kd.getD i 0 = 2 → ∀ m, b m → m < s.h.next + ops.size) (hr : rd (M i) = some (val i)) :
  rdC ops am s val A (esT kd ops.size on) (HT s ops.size (esT kd ops.size on) M) rd i := by
 obtain ⟨k, hc⟩ := cut_ex kd on ops.size i
 have ho : ops[i]? = some ops[i] := Array.getElem?_eq_getElem hi
 refine ⟨hon, hA, ⟨k, hc.1, fun y e he => ⟨fun hy => ?_, fun hy => ?_⟩, hmono _ _ _ hr fun m b hm => d.full_at (by omega) hc hm⟩, fun y e he h1 h2 => ?_⟩
 ·have h5 := (hc.2 y e he).1 hy
  cases hbb : ancB am i e with
  | false => rfl
  | true => have := anc_size d.anc (esT_mem.1 (List.mem_of_getElem? he)).1 hbb; omega
 ·have h5 : ¬ e < i := fun h => by have := (hc.2 y e he).2 h; omega
  cases hbb : ancB am e i with
  | false => rfl
  | true => exact absurd (anc_size d.anc hi hbb) h5
 ·have hm := esT_mem.1 (List.mem_of_getElem? he)
  have hp := (txt_at d.txt ho).2.2.2 e hm.1
  rcases h12 with h12 | h12
  ·rw [h12] at hp
   simp only [pairOk, hm.2.2, h1, h2, Bool.or_false, Bool.not_true, Bool.false_or] at hp
   cases hp
  ·rw [h12] at hp
   simp only [pairOk, hm.2.2, h1, h2, Bool.or_false, Bool.not_true, Bool.false_or, beq_iff_eq] at hp
   have hx : x = true := by
    have := (txt_at d.txt ho).2.2.1
    rw [h12] at this; simpa using this
   exact hcg _ _ fun m hmb => d.full_still hx he hp (hb h12 m hmb)
theorem textV_mono {q t : TypeId} {a v : Value} {h h' : Hp} (hl : textV Γ q t a h = some v) (hh : ∀ m b, h.blk m = some b → h'.blk m = some b) : textV Γ q t a h' = some v := by
 unfold textV at hl ⊢
 split at hl
 ·exact hl
 ·rename_i n o kk c hg1 hg2
  split at hl
  ·rename_i k2 z b hg3
   obtain ⟨cs, h1, h2⟩ := Option.bind_eq_some_iff.1 hl
   refine Option.bind_eq_some_iff.2 ⟨cs, ?_, h2⟩
   unfold Hp.cells at h1 ⊢
   cases hb : h.blk n with
   | none => rw [hb] at h1; cases h1
   | some b => rw [hb] at h1; rw [hh n b hb]; exact h1
  ·cases hl
 ·cases hl
def inB : Value → Nat → Prop
 | .pointer (some ⟨n, _, _⟩), m => m = n
 | .slice (some ⟨n, _, _⟩) _ _, m => m = n
 | _, _ => False
theorem inB_ok {b m : Nat} : ∀ {v : Value}, okAt b v → inB v m → m < b := by
 intro v h1 h2
 unfold inB at h2
 split at h2
 ·subst h2; exact h1
 ·subst h2; exact h1
 ·exact h2.elim
theorem TD.draw (d : TD Γ E C x am kd ops s val A on M) (hz : hazOk ops am = true) :
  DrawD Γ E C ops am s on val A (esT kd ops.size on) (HT s ops.size (esT kd ops.size on) M) (sT ops s val M ops.size) where
 anc := d.anc
 haz := hz
 chain := fun a b e e' hab ha hb => by
  have h1 := esT_mem.1 (List.mem_of_getElem? ha)
  have h2 := esT_mem.1 (List.mem_of_getElem? hb)
  have h3 := (txt_at d.txt (Array.getElem?_eq_getElem h2.1)).2.2.2 e h1.1
  have h4 := esT_lt hab ha hb
  have h5 : kd.getD e' 0 = 5 ∨ kd.getD e' 0 = 6 := by have := h2.2.2; unfold isE at this; simpa using this
  rcases h5 with h5 | h5 <;> (rw [h5] at h3; simp only [pairOk, h1.2.2, h4, Bool.not_true, Bool.false_or, decide_true] at h3; exact h3)
 begin_ := rfl
 esN := fun e he => (esT_mem.1 he).1
 final := by
  obtain ⟨k, hc⟩ := cut_ex kd on ops.size ops.size
  have hk : k = (esT kd ops.size on).length := by
   rcases Nat.lt_or_ge k (esT kd ops.size on).length with h | h
   ·obtain ⟨e, he⟩ := at_ex h
    have := (hc.2 k e he).2 (esT_mem.1 (List.mem_of_getElem? he)).1
    omega
   ·have := hc.1; omega
  subst hk
  have iv := d.inv ops.size (Nat.le_refl _) _ hc
  unfold sT
  congr 1
  refine hp_ext iv.next fun m => ?_
  cases hb : (M ops.size).blk m with
  | some b => rw [d.full_at (Nat.le_refl _) hc hb]
  | none =>
   simp only [full, uni_blk]
   have hno : ∀ j, lastT (esT kd ops.size on) (esT kd ops.size on).length ≤ j → j < ops.size → A j ≠ none → m ≠ s.h.next + j := fun j h1 h2 h3 h4 => by
    rw [h4, iv.new j h1 h2 h3] at hb; exact h3 hb
   rw [← iv.old m hno, hb]
   show none = sd _ _ _ _ _
   cases hs : sd s.h.next ops.size A (fun j => !mg am (esT kd ops.size on) (esT kd ops.size on).length j) m with
   | none => rfl
   | some b =>
    exfalso
    obtain ⟨j, rfl, h1, h2, h3⟩ := sd_at hs
    have hA : A j ≠ none := by rw [h3]; simp
    rcases Nat.lt_or_ge j (lastT (esT kd ops.size on) (esT kd ops.size on).length) with h4 | h4
    ·have := d.mg_yes hc.1 h1 hA h4; rw [this] at h2; cases h2
    ·exact hno j h4 h1 hA rfl
 each := fun i o ho => by
  have hi : i < ops.size := (Array.getElem?_eq_some_iff.1 ho).1
  obtain ⟨h1, h2, h3⟩ := d.each i hi o ho
  have hw : wantB ops (sAt ops s val i) o = wantB ops (sT ops s val M i) o := rfl
  have hev : (sAt ops s val i).ev = (sT ops s val M i).ev := by funext y; cases y <;> rfl
  obtain ⟨f1, _, _, _⟩ := txt_at d.txt ho
  refine ⟨by rw [hw]; exact h1, fun hoff => ?_, fun hon => ?_⟩
  ·obtain ⟨k1, k2, _⟩ := h2 hoff
   exact ⟨k1, (fun he => by have := (esT_mem.1 he).2.1; rw [hoff] at this; cases this), k2⟩
  ·have h4 := h3 hon
   have hcal : calleeV (sAt ops s val i) o.op = calleeV (sT ops s val M i) o.op := by unfold calleeV; rw [hev]
   have inE : isE (kd.getD i 0) = true → i ∈ esT kd ops.size on := fun h => esT_mem.2 ⟨hi, hon, h⟩
   have notE : isE (kd.getD i 0) = false → i ∉ esT kd ops.size on := fun h he => by have := (esT_mem.1 he).2.2; rw [h] at this; cases this
   unfold stepT at h4
   unfold stepC
   rw [hcal, hev]
   have hHT : ∀ k, (esT kd ops.size on)[k]? = some i → HT s ops.size (esT kd ops.size on) M (k + 1) = M (i + 1) := fun k hk => by simp only [HT, hk]
   generalize hop : o.op = op at h4 f1 ⊢
   generalize hkk : kd.getD i 0 = kk at h4 f1 inE notE
   split at h4
   ·rename_i g args hcl
    simp only [hcl]
    have hE : isE kk = true := by
     unfold calleeV at hcl
     split at hcl
     ·simpa [kindFits, isE] using f1
     ·cases hcl
    obtain ⟨k, hk⟩ := List.getElem?_of_mem (inE hE)
    refine ⟨k, hk, ?_, h4.2.2.2⟩
    rw [d.hin_eq hk, hHT k hk]
    exact h4.1
   ·rename_i hcl
    simp only [hcl]
    split at h4
    ·rename_i w hp
     simp only [hp]
     refine ⟨h4.1, ?_, h4.2.1⟩
     refine notE ?_
     cases op with
     | call c =>
      obtain ⟨callee, as, ts⟩ := c
      cases callee with
      | builtin b => cases b <;> first | (simp [kindFits] at f1; done) | (simp [kindFits] at f1; rw [f1]; rfl) | (cases hp; done) | (simp [pureV] at hp; done)
      | value f => simp [pureV] at hp
      | _ => simp [kindFits] at f1
     | load t a => cases hp
     | store t a y => cases hp
     | convert q d a =>
      simp only [kindFits] at f1
      exact cv_notE f1
     | alloc e => cases hp
     | box e y => cases hp
     | buildSlice a b c => cases hp
     | makeSlice a b c => cases hp
     | _ => simp [kindFits] at f1; rw [f1.1]; rfl
    ·rename_i hp
     simp only [hp]
     have hreads : ∀ (rd : Hp → Option Value) (y : Value), (kk = 1 ∨ kk = 2) → (∀ h h' v, rd h = some v → (∀ m b, h.blk m = some b → h'.blk m = some b) → rd h' = some v) → (∀ h h', (∀ m, inB y m → h.blk m = h'.blk m) → rd h = rd h') →
       (rd (M i) = some (val i) ∧ A i = none ∧ M (i + 1) = M i ∧ (kk = 2 → okAt (s.h.next + ops.size) y)) → rdC ops am s val A (esT kd ops.size on) (HT s ops.size (esT kd ops.size on) M) rd i := by
      intro rd y h12 hm hc h5
      refine d.reads hi (notE (by rcases h12 with h | h <;> rw [h] <;> rfl)) h5.2.1 rd (inB y) (by rw [hkk]; exact h12) hm hc (fun h2' m hb => ?_) h5.1
      exact inB_ok (h5.2.2.2 (by rw [← hkk]; exact h2')) hb
     cases op with
     | load t a =>
      refine hreads _ ((sT ops s val M i).ev a) (by simpa [kindFits] using f1) (fun h h' v hv hh => ldv_mono hv hh) (fun h h' hh => ldv_congr fun m o hm => hh m ?_) h4
      rw [hm]; exact rfl
     | convert q t a =>
      simp only at h4 ⊢
      split at h4
      ·rename_i w c hm
       have h5 : makeV Γ (s.h.next + i) (sT ops s val M i).ev (.convert q t a) = some (w, c) := hm
       simp only [h5]
       refine ⟨h4.1, h4.2.1, notE ?_⟩
       simp only [kindFits] at f1
       exact cv_notE f1
      ·rename_i hm
       have h5 : makeV Γ (s.h.next + i) (sT ops s val M i).ev (.convert q t a) = none := hm
       simp only [h5]
       have htx : textV Γ q t ((sT ops s val M i).ev a) (M i) = some (val i) := h4.1
       have h12 : kk = 1 ∨ kk = 2 := by
        simp only [kindFits] at f1
        have k1 : cvK Γ q t = false ∧ cvT Γ q t = true := by
         unfold textV at htx
         unfold cvK cvT
         split at htx
         ·rename_i g1 g2 _; rw [g1, g2]; exact ⟨rfl, rfl⟩
         ·rename_i g1 g2 _; rw [g1, g2]; exact ⟨rfl, rfl⟩
         ·cases htx
        rw [k1.1, k1.2] at f1
        simpa using f1
       refine hreads _ ((sT ops s val M i).ev a) h12 (fun h h' v hv hh => textV_mono hv hh) (fun h h' hh => textV_congr fun m o kk c hm => hh m ?_) h4
       rw [hm]; exact rfl
     | alloc e =>
      simp [kindFits] at f1
      simp only at h4 ⊢
      split at h4
      ·rename_i hm; simp only [hm]; exact ⟨h4.1, h4.2.1, notE (by rw [f1]; rfl)⟩
      ·cases h4.1
     | box e y =>
      simp [kindFits] at f1
      simp only at h4 ⊢
      split at h4
      ·rename_i hm; simp only [hm]; exact ⟨h4.1, h4.2.1, notE (by rw [f1]; rfl)⟩
      ·cases h4.1
     | buildSlice a b c =>
      simp [kindFits] at f1
      simp only at h4 ⊢
      split at h4
      ·rename_i hm; simp only [hm]; exact ⟨h4.1, h4.2.1, notE (by rw [f1]; rfl)⟩
      ·cases h4.1
     | makeSlice a b c =>
      simp [kindFits] at f1
      simp only at h4 ⊢
      split at h4
      ·rename_i hm; simp only [hm]; exact ⟨h4.1, h4.2.1, notE (by rw [f1]; rfl)⟩
      ·cases h4.1
     | store t a y =>
      simp [kindFits] at f1
      have h5 : effV Γ (s.h.next + i) (sT ops s val M i).ev (.store t a y) (M i) = some (val i, M (i + 1)) ∧ A i = none := h4
      obtain ⟨k, hk⟩ := List.getElem?_of_mem (inE (by rw [f1]; rfl))
      show ∃ k, _
      exact ⟨k, hk, by rw [d.hin_eq hk, hHT k hk]; exact h5.1, h5.2⟩
     | call c =>
      obtain ⟨callee, as, ts⟩ := c
      cases callee with
      | builtin b =>
       have h5 : effV Γ (s.h.next + i) (sT ops s val M i).ev (.call { callee := .builtin b, args := as, argTypes := ts }) (M i) = some (val i, M (i + 1)) ∧ A i = none := h4
       cases b with
       | append =>
        simp [kindFits] at f1
        obtain ⟨k, hk⟩ := List.getElem?_of_mem (inE (by rw [f1]; rfl))
        show ∃ k, _
        exact ⟨k, hk, by rw [d.hin_eq hk, hHT k hk]; exact h5.1, h5.2⟩
       | clear =>
        simp [kindFits] at f1
        obtain ⟨k, hk⟩ := List.getElem?_of_mem (inE (by rw [f1]; rfl))
        show ∃ k, _
        exact ⟨k, hk, by rw [d.hin_eq hk, hHT k hk]; exact h5.1, h5.2⟩
       | _ => first | (simp [kindFits] at f1; done) | (simp [effV] at h5; done)
      | value f =>
       have h5 : effV Γ (s.h.next + i) (sT ops s val M i).ev (.call { callee := .value f, args := as, argTypes := ts }) (M i) = some (val i, M (i + 1)) ∧ A i = none := h4
       simp [effV] at h5
      | _ => simp [kindFits] at f1
     | _ => first | (simp [kindFits, isP] at f1; done) | (exfalso; simp only [makeV, effV] at h4; cases h4.1)
theorem text_draw {Q : S → Prop} {n : Nat} {l : List POp} (hp : prepO ops ops.toList = some l) (ha : ancOk ops am = true) (hz : hazOk ops am = true) (ht : txtOk Γ ops am kd x = true)
  (h : OpsP Γ E (TC Γ C x (s.h.next + ops.size)) s.h.next 0 (prepT kd l) (s.hp (s.h.cl ops.size)) Q) : ∃ s', Draw Γ E C n ops s s' ∧ Q s' := by
 obtain ⟨val, A, on, M, h0, hC, hQ⟩ := text_data (kd := kd) ops.toList 0 l (fun _ => undef) (fun _ => none) (fun _ => false) (fun _ => s.h.cl ops.size) (fun j => by simp) hp (by simp)
  (fun j o ho => ⟨(txt_at ht ho).1, (txt_at ht ho).2.1, (txt_at ht ho).2.2.1⟩) (fun j hj => by omega) (by rw [List.drop_zero]; exact h)
 exact ⟨_, ⟨am, on, val, A, _, _, (TD.mk h0 hC ha ht).draw hz⟩, hQ⟩
variable {D : DrawR} {Q : Ex → S → Prop} {k : List Fr}
end
end Go.Proofs.YtonpnjfclelpiaaGreatM
