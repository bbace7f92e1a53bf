import Derived.Test.YtbgaljpilmmefaaV1MiY
/- Regions of open order whose calls leave all as it was: the text's order tells it. -/
namespace Go.Proofs.YtbgaljpilmmefaaM
open Go
set_option linter.unusedVariables false
set_option linter.unusedSimpArgs false

def AgreeQ (am : List Nat) (base i : Nat) (h hh : Hp) : Prop := hh.next = h.next ∧ (∀ m, m < base → hh.blk m = h.blk m) ∧ ∀ j, ancB am j i = true → hh.blk (base + j) = h.blk (base + j)

section
variable (Γ : TypeId → Option TI) (E : TypeId → Nat) (C : Rel) (am : List Nat) (base : Nat)

/-- One operation, in the text's order. -/
def stepQ (i : Nat) (s : S) (op : Op) (v : Value) (b : Option Blk) : Prop :=
  match calleeV s op with
  | some (g, args) => (∀ hh, AgreeQ am base i s.h hh → C g args hh v hh) ∧ b = none
  | none => match pureV Γ E s.ev op with
    | some w => v = w ∧ b = none
    | none => match op with
      | .load t a => ldv Γ t (s.ev a) s.h = some v ∧ b = none
      | op => match makeV Γ (base + i) s.ev op with
        | some (w, c) => v = w ∧ b = some c
        | none => False

def OpsQ : Nat → List POp → S → (S → Prop) → Prop
  | _, [], s, Q => Q s
  | i, o :: r, s, Q => match gdV s o.g with
    | none => False
    | some false => OpsQ (i + 1) r (s.put o.d undef) Q
    | some true => ∃ v b, stepQ Γ E C am base i s o.op v b ∧ OpsQ (i + 1) r ((match b with | some b => s.hp (s.h.put (base + i) (some b)) | none => s).put o.d v) Q

def isCallO : Op → Bool
  | .call { callee := .value _, .. } => true
  | _ => false
def chainOk (ops : Array Oper) (am : List Nat) : Bool := (List.range ops.size).all fun i => (List.range i).all fun j => match ops[i]?, ops[j]? with
  | some a, some b => !(isCallO a.op && isCallO b.op) || ancB am j i
  | _, _ => true
end

/-- The blocks that the text's order has laid. -/
def hq (s : S) (N : Nat) (A : Nat → Option Blk) (p : Nat → Bool) : Hp := { next := s.h.next + N, blk := fun m => if m < s.h.next then s.h.blk m else if m < s.h.next + N then (bif p (m - s.h.next) then A (m - s.h.next) else none) else none }
theorem sd_eq {base N : Nat} {A : Nat → Option Blk} {p : Nat → Bool} {m : Nat} : sd base N A p m = if base ≤ m ∧ m < base + N then (bif p (m - base) then A (m - base) else none) else none := by
  unfold sd
  by_cases h : base ≤ m ∧ m < base + N
  · rw [if_pos h]
    cases hp : p (m - base)
    · rw [if_neg (fun x => nomatch x.2.2)]; rfl
    · rw [if_pos ⟨h.1, h.2, rfl⟩]; rfl
  · rw [if_neg h, if_neg (fun x => h ⟨x.1, x.2.1⟩)]
def sq (ops : Array Oper) (s : S) (val : Nat → Value) (A : Nat → Option Blk) (i : Nat) : S := ⟨fr ops s.t val i, hq s ops.size A fun j => decide (j < i)⟩

section
variable {Γ : TypeId → Option TI} {E : TypeId → Nat} {C : Rel} {am : List Nat} {ops : Array Oper} {s : S} {val val' : Nat → Value} {A A' : Nat → Option Blk} {on on' : Nat → Bool}

def CQ (Γ : TypeId → Option TI) (E : TypeId → Nat) (C : Rel) (am : List Nat) (ops : Array Oper) (s : S) (val : Nat → Value) (A : Nat → Option Blk) (on : Nat → Bool) (j : Nat) : Prop :=
  ∀ o, ops[j]? = some o → wantB ops (sq ops s val A j) o = some (on j) ∧ (on j = false → val j = undef ∧ A j = none) ∧ (on j = true → stepQ Γ E C am s.h.next j (sq ops s val A j) o.op (val j) (A j))

theorem fr_congr {t : Nat → Value} : ∀ i, (∀ j, j < i → val j = val' j) → fr ops t val i = fr ops t val' i
  | 0, _ => rfl
  | i + 1, h => by
    unfold fr
    rw [fr_congr i fun j hj => h j (by omega), h i (by omega)]
theorem sq_congr {i : Nat} (hv : ∀ j, j < i → val j = val' j) (hA : ∀ j, j < i → A j = A' j) : sq ops s val A i = sq ops s val' A' i := by
  unfold sq
  congr 1
  · exact fr_congr i hv
  · refine hp_ext rfl fun m => ?_
    simp only [hq]
    split
    · rfl
    · split
      · cases hd : decide (m - s.h.next < i) with
        | true => simp at hd; rw [hA _ hd]
        | false => rfl
      · rfl
theorem CQ_congr {j : Nat} (hv : ∀ k, k ≤ j → val k = val' k) (hA : ∀ k, k ≤ j → A k = A' k) (ho : on j = on' j) (h : CQ Γ E C am ops s val A on j) : CQ Γ E C am ops s val' A' on' j := by
  intro o hoj
  have h1 := h o hoj
  rw [sq_congr (fun k hk => hv k (by omega)) (fun k hk => hA k (by omega)), hv j (Nat.le_refl _), hA j (Nat.le_refl _), ho] at h1
  exact h1

theorem sq_next {i : Nat} {o : Oper} (ho : ops[i]? = some o) : sq ops s val A (i + 1) = ((match A i with | some b => (sq ops s val A i).hp ((sq ops s val A i).h.put (s.h.next + i) (some b)) | none => sq ops s val A i).put o.dst (val i)) := by
  have hi : i < ops.size := (Array.getElem?_eq_some_iff.1 ho).1
  have hd : dstOf ops i = o.dst := by unfold dstOf; rw [ho]; rfl
  have hh : (sq ops s val A (i + 1)).h = (match A i with | some b => (sq ops s val A i).h.put (s.h.next + i) (some b) | none => (sq ops s val A i).h) := by
    cases hA : A i with
    | none =>
      refine hp_ext rfl fun m => ?_
      simp only [sq, hq]
      split
      · rfl
      · by_cases hm : m - s.h.next = i
        · rw [hm, hA]; simp
        · have : decide (m - s.h.next < i + 1) = decide (m - s.h.next < i) := by
            by_cases h1 : m - s.h.next < i
            · simp [h1]; omega
            · simp [h1]; omega
          rw [this]
    | some b =>
      refine hp_ext rfl fun m => ?_
      simp only [sq, hq, Hp.put]
      by_cases hm : m = s.h.next + i
      · subst hm
        rw [if_pos rfl, if_neg (by omega), if_pos (by omega), Nat.add_sub_cancel_left, hA]; simp
      · rw [if_neg hm]
        split
        · rfl
        · have : decide (m - s.h.next < i + 1) = decide (m - s.h.next < i) := by
            by_cases h1 : m - s.h.next < i
            · simp [h1]; omega
            · simp [h1]; omega
          rw [this]
  have ht : (sq ops s val A (i + 1)).t = (match o.dst with | some d => upd (sq ops s val A i).t d (val i) | none => (sq ops s val A i).t) := by
    show fr ops s.t val (i + 1) = _
    unfold fr
    rw [hd]
    cases o.dst <;> rfl
  have e : ∀ a b : S, a.t = b.t → a.h = b.h → a = b := by
    intro a b h1 h2; cases a; cases b; simp only at h1 h2; subst h1; subst h2; rfl
  refine e _ _ ?_ ?_
  · rw [ht]
    cases A i <;> cases o.dst <;> rfl
  · rw [hh]
    cases A i <;> cases o.dst <;> rfl

theorem quiet_data {Q : S → Prop} : ∀ (l : List Oper) (i : Nat) (r : List POp) (val : Nat → Value) (A : Nat → Option Blk) (on : Nat → Bool), (∀ j, l[j]? = ops[i + j]?) → prepO ops l = some r → i + l.length = ops.size →
    (∀ j, j < i → CQ Γ E C am ops s val A on j) → OpsQ Γ E C am s.h.next i r (sq ops s val A i) Q → ∃ val A on, (∀ j, j < ops.size → CQ Γ E C am ops s val A on j) ∧ Q (sq ops s val A ops.size)
  | [], i, r, val, A, on, hl, hp, hn, hC, h => by
    simp [prepO] at hp; subst hp
    simp at hn; subst hn
    exact ⟨val, A, on, hC, h⟩
  | o :: l, i, r, val, A, on, hl, hp, hn, hC, h => by
    unfold prepO at hp
    split at hp
    · rename_i g rl hg hrl
      injection hp with hp; subst hp
      have ho : ops[i]? = some o := by have := hl 0; simpa using this.symm
      have hl' : ∀ j, l[j]? = ops[i + 1 + j]? := fun j => by have := hl (j + 1); simpa [Nat.add_assoc, Nat.add_comm 1 j] using this
      have hn' : i + 1 + l.length = ops.size := by simp at hn; omega
      -- going on with what i makes
      have go : ∀ (v : Value) (b : Option Blk) (w : Bool), wantB ops (sq ops s val A i) o = some w → (w = false → v = undef ∧ b = none) → (w = true → stepQ Γ E C am s.h.next i (sq ops s val A i) o.op v b) →
          OpsQ Γ E C am s.h.next (i + 1) rl ((match b with | some b => (sq ops s val A i).hp ((sq ops s val A i).h.put (s.h.next + i) (some b)) | none => sq ops s val A i).put o.dst v) Q →
          ∃ val A on, (∀ j, j < ops.size → CQ Γ E C am ops s val A on j) ∧ Q (sq ops s val A ops.size) := by
        intro v b w h1 h2 h3 h4
        let val' : Nat → Value := fun j => if j = i then v else val j
        let A' : Nat → Option Blk := fun j => if j = i then b else A j
        let on' : Nat → Bool := fun j => if j = i then w else on j
        have hv : ∀ j, j < i → val j = val' j := fun j hj => by simp only [val']; rw [if_neg (by omega)]
        have hA : ∀ j, j < i → A j = A' j := fun j hj => by simp only [A']; rw [if_neg (by omega)]
        have hs : sq ops s val A i = sq ops s val' A' i := sq_congr hv hA
        have vi : val' i = v := by simp [val']
        have Ai : A' i = b := by simp [A']
        have oi : on' i = w := by simp [on']
        refine quiet_data l (i + 1) rl val' A' on' hl' hrl hn' (fun j hj => ?_) ?_
        · by_cases hji : j = i
          · subst hji
            intro o2 ho2
            rw [ho] at ho2; injection ho2 with ho2; subst ho2
            rw [← hs, vi, Ai, oi]
            exact ⟨h1, h2, h3⟩
          · exact CQ_congr (fun k hk => hv k (by omega)) (fun k hk => hA k (by omega)) (by simp only [on']; rw [if_neg hji]) (hC j (by omega))
        · rw [sq_next ho, ← hs, vi, Ai]
          exact h4
      unfold OpsQ at h
      simp only at h
      have hw := wantB_eq hg (sq ops s val A i)
      split at h
      · exact h.elim
      · rename_i hgd
        exact go undef none false (hw.trans hgd) (fun _ => ⟨rfl, rfl⟩) (fun h => by cases h) h
      · rename_i hgd
        obtain ⟨v, b, h1, h2⟩ := h
        exact go v b true (hw.trans hgd) (fun h => by cases h) (fun _ => h1) h2
    · cases hp

theorem ldv_mono {t : TypeId} {x v : Value} {h h' : Hp} (hl : ldv Γ t x h = some v) (hh : ∀ m b, h.blk m = some b → h'.blk m = some b) : ldv Γ t x h' = some v := by
  unfold ldv at hl ⊢
  split at hl
  · rename_i n o i hg
    split at hl
    · rename_i ha
      rw [if_pos ha]
      unfold Hp.cells at hl ⊢
      cases hb : h.blk n with
      | none => rw [hb] at hl; cases hl
      | some b => rw [hb] at hl; rw [hh n b hb]; exact hl
    · rename_i ha
      rw [if_neg ha]
      unfold Hp.cell at hl ⊢
      cases hb : h.blk n with
      | none => rw [hb] at hl; cases hl
      | some b => rw [hb] at hl; rw [hh n b hb]; exact hl
  · cases hl

/-- Where a row that rises passes a number. -/
theorem rise_cut : ∀ (l : List Nat) (i : Nat), l.Pairwise (· < ·) → ∃ k, k ≤ l.length ∧ ∀ x e, l[x]? = some e → (x < k ↔ e < i)
  | [], i, _ => ⟨0, Nat.le_refl _, fun x e h => by simp at h⟩
  | a :: l, i, h => by
    rw [List.pairwise_cons] at h
    by_cases ha : a < i
    · obtain ⟨k, h1, h2⟩ := rise_cut l i h.2
      refine ⟨k + 1, by simp; omega, fun x e hx => ?_⟩
      cases x with
      | zero => simp at hx; subst hx; simp; exact ha
      | succ x => have := h2 x e (by simpa using hx); omega
    · refine ⟨0, by simp, fun x e hx => ?_⟩
      have : a ≤ e := by
        cases x with
        | zero => simp at hx; omega
        | succ x => exact Nat.le_of_lt (h.1 e (List.mem_of_getElem? (by simpa using hx)))
      omega

theorem quiet_draw {Q : S → Prop} {n : Nat} {l : List POp} (hp : prepO ops ops.toList = some l) (ha : ancOk ops am = true) (hz : hazOk ops am = true) (hc : chainOk ops am = true)
    (h : OpsQ Γ E C am s.h.next 0 l (s.hp (s.h.cl ops.size)) Q) : ∃ s', Draw Γ E C n ops s s' ∧ Q s' := by
  have h0 : s.hp (s.h.cl ops.size) = sq ops s (fun _ => undef) (fun _ => none) 0 := by
    unfold sq S.hp
    congr 1
    refine hp_ext rfl fun m => ?_
    simp only [Hp.cl, hq]
    split
    · rfl
    · simp
  rw [h0] at h
  obtain ⟨val, A, on, hC, hQ⟩ := quiet_data ops.toList 0 l _ _ (fun _ => false) (fun j => by simp) hp (by simp) (fun j hj => by omega) h
  refine ⟨_, ⟨am, on, val, A, (List.range ops.size).filter (fun j => on j && ((ops[j]?).map fun o => isCallO o.op).getD false), fun k => hq s ops.size A fun j => mg am ((List.range ops.size).filter (fun j => on j && ((ops[j]?).map fun o => isCallO o.op).getD false)) k j, ?_⟩, hQ⟩
  generalize hes : (List.range ops.size).filter (fun j => on j && ((ops[j]?).map fun o => isCallO o.op).getD false) = es
  have hmem : ∀ e, e ∈ es ↔ e < ops.size ∧ on e = true ∧ ∃ o, ops[e]? = some o ∧ isCallO o.op = true := by
    intro e
    rw [← hes, List.mem_filter, List.mem_range, Bool.and_eq_true]
    constructor
    · rintro ⟨h1, h2, h3⟩
      refine ⟨h1, h2, ops[e], Array.getElem?_eq_getElem h1, ?_⟩
      rw [Array.getElem?_eq_getElem h1] at h3
      simpa using h3
    · rintro ⟨h1, h2, o, h3, h4⟩
      exact ⟨h1, h2, by rw [h3]; simpa using h4⟩
  have hrise : es.Pairwise (· < ·) := by rw [← hes]; exact List.Pairwise.filter _ List.pairwise_lt_range
  have hfull : ∀ k, full ops am s A es (fun k => hq s ops.size A fun j => mg am es k j) k = hq s ops.size A fun j => true := by
    intro k
    refine hp_ext rfl fun m => ?_
    simp only [full, uni_blk, hq, sd_eq]
    by_cases hm : m < s.h.next
    · simp only [hm, if_true]
      cases s.h.blk m with
      | some b => rfl
      | none => simp only; rw [if_neg]; omega
    · simp only [hm, if_false]
      by_cases hm2 : m < s.h.next + ops.size
      · have : s.h.next ≤ m := by omega
        cases hg : mg am es k (m - s.h.next) <;> simp [hm2, this]
        all_goals (cases A (m - s.h.next) <;> rfl)
      · simp [hm2]
  have hhin : ∀ k e, es[k]? = some e → hin ops am s A es (fun k => hq s ops.size A fun j => mg am es k j) k e = hq s ops.size A fun j => mg am es (k + 1) j := by
    intro k e he
    refine hp_ext rfl fun m => ?_
    simp only [hin, uni_blk, hq, sd_eq, mg_succ he]
    by_cases hm : m < s.h.next
    · simp only [hm, if_true]
      cases s.h.blk m with
      | some b => rfl
      | none => simp only; rw [if_neg]; omega
    · simp only [hm, if_false]
      by_cases hm2 : m < s.h.next + ops.size
      · have : s.h.next ≤ m := by omega
        cases hg : mg am es k (m - s.h.next) <;> cases ha2 : ancB am (m - s.h.next) e <;> simp [hm2, this]
        all_goals (cases A (m - s.h.next) <;> rfl)
      · simp [hm2]
  refine ⟨ha, hz, ?_, ?_, fun e he => ((hmem e).1 he).1, ?_, ?_⟩
  · intro x y e e' hxy hx hy
    have hlt : e < e' := by
      have hx' := List.getElem?_eq_some_iff.1 hx
      have hy' := List.getElem?_eq_some_iff.1 hy
      have := List.pairwise_iff_getElem.1 hrise x y hx'.1 hy'.1 hxy
      rw [hx'.2, hy'.2] at this; exact this
    obtain ⟨h1, _, o1, h2, h3⟩ := (hmem e).1 (List.mem_of_getElem? hx)
    obtain ⟨h4, _, o2, h5, h6⟩ := (hmem e').1 (List.mem_of_getElem? hy)
    have h7 := List.all_eq_true.1 (List.all_eq_true.1 hc e' (List.mem_range.2 h4)) e (List.mem_range.2 hlt)
    rw [h2, h5] at h7
    simpa [h3, h6] using h7
  · refine hp_ext rfl fun m => ?_
    simp only [hq, Hp.cl]
    split
    · rfl
    · simp [mg]
  · intro i o ho
    have hi : i < ops.size := (Array.getElem?_eq_some_iff.1 ho).1
    obtain ⟨h1, h2, h3⟩ := hC i hi o ho
    have hw : wantB ops (sAt ops s val i) o = wantB ops (sq ops s val A i) o := rfl
    refine ⟨by rw [hw]; exact h1, fun hoff => ?_, fun hon => ?_⟩
    · obtain ⟨k1, k2⟩ := h2 hoff
      exact ⟨k1, (fun he => by have := ((hmem i).1 he).2.1; rw [hoff] at this; cases this), k2⟩
    · have h4 := h3 hon
      have hev : (sAt ops s val i).ev = (sq ops s val A i).ev := by
        funext x; cases x <;> rfl
      have hcal : calleeV (sAt ops s val i) o.op = calleeV (sq ops s val A i) o.op := by unfold calleeV; rw [hev]
      unfold stepQ at h4
      unfold stepC
      rw [hcal, hev]
      split at h4
      · rename_i g args hcl
        obtain ⟨k1, k2⟩ := h4
        simp only [hcl]
        have hcall : isCallO o.op = true := by
          unfold calleeV at hcl
          split at hcl
          · rename_i hop; rw [hop]; rfl
          · cases hcl
        obtain ⟨k, hk⟩ := List.getElem?_of_mem ((hmem i).2 ⟨hi, hon, o, ho, hcall⟩)
        refine ⟨k, hk, ?_, k2⟩
        rw [hhin k i hk]
        refine k1 _ ⟨rfl, fun m hm => ?_, fun j hj => ?_⟩
        · simp only [sq, hq, hm, if_true]
        · have hji := anc_size ha hi hj
          simp only [sq, hq]
          have e1 : ¬ s.h.next + j < s.h.next := by omega
          have e2 : s.h.next + j < s.h.next + ops.size := by omega
          simp only [e1, e2, if_true, if_false, Nat.add_sub_cancel_left, mg_succ hk, hj, Bool.or_true]
          simp [hji]
      · rename_i hcl
        simp only [hcl]
        split at h4
        · rename_i w hpv
          simp only [hpv]
          refine ⟨h4.1, fun he => ?_, h4.2⟩
          obtain ⟨_, _, o2, k1, k2⟩ := (hmem i).1 he
          rw [ho] at k1; injection k1 with k1; subst k1
          unfold isCallO at k2
          split at k2
          · rename_i hop; rw [hop] at hpv; simp [pureV] at hpv
          · cases k2
        · rename_i hpv
          simp only [hpv]
          split at h4
          · rename_i t a hop
            simp only [hop]
            have hni : i ∉ es := fun he => by
              obtain ⟨_, _, o2, k1, k2⟩ := (hmem i).1 he
              rw [ho] at k1; injection k1 with k1; subst k1
              rw [hop] at k2; cases k2
            obtain ⟨k, k1, k2⟩ := rise_cut es i hrise
            refine ⟨hni, h4.2, ⟨k, k1, fun x e he => ⟨fun hx => ?_, fun hx => ?_⟩, ?_⟩, fun x e _ _ _ => by rw [hfull, hfull]⟩
            · have h5 := (k2 x e he).1 hx
              cases hb : ancB am i e with
              | false => rfl
              | true => have := anc_size ha ((hmem e).1 (List.mem_of_getElem? he)).1 hb; omega
            · have h5 : ¬ e < i := fun h => by have := (k2 x e he).2 h; omega
              cases hb : ancB am e i with
              | false => rfl
              | true => exact absurd (anc_size ha hi hb) h5
            · rw [hfull]
              refine ldv_mono h4.1 fun m b hm => ?_
              simp only [sq, hq] at hm ⊢
              split at hm
              · rename_i hlt; rw [if_pos hlt]; exact hm
              · rename_i hlt
                rw [if_neg hlt]
                split at hm
                · rename_i h5; rw [if_pos h5]
                  cases hd : decide (m - s.h.next < i) with
                  | true => rw [hd] at hm; exact hm
                  | false => rw [hd] at hm; cases hm
                · cases hm
          · split at h4
            · rename_i w c hmk
              simp only [hmk]
              refine ⟨h4.1, h4.2, fun he => ?_⟩
              obtain ⟨_, _, o2, k1, k2⟩ := (hmem i).1 he
              rw [ho] at k1; injection k1 with k1; subst k1
              unfold isCallO at k2
              split at k2
              · rename_i hop; rw [hop] at hmk; simp [makeV] at hmk
              · cases k2
            · exact h4.elim
  · rw [hfull]
    unfold sq
    congr 1
    refine hp_ext rfl fun m => ?_
    simp only [hq]
    split
    · rfl
    · by_cases hm : m < s.h.next + ops.size
      · have : m - s.h.next < ops.size := by omega
        simp [hm, this]
      · simp [hm]

end
end Go.Proofs.YtbgaljpilmmefaaM
