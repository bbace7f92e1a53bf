import Derived.Test.YtonpnjfclelpiaaGreatVDMvb
namespace Go.Proofs.YtonpnjfclelpiaaGreatM
open Go
set_option linter.unusedVariables false
set_option linter.unusedSimpArgs false
section
variable {Γ : TypeId → Option TI} {E : TypeId → Nat} {C : Rel} {D : DrawR} {h0 : Hp} {ow0 : Nat → Ow} {G : Nat → Value} {s : S} {base i : Nat} {l : List POp} {st st' : St}
def so2 (Γ : TypeId → Option TI) (st : St) (t : TypeId) (a x : DV) : Option St := match a with
 | .ptr q w o => (take2 LB st x).bind fun tk => if (tk.2.2 q || q.1 == LB) = true then none else (node tk.2.1 q).bind fun nd => if offN w nd = some o then (atD w nd).bind fun d0 => (Γ t).bind fun i => if szD tk.1 = szD d0 ∧ szD tk.1 = i.size then (setD w nd tk.1).bind fun nd' => nset (fun p => belB (q.1, q.2 ++ w) p || atL p) tk.2.1 q nd' else none else none
 | _ => none
theorem og_store {Q : S → Prop} {t : TypeId} {a x : Operand} (ha : so2 Γ st t (ev2 st a) (ev2 st x) = some st') (hn : OG Γ E C h0 ow0 G base (i + 1) l st' Q) : OG Γ E C h0 ow0 G base i (⟨none, none, .store t a x⟩ :: l) st Q := by
 intro s ⟨ow, m⟩ hf
 unfold so2 at ha
 split at ha
 ·rename_i q w o hea
  obtain ⟨⟨d, st1, a'⟩, h1, ha⟩ := Option.bind_eq_some_iff.1 ha
  split at ha
  ·cases ha
  ·rename_i hqa
   simp only [Bool.or_eq_true, beq_iff_eq, not_or, Bool.not_eq_true] at hqa
   obtain ⟨nd, h2, ha⟩ := Option.bind_eq_some_iff.1 ha
   split at ha
   ·rename_i ho
    obtain ⟨d0, h3, ha⟩ := Option.bind_eq_some_iff.1 ha
    obtain ⟨ti, h4, ha⟩ := Option.bind_eq_some_iff.1 ha
    split at ha
    ·rename_i hsz
     obtain ⟨nd', h5, h6⟩ := Option.bind_eq_some_iff.1 ha
     simp only at hqa h2 hsz h5 h6
     obtain ⟨g1, g2⟩ := ev2_ok m.core x (0, [])
     obtain ⟨ow', k1, k2, k3⟩ := take_ok m (π := []) g2 g1 h1
     obtain ⟨n, z, k, cells, b1, b2, b3, b4, b5⟩ := k1.core.store h2 ho h3 hsz.1 h5 h6 k2
     have hea2 := (ev2_ok m.core a (0, [])).1
     rw [hea] at hea2
     rcases hea2 with ⟨kk, hk⟩ | ⟨cs, e1, e2⟩
     ·cases hk
     ·unfold DR at e1
      obtain ⟨_, n', z', k', _, e3, rfl⟩ := e1
      have e4 := k1.kept n' q z' k' hqa.1 hqa.2 hqa.2 e3
      obtain rfl := k1.core.inj _ _ _ _ _ _ _ b2 e4
      have hlen := k2.len
      have hval : s.ev a = .pointer (some ⟨n, o, none⟩) := e2
      have hst : stv Γ t (s.ev a) (s.ev x) s.h = some (s.h.put n (some ⟨splice cells o (s.ev x).cells.toList, true⟩)) := by
       unfold stv
       rw [hval]
       simp only [h4, b3, Option.bind_some]
       have : (s.ev x).cells.size = ti.size := by rw [← Array.length_toList, hlen, hsz.2]
       rw [if_pos (by simp [k3, this]; rw [← this, ← Array.length_toList]; exact b4)]
      have hop : opV Γ E (base + i) s.ev (.store t a x) s.h = some (undef, s.h.put n (some ⟨splice cells o (s.ev x).cells.toList, true⟩)) := by
       unfold opV
       simp only [pureV, makeV, effV, hst]; rfl
      unfold OpsP
      simp only [gdV, calleeV, hop]
      have hne : ∀ m, s.h.blk m = none → m ≠ n := fun m hm hh => by subst hh; rw [b3] at hm; cases hm
      refine hn _ ⟨stO (q.1, q.2 ++ w) ow', ?_, ?_, ?_⟩ (hf.step (Nat.le_refl _) (fun m hm hb _ => ?_))
      ·exact b5
      ·refine m.frm.go (Nat.le_refl _) (fun m' hlt => ?_) (fun m' hlt hh => (hput_blk_ne (hne m' hh)).trans hh)
       refine ⟨fun hh => ⟨stO_fz (k1.fz m' hh), hput_blk_ne ?_⟩, fun hh => ⟨stO_no (k1.no m' hh), hput_blk_ne ?_⟩⟩
       ·rintro rfl; rw [k1.fz _ hh] at b2; cases b2
       ·rintro rfl; rw [k1.no _ hh] at b2; cases b2
      ·intro m' hle
       exact (hput_blk_ne (hne m' (m.top m' hle))).trans (m.top m' hle)
      ·exact (hput_blk_ne (hne _ hb)).trans hb
    ·cases ha
   ·cases ha
 ·cases ha
end
section
variable {val val' : Nat → Value} {h h' : Hp} {ow ow' : Nat → Ow} {B B' : Nat} {st st' : St}
theorem Core.tr' (C : Core val h ow B st) {a : Pt → Bool} (t : Tr a h ow h' ow') (m : ∀ r d, get st r = some d → Mv h ow h' ow' (r, []) (r, [])) (hi : ∀ n m p z k z' k', ow' n = .of p z k → ow' m = .of p z' k' → n = m) (hnn : ∀ n, h'.blk n = none → ow' n = .no)
  (hB : B ≤ B') (hv : ∀ r d, get st r = some d → val' r = val r) : Core val' h' ow' B' (klS a st) := by
 refine ⟨fun r x hx => ?_, hi, hnn, fun r x hx => ?_⟩
 ·rw [get_klS] at hx
  obtain ⟨d0, h6, rfl⟩ := Option.map_eq_some_iff.1 hx
  rw [hv r d0 h6]
  exact (C.regs r d0 h6).kl t hB (m r d0 h6)
 ·rw [get_klS] at hx
  obtain ⟨d0, h6, rfl⟩ := Option.map_eq_some_iff.1 hx
  exact C.lim r d0 h6
theorem mvO_inj {q T : Pt} (hi : ∀ n m p z k z' k', ow n = .of p z k → ow m = .of p z' k' → n = m) (hT : ∀ n p z k, ow n = .of p z k → ¬ Bel T p) : ∀ n m p z k z' k', mvO q T ow n = .of p z k → mvO q T ow m = .of p z' k' → n = m := by
 intro n m p z k z' k' h1 h2
 rcases mvO_of h1 with ⟨w, e1, e2⟩ | ⟨e1, e2⟩ <;> rcases mvO_of h2 with ⟨v, f1, f2⟩ | ⟨f1, f2⟩
 ·rw [e1] at f1
  injection f1 with _ f1
  have := List.append_cancel_left f1
  subst this
  exact hi _ _ _ _ _ _ _ e2 f2
 ·subst e1; exact absurd (Bel.ext T w) (hT _ _ _ _ f1)
 ·subst f1; exact absurd (Bel.ext T v) (hT _ _ _ _ e1)
 ·exact hi _ _ _ _ _ _ _ e1 f1
def rnR (src r : Nat) (st : St) : Option St := if src = r then none else (get (clr r st) src).map fun d => (r, kl (belB (src, [])) d) :: klS (belB (src, [])) (rm src (clr r st))
theorem Core.rnR (C : Core val h ow B st) {src r : Nat} (hr : r ≠ LB) (hs : Go.Proofs.YtonpnjfclelpiaaGreatM.rnR src r st = some st') (hv : ∀ q, q ≠ r → val' q = val q) (hvr : val' r = val src) : Core val' h (mvO (src, []) (r, []) (dropO (atR r) ow)) B st' := by
 unfold Go.Proofs.YtonpnjfclelpiaaGreatM.rnR at hs
 split at hs
 ·cases hs
 ·rename_i hne
  obtain ⟨d, h1, rfl⟩ := Option.map_eq_some_iff.1 hs
  have C1 := C.clr (val' := val) (r := r) (fun _ _ => rfl)
  have hfz : FzSame h (dropO (atR r) ow) h (mvO (src, []) (r, []) (dropO (atR r) ow)) := fun n hh => ⟨mvO_fz.2 hh, rfl⟩
  have hT : ∀ n p z k, dropO (atR r) ow n = .of p z k → ¬ Bel (r, []) p := fun n p z k hn hb => (drop_free hn).1 hb.1.symm
  have htr : Tr (belB (src, [])) h (dropO (atR r) ow) h (mvO (src, []) (r, []) (dropO (atR r) ow)) := ⟨hfz, fun n p z k g1 g2 => mvO_out g2 (belB_not.1 g1)⟩
  have C2 : Core val h (dropO (atR r) ow) B (rm src (Go.Proofs.YtonpnjfclelpiaaGreatM.clr r st)) := C1.sub (fun q x hx => by
   rw [get_rm] at hx
   by_cases hq : q = src
   ·rw [if_pos hq] at hx; cases hx
   ·rw [if_neg hq] at hx; exact hx)
  have hsrc : ∀ q x, get (rm src (Go.Proofs.YtonpnjfclelpiaaGreatM.clr r st)) q = some x → q ≠ src ∧ q ≠ r := by
   intro q x hx
   rw [get_rm] at hx
   by_cases hq : q = src
   ·rw [if_pos hq] at hx; cases hx
   ·rw [if_neg hq] at hx; exact ⟨hq, (clr_get hx).1⟩
  refine (C2.tr' (val' := val') htr (fun q x hx => ⟨hfz, fun n w z k hn => ⟨mvO_out hn ?_, rfl⟩⟩) (mvO_inj C1.inj hT) (fun n hn => mvO_no.2 (C1.nn n hn)) (Nat.le_refl _) (fun q x hx => hv q (hsrc q x hx).2)).add hr ?_
  ·rintro ⟨hh, _⟩; exact (hsrc q x hx).1 hh.symm
  ·rw [hvr]
   exact (C1.regs src d h1).kl htr (Nat.le_refl _) ⟨hfz, fun n w z k hn => ⟨by have := mvO_in (T := (r, [])) (q := (src, [])) hn; exact this, rfl⟩⟩
theorem VRs.get {p : Pt} : ∀ {l : List DV} {i : Nat} {vs : List Value}, VRs h ow B p i l vs → ∀ {j : Nat} {d : DV}, l[j]? = some d → ∃ v, vs[j]? = some v ∧ VRc h ow B (p.1, p.2 ++ [i + j]) d v
 | [], i, vs, e, j, d, hj => by simp at hj
 | a :: l, i, vs, e, j, d, hj => by
  unfold VRs at e; obtain ⟨v, r, rfl, h1, h2⟩ := e
  cases j with
  | zero => simp at hj; subst hj; exact ⟨v, rfl, h1⟩
  | succ j =>
   simp at hj; obtain ⟨v', q1, q2⟩ := h2.get hj
   exact ⟨v', by simpa using q1, by rw [Nat.add_right_comm, Nat.add_assoc] at q2; exact q2⟩
theorem VRs.out {p : Pt} {j0 : Nat} (hk : ∀ k d v, k ≠ j0 → noRef d = true → VRc h ow B (p.1, p.2 ++ [k]) d v → VRc h' ow' B (p.1, p.2 ++ [k]) d v) : ∀ {l : List DV} {i j : Nat} {vs : List Value}, i + j = j0 → noRefs l = true → VRs h ow B p i l vs → VRs h' ow' B p i (l.set j (.junk 1)) vs
 | [], i, j, vs, hj, hn, e => by unfold VRs at e; subst e; simp [VRs]
 | a :: l, i, 0, vs, hj, hn, e => by
  unfold noRefs at hn; rw [Bool.and_eq_true] at hn
  unfold VRs at e; obtain ⟨v, r, rfl, h1, h2⟩ := e
  rw [List.set_cons_zero]; unfold VRs
  refine ⟨v, r, rfl, .inl ⟨1, rfl⟩, ?_⟩
  have : ∀ {l : List DV} {i2 : Nat} {vs : List Value}, j0 < i2 → noRefs l = true → VRs h ow B p i2 l vs → VRs h' ow' B p i2 l vs := by
   intro l
   induction l with
   | nil => intro i2 vs _ _ e; unfold VRs at *; exact e
   | cons x l ih =>
    intro i2 vs hi hn e
    unfold noRefs at hn; rw [Bool.and_eq_true] at hn
    unfold VRs at e ⊢
    obtain ⟨c1, r1, q1, q2, q3⟩ := e
    exact ⟨c1, r1, q1, hk i2 _ _ (by omega) hn.1 q2, ih (by omega) hn.2 q3⟩
  exact this (by omega) hn.2 h2
 | a :: l, i, j + 1, vs, hj, hn, e => by
  unfold noRefs at hn; rw [Bool.and_eq_true] at hn
  unfold VRs at e; obtain ⟨v, r, rfl, h1, h2⟩ := e
  rw [List.set_cons_succ]; unfold VRs
  exact ⟨v, r, rfl, hk i _ _ (by omega) hn.1 h1, h2.out hk (by omega) hn.2⟩
def ex2 (src j r : Nat) (st : St) : Option St := if src = r then none else match get (clr r st) src with
 | some (.tup l) => (l[j]?).bind fun d => if noRefs l = true then some ((r, d) :: klS (belB (src, [j])) (setR src (.tup (l.set j (.junk 1))) (clr r st))) else none
 | _ => none
theorem noRefs_get : ∀ {l : List DV} {j : Nat} {d : DV}, noRefs l = true → l[j]? = some d → noRef d = true
 | [], j, d, _, hj => by simp at hj
 | a :: l, 0, d, hl, hj => by unfold noRefs at hl; rw [Bool.and_eq_true] at hl; simp at hj; subst hj; exact hl.1
 | a :: l, j + 1, d, hl, hj => by unfold noRefs at hl; rw [Bool.and_eq_true] at hl; simp at hj; exact noRefs_get hl.2 hj
theorem noRefs_set : ∀ {l : List DV} {j : Nat}, noRefs l = true → noRefs (l.set j (.junk 1)) = true
 | [], j, h => h
 | a :: l, 0, h => by unfold noRefs at h; rw [Bool.and_eq_true] at h; rw [List.set_cons_zero]; unfold noRefs noRef; rw [h.2]; rfl
 | a :: l, j + 1, h => by unfold noRefs at h; rw [Bool.and_eq_true] at h; rw [List.set_cons_succ]; unfold noRefs; rw [h.1, noRefs_set h.2]; rfl
theorem Core.ex2 (C : Core val h ow B st) {src j r : Nat} (hr : r ≠ LB) (hs : Go.Proofs.YtonpnjfclelpiaaGreatM.ex2 src j r st = some st') (hv : ∀ q, q ≠ r → val' q = val q) {vs : Array Value} (hsrc : val src = .tuple vs) (hvr : ∀ v, vs[j]? = some v → val' r = v) :
  (∃ v, vs[j]? = some v) ∧ Core val' h (mvO (src, [j]) (r, []) (dropO (atR r) ow)) B st' := by
 unfold Go.Proofs.YtonpnjfclelpiaaGreatM.ex2 at hs
 split at hs
 ·cases hs
 ·rename_i hne
  split at hs
  ·rename_i l hl
   obtain ⟨d, h1, h2⟩ := Option.bind_eq_some_iff.1 hs
   split at h2
   ·rename_i hnr
    injection h2 with h2; subst h2
    have C1 := C.clr (val' := val) (r := r) (fun _ _ => rfl)
    obtain ⟨l', vs', e1, e2, e3⟩ : ∃ l' vs', DV.tup l = .tup l' ∧ val src = .tuple vs' ∧ VRs h (dropO (atR r) ow) B (src, []) 0 l' vs'.toList := by
     rcases C1.regs src _ hl with hh | ⟨k, hk⟩ | ⟨cs, hk, _⟩
     ·exact hh
     ·cases hk
     ·unfold DR at hk; exact hk.elim
    injection e1 with e1; subst e1
    rw [hsrc] at e2; injection e2 with e2; subst e2
    obtain ⟨v', e4, e5⟩ := e3.get h1
    have e4' : vs[j]? = some v' := by rw [← Array.getElem?_toList]; exact e4
    refine ⟨⟨v', e4'⟩, ?_⟩
    have hT : ∀ n p z k, dropO (atR r) ow n = .of p z k → ¬ Bel (r, []) p := fun n p z k hn hb => (drop_free hn).1 hb.1.symm
    have hfz : FzSame h (dropO (atR r) ow) h (mvO (src, [j]) (r, []) (dropO (atR r) ow)) := fun n hh => ⟨mvO_fz.2 hh, rfl⟩
    have htr : Tr (belB (src, [j])) h (dropO (atR r) ow) h (mvO (src, [j]) (r, []) (dropO (atR r) ow)) := ⟨hfz, fun n p z k g1 g2 => mvO_out g2 (belB_not.1 g1)⟩
    have hsub : ∀ q x, get (setR src (.tup (l.set j (.junk 1))) (Go.Proofs.YtonpnjfclelpiaaGreatM.clr r st)) q = some x → q ≠ r := by
     intro q x hx
     rw [get_setR hl] at hx
     by_cases hq : q = src
     ·rw [hq]; exact hne
     ·rw [if_neg hq] at hx; exact (clr_get hx).1
    have C3 : Core val h (mvO (src, [j]) (r, []) (dropO (atR r) ow)) B (klS (belB (src, [j])) (setR src (.tup (l.set j (.junk 1))) (Go.Proofs.YtonpnjfclelpiaaGreatM.clr r st))) := by
     refine ⟨fun q x hx => ?_, mvO_inj C1.inj hT, fun n hn => mvO_no.2 (C1.nn n hn), fun q x hx => ?_⟩
     ·rw [get_klS] at hx
      obtain ⟨x0, hx0, rfl⟩ := Option.map_eq_some_iff.1 hx
      rw [get_setR hl] at hx0
      by_cases hq : q = src
      ·subst hq
       rw [if_pos rfl] at hx0; injection hx0 with hx0; subst hx0
       rw [kl_noRef _ (by unfold noRef; exact noRefs_set hnr)]
       left
       refine ⟨_, vs, rfl, hsrc, e3.out (j0 := j) (fun k d v hk hnd hvc => ?_) (by omega) hnr⟩
       have := hvc.kl (B' := B) (p' := (q, [k])) htr (Nat.le_refl _) ⟨hfz, fun n w z k' hn => ⟨mvO_out hn (by rintro ⟨_, u, hu⟩; simp at hu; exact hk hu.1), rfl⟩⟩
       rw [kl_noRef _ hnd] at this
       exact this
      ·rw [if_neg hq] at hx0
       exact (C1.regs q x0 hx0).kl htr (Nat.le_refl _) ⟨hfz, fun n w z k hn => ⟨mvO_out hn (fun hb => hq hb.1.symm), rfl⟩⟩
     ·rw [get_klS] at hx
      obtain ⟨x0, hx0, rfl⟩ := Option.map_eq_some_iff.1 hx
      rw [get_setR hl] at hx0
      by_cases hq : q = src
      ·rw [hq]; exact C1.lim _ _ hl
      ·rw [if_neg hq] at hx0; exact C1.lim _ _ hx0
    refine ((C3.reval (val' := val') fun q x hx => ?_).add hr ?_)
    ·rw [get_klS] at hx
     obtain ⟨x0, hx0, _⟩ := Option.map_eq_some_iff.1 hx
     exact hv q (hsub q x0 hx0)
    ·rw [hvr v' e4']
     right
     have := e5.kl (B' := B) (p' := (r, [])) htr (Nat.le_refl _) ⟨hfz, fun n w z k' hn => ⟨by have := mvO_in (T := (r, [])) (q := (src, [j])) (w := w) (by simpa using hn); exact this, rfl⟩⟩
     rw [kl_noRef _ (noRefs_get hnr h1)] at this
     exact this
   ·cases h2
  ·cases hs
end
end Go.Proofs.YtonpnjfclelpiaaGreatM
