import Derived.Test.YtonpnjfclelpiaaGreatVDMv8
namespace Go.Proofs.YtonpnjfclelpiaaGreatM
open Go
set_option linter.unusedVariables false
set_option linter.unusedSimpArgs false
theorem cells_sub2 {h : Hp} {n o z k w : Nat} {cs : List Value} (hc : h.cells n o z = some cs) (hk : k + w ≤ z) : h.cells n (o + k) w = some ((cs.drop k).take w) := by
 unfold Hp.cells at hc ⊢
 cases hb : h.blk n with
 | none => rw [hb] at hc; cases hc
 | some b =>
  rw [hb] at hc
  simp only [Option.bind_some] at hc ⊢
  split at hc
  ·injection hc with hc
   subst hc
   rw [if_pos (by omega), List.drop_take, List.take_take, List.drop_drop, Nat.min_eq_left (by omega)]
  ·cases hc
theorem cells_one {h : Hp} {n o : Nat} {v : Value} (hc : h.cells n o 1 = some [v]) : h.cell n o = some v := by
 unfold Hp.cells at hc
 unfold Hp.cell
 cases hb : h.blk n with
 | none => rw [hb] at hc; cases hc
 | some b =>
  rw [hb] at hc
  simp only [Option.bind_some] at hc ⊢
  split at hc
  ·injection hc with hc
   have : ((b.cells.drop o).take 1)[0]? = some v := by rw [hc]; rfl
   rw [List.getElem?_take, if_pos (by omega), List.getElem?_drop] at this
   simpa using this
  ·cases hc
section
variable {Γ : TypeId → Option TI} {E : TypeId → Nat} {h h' : Hp} {ow ow' : Nat → Ow} {B B' : Nat} {st st' : St} {p : Pt}
theorem mkv_agg {cs : List Value} {b : Bool} (hb : b = true) : mkv b cs = .agg cs.toArray := by unfold mkv; rw [if_pos hb]
theorem mkv_one {v : Value} {b : Bool} (hb : b = false) : mkv b [v] = v := by unfold mkv; rw [if_neg (by rw [hb]; simp)]; rfl
theorem szF_one {d : FV} (hd : isAggF d = false) : szF d = 1 := by cases d <;> first | rfl | cases hd
theorem FR.one {d : FV} {cs : List Value} (hd : isAggF d = false) (e : FR h ow B d cs) : ∃ v, cs = [v] := by
 have := e.len
 rw [szF_one hd] at this
 exact List.length_eq_one_iff.1 this
theorem fa2_ok {t : TypeId} {f : Nat} {a d : DV} {x : Value} {s : Operand → Value} {y : Operand} (hb : fa2 Γ t f a = some d) (hx : s y = x) (e : VRc h ow B p a x) : ∃ v, pureV Γ E s (.fieldAddr t y f) = some v ∧ VRc h ow B p d v ∧ noOwn d = true := by
 unfold fa2 at hb
 split at hb
 ·rename_i fs _ _ _ hg
  obtain ⟨⟨off, u⟩, h1, hb1⟩ := Option.bind_eq_some_iff.1 hb; clear hb
  obtain ⟨i, h2, hb⟩ := Option.bind_eq_some_iff.1 hb1; clear hb1
  split at hb
  ·cases hb
  ·rename_i hz
   simp only at h2
   split at hb
   ·rename_i q w o
    injection hb with hb; subst hb
    rcases e with ⟨k, hk⟩ | ⟨cs, e1, e2⟩
    ·cases hk
    ·unfold DR at e1
     obtain ⟨_, n, z, k, g1, g2, rfl⟩ := e1
     refine ⟨.pointer (some ⟨n, o + off, none⟩), ?_, .inr ⟨[.pointer (some ⟨n, o + off, none⟩)], ?_, rfl⟩, by unfold noOwn; rfl⟩
     ·simp only [pureV, hx, e2, mkv, isAgg, hg]
      simp [h1, h2, hz]
     ·unfold DR; exact ⟨rfl, n, z, k, g1, g2, rfl⟩
   ·rename_i l
    obtain ⟨d', h3, hb2⟩ := Option.bind_eq_some_iff.1 hb; replace hb := hb2
    split at hb
    ·rename_i ho
     injection hb with hb; subst hb
     rcases e with ⟨k, hk⟩ | ⟨cs, e1, e2⟩
     ·cases hk
     ·unfold DR FR at e1
      obtain ⟨n, o, cs', rfl, g2, g3, g4, g5⟩ := e1
      unfold FR at g5
      obtain ⟨css, rfl, g6⟩ := g5
      obtain ⟨c, h4, h5⟩ := g6.get h3
      obtain ⟨q1, q2⟩ := flat_off h4
      have q3 : (css.take f).flatten.length = szFs (l.take f) := (g6.take f).len
      rw [q3, ho] at q1 q2
      refine ⟨.pointer (some ⟨n, o + off, none⟩), ?_, .inr ⟨[.pointer (some ⟨n, o + off, none⟩)], ?_, rfl⟩, by unfold noOwn; rfl⟩
      ·simp only [pureV, hx, e2, mkv, isAgg, isAggF, hg]
       simp [h1, h2, hz]
      ·unfold DR FR
       exact ⟨n, o + off, c, rfl, g2, g3, by rw [cells_sub2 g4 q1, q2], h5⟩
    ·cases hb
   ·cases hb
 ·cases hb
theorem pure_field {t u : TypeId} {f off b1 b2 : Nat} {fs : List (Nat × TypeId)} {z : List Value} {i : TI} {cs : List Value} {s : Operand → Value} {y : Operand} (hx : s y = .agg cs.toArray) (hg : Γ t = some ⟨.struct fs, b1, b2, z⟩) (h1 : fs[f]? = some (off, u)) (h2 : Γ u = some i) :
  pureV Γ E s (.field t y f) = (if i.sh.agg = true then (if off + i.size ≤ cs.length then some (.agg ((cs.drop off).take i.size).toArray) else none) else cs[off]?) := by
 unfold pureV
 simp [hx, hg, h1, h2]
theorem pure_ia {t te : TypeId} {b1 b2 n o len c : Nat} {z : List Value} {ie : TI} {k : IntKind} {j : Int} {s : Operand → Value} {y x : Operand} (hx : s y = .slice (some ⟨n, o, none⟩) len c) (hj : s x = .int k j) (hg : Γ t = some ⟨.slice te, b1, b2, z⟩) (h2 : Γ te = some ie) (h0 : 0 ≤ j) (h1 : j < len) :
  pureV Γ E s (.indexAddr t y x) = some (.pointer (some ⟨n, o + j.toNat * ie.size, none⟩)) := by
 unfold pureV
 simp [hx, hj, hg, h2, h0, h1]
theorem fd2_ok {t : TypeId} {f : Nat} {a d : DV} {x : Value} {s : Operand → Value} {y : Operand} (ha : noOwn a = true) (hb : fd2 Γ t f a = some d) (hx : s y = x) (e : VRc h ow B p a x) : ∃ v, pureV Γ E s (.field t y f) = some v ∧ VRc h ow B p d v ∧ noOwn d = true := by
 unfold fd2 at hb
 split at hb
 ·rename_i fs _ _ _ hg
  obtain ⟨⟨off, u⟩, h1, hb1⟩ := Option.bind_eq_some_iff.1 hb; clear hb
  obtain ⟨i, h2, hb⟩ := Option.bind_eq_some_iff.1 hb1; clear hb1
  simp only at h2
  split at hb
  ·rename_i l
   obtain ⟨d', h3, hb2⟩ := Option.bind_eq_some_iff.1 hb; replace hb := hb2
   split at hb
   ·rename_i hc
    obtain ⟨c1, c2, c3, c4⟩ := hc
    simp only at c1
    injection hb with hb; subst hb
    rcases e with ⟨k, hk⟩ | ⟨cs, e1, e2⟩
    ·cases hk
    ·unfold DR FR at e1
     obtain ⟨css, rfl, g6⟩ := e1
     obtain ⟨c, h4, h5⟩ := g6.get h3
     obtain ⟨q1, q2⟩ := flat_off h4
     have q3 : (css.take f).flatten.length = szFs (l.take f) := (g6.take f).len
     rw [q3, c1] at q1 q2
     have hcl := h5.len
     refine ⟨mkv (isAggF d') c, ?_, .inr ⟨c, by unfold DR; exact h5, rfl⟩, by unfold noOwn; rfl⟩
     rw [pure_field (cs := css.flatten) (hx.trans e2) hg h1 h2]
     cases hag : isAggF d' with
     | true =>
      rw [hag] at c2
      simp only [c2, if_true]
      rw [if_pos (by omega), mkv_agg rfl, c3, ← hcl, q2]
     | false =>
      rw [hag] at c2
      obtain ⟨v, rfl⟩ := h5.one hag
      simp only [c2, Bool.false_eq_true, if_false]
      rw [mkv_one rfl]
      have : ((css.flatten.drop off).take 1)[0]? = some v := by simp only [List.length_singleton] at q2; rw [q2]; rfl
      rw [List.getElem?_take, if_pos (by omega), List.getElem?_drop] at this
      simpa using this
   ·cases hb
  ·rename_i l
   obtain ⟨d', h3, hb2⟩ := Option.bind_eq_some_iff.1 hb; replace hb := hb2
   split at hb
   ·rename_i hc
    obtain ⟨c1, c2, c3, c4⟩ := hc
    simp only at c1
    injection hb with hb; subst hb
    have hno : noOwn d' = true := by
     unfold noOwn at ha
     have : ∀ (l : List DV) (f : Nat), noOwns l = true → l[f]? = some d' → noOwn d' = true := by
      intro l
      induction l with
      | nil => intro f _ hf; simp at hf
      | cons a l ih =>
       intro f hl hf
       unfold noOwns at hl; rw [Bool.and_eq_true] at hl
       cases f with
       | zero => simp at hf; subst hf; exact hl.1
       | succ f => simp at hf; exact ih f hl.2 hf
     exact this l f ha h3
    rcases e with ⟨k, hk⟩ | ⟨cs, e1, e2⟩
    ·cases hk
    ·unfold DR at e1
     obtain ⟨css, rfl, g6⟩ := e1
     obtain ⟨c, h4, h5⟩ := g6.get h3
     obtain ⟨q1, q2⟩ := flat_off h4
     have q3 : (css.take f).flatten.length = szDs (l.take f) := (g6.take f).len
     rw [q3, c1] at q1 q2
     have hcl := h5.len
     have h6 : DR h ow B true p d' c := by
      have := h5.free (a := fun _ => false) (h' := h) (ow' := ow) (p' := p) ⟨fun _ hh => ⟨hh, rfl⟩, fun _ _ _ _ _ hh => hh⟩ (Nat.le_refl _) hno
      have e : kl (fun _ => false) d' = d' := by
       have hh := DV.rec (motive_1 := fun d => kl (fun _ => false) d = d) (motive_2 := fun l => kls (fun _ => false) l = l) (fun _ => by unfold kl; rfl) (fun _ _ _ => by unfold kl; rfl) (fun l ih => by unfold kl; rw [ih]) (fun _ _ => by unfold kl; rfl) (fun _ _ _ => by unfold kl; simp) (fun _ _ _ => by unfold kl; simp) (fun l ih => by unfold kl; rw [ih]) (fun _ => by unfold kl; rfl) (by unfold kls; rfl) (fun a l h1 h2 => by unfold kls; rw [h1, h2]) d'
       exact hh
      rw [e] at this; exact this
     refine ⟨mkv (isAgg d') c, ?_, .inr ⟨c, h6, rfl⟩, hno⟩
     rw [pure_field (cs := css.flatten) (hx.trans e2) hg h1 h2]
     cases hag : isAgg d' with
     | true =>
      rw [hag] at c2
      simp only [c2, if_true]
      rw [if_pos (by omega), mkv_agg rfl, c3, ← hcl, q2]
     | false =>
      rw [hag] at c2
      have hs1 : c.length = 1 := by
       rcases c4 with c4 | c4
       ·omega
       ·rw [c4] at c2; cases c2
      obtain ⟨v, rfl⟩ := List.length_eq_one_iff.1 hs1
      simp only [c2, Bool.false_eq_true, if_false]
      rw [mkv_one rfl]
      have : ((css.flatten.drop off).take 1)[0]? = some v := by simp only [List.length_singleton] at q2; rw [q2]; rfl
      rw [List.getElem?_take, if_pos (by omega), List.getElem?_drop] at this
      simpa using this
   ·cases hb
  ·cases hb
 ·cases hb
theorem es_some {t : TypeId} {z : Nat} (h : es Γ t = some z) : ∃ e a b c ie, Γ t = some ⟨.slice e, a, b, c⟩ ∧ Γ e = some ie ∧ ie.size = z := by
 unfold es at h
 split at h
 ·rename_i e _ _ _ hg
  obtain ⟨ie, h1, h2⟩ := Option.map_eq_some_iff.1 h
  exact ⟨e, _, _, _, ie, hg, h1, h2⟩
 ·cases h
theorem ia2_ok {t : TypeId} {a i d : DV} {x u : Value} {s : Operand → Value} {y j : Operand} (hb : ia2 Γ t a i = some d) (hx : s y = x) (hj : s j = u) (e : VRc h ow B p a x) (ei : VRc h ow B p i u) : ∃ v, pureV Γ E s (.indexAddr t y j) = some v ∧ VRc h ow B p d v ∧ noOwn d = true := by
 unfold ia2 at hb
 split at hb
 ·rename_i z k j' hes
  have hu : u = .int k j' := sv_ok (d := .fv (.int k j')) rfl ei
  obtain ⟨te, ta, tb, tc, ie, t1, t2, t3⟩ := es_some hes
  split at hb
  ·rename_i q z' kk
   split at hb
   ·rename_i hc
    obtain ⟨rfl, c1, c2⟩ := hc
    injection hb with hb; subst hb
    rcases e with ⟨k, hk⟩ | ⟨cs, e1, e2⟩
    ·cases hk
    ·unfold DR at e1
     obtain ⟨_, n, g1, g2, rfl⟩ := e1
     refine ⟨.pointer (some ⟨n, 0 + j'.toNat * z', none⟩), ?_, .inr ⟨[.pointer (some ⟨n, 0 + j'.toNat * z', none⟩)], ?_, rfl⟩, by unfold noOwn; rfl⟩
     ·rw [pure_ia (n := n) (o := 0) (len := kk) (c := U z') (hx.trans e2) (hj.trans hu) t1 t2 c1 c2, t3]
     ·unfold DR; exact ⟨rfl, n, _, _, g1, g2, by simp⟩
   ·cases hb
  ·rename_i z' l
   split at hb
   ·rename_i hc
    obtain ⟨rfl, c1⟩ := hc
    obtain ⟨d', h3, rfl⟩ := Option.map_eq_some_iff.1 hb
    have hjl : j'.toNat < l.length := (List.getElem?_eq_some_iff.1 h3).1
    rcases e with ⟨k, hk⟩ | ⟨cs, e1, e2⟩
    ·cases hk
    ·unfold DR FR at e1
     rcases e1 with ⟨e0, _⟩ | ⟨n, o, c, css, rfl, g2, g3, g4, g5⟩
     ·subst e0; simp at hjl
     obtain ⟨g6, g7, g8⟩ := g5 (by rintro rfl; simp at hjl)
     obtain ⟨cc, h4, h5⟩ := g3.get h3
     obtain ⟨q1, q2⟩ := flat_off h4
     have hcl : j'.toNat < css.length := (List.getElem?_eq_some_iff.1 h4).1
     have hz : cc.length = z' := g4 cc (List.mem_of_getElem? h4)
     rw [flat_mulT g4 (by omega)] at q1 q2
     have q3 : css.flatten.length = l.length * z' := by rw [flat_mul g4, g3.count]
     refine ⟨.pointer (some ⟨n, o + j'.toNat * z', none⟩), ?_, .inr ⟨[.pointer (some ⟨n, o + j'.toNat * z', none⟩)], ?_, rfl⟩, by unfold noOwn; rfl⟩
     ·rw [pure_ia (n := n) (o := o) (len := l.length) (c := c) (hx.trans e2) (hj.trans hu) t1 t2 c1 (by omega), t3]
     ·unfold DR FR
      exact ⟨n, _, cc, rfl, g6, g7, by rw [cells_sub2 g8 (by rw [← q3]; exact q1), q2], h5⟩
   ·cases hb
  ·cases hb
 ·cases hb
theorem ix2_ok {t : TypeId} {a i d : DV} {x u : Value} {s : Operand → Value} {y j : Operand} (hb : ix2 Γ t a i = some d) (hx : s y = x) (hj : s j = u) (e : VRc h ow B p a x) (ei : VRc h ow B p i u) : ∃ v, pureV Γ E s (.index t y j) = some v ∧ VRc h ow B p d v ∧ noOwn d = true := by
 unfold ix2 at hb
 split at hb
 ·rename_i ss k j' hg
  have hu : u = .int k j' := sv_ok (d := .fv (.int k j')) rfl ei
  have hx' : x = .string ss := sv_ok (d := .fv (.str ss)) rfl e
  split at hb
  ·rename_i hj0
   obtain ⟨b, h1, rfl⟩ := Option.map_eq_some_iff.1 hb
   refine ⟨.int .u8 b.toNat, ?_, ofV_ok p (.int .u8 b.toNat), by unfold noOwn; rfl⟩
   simp only [pureV, hx, hj, hu, hx', hg, if_pos hj0, h1, Option.map_some]
  ·cases hb
 ·cases hb
theorem len2_ok {t : TypeId} {a d : DV} {x : Value} (hb : len2 Γ t a = some d) (e : VRc h ow B p a x) : ∃ v, lenO (isStr Γ t) x = some v ∧ VRc h ow B p d v ∧ noOwn d = true := by
 unfold len2 at hb
 split at hb
 ·rename_i ss hs
  injection hb with hb; subst hb
  have hx : x = .string ss := sv_ok (d := .fv (.str ss)) rfl e
  subst hx
  exact ⟨.int .i64 ss.size, by rw [hs]; rfl, ofV_ok p (.int .i64 ss.size), by unfold noOwn; rfl⟩
 ·rename_i hs
  injection hb with hb; subst hb
  have hx : x = .slice none 0 0 := sv_ok (d := .fv .nil) rfl e
  subst hx
  exact ⟨.int .i64 0, by rw [hs]; rfl, ofV_ok p (.int .i64 0), by unfold noOwn; rfl⟩
 ·rename_i z l hs
  injection hb with hb; subst hb
  rcases e with ⟨k, hk⟩ | ⟨cs, e1, e2⟩
  ·cases hk
  ·unfold DR FR at e1
   rcases e1 with ⟨e0, rfl⟩ | ⟨n, o, c, css, rfl, _⟩
   ·subst e0; exact ⟨.int .i64 0, by rw [hs, e2]; rfl, ofV_ok p (.int .i64 0), by unfold noOwn; rfl⟩
   ·exact ⟨.int .i64 l.length, by rw [hs, e2]; rfl, ofV_ok p (.int .i64 l.length), by unfold noOwn; rfl⟩
 ·rename_i q z k hs
  injection hb with hb; subst hb
  rcases e with ⟨k, hk⟩ | ⟨cs, e1, e2⟩
  ·cases hk
  ·unfold DR at e1
   obtain ⟨_, n, _, _, rfl⟩ := e1
   exact ⟨.int .i64 k, by rw [hs, e2]; rfl, ofV_ok p (.int .i64 k), by unfold noOwn; rfl⟩
 ·cases hb
theorem mm2_ok {w : Bool} {a b d : DV} {x y : Value} (hb : mm2 w a b = some d) (ea : VRc h ow B p a x) (eb : VRc h ow B p b y) : ∃ v, (if w = true then minO x y else maxO x y) = some v ∧ VRc h ow B p d v ∧ noOwn d = true := by
 unfold mm2 at hb
 split at hb
 ·rename_i k a k' b
  injection hb with hb; subst hb
  have hx : x = .int k a := sv_ok (d := .fv (.int k a)) rfl ea
  have hy : y = .int k' b := sv_ok (d := .fv (.int k' b)) rfl eb
  subst hx; subst hy
  refine ⟨_, ?_, ofV_ok p (.int k (if w = true then (if b < a then b else a) else (if b > a then b else a))), by unfold noOwn; rfl⟩
  cases w <;> rfl
 ·cases hb
theorem nil2_ok {a d : DV} {x : Value} {s : Operand → Value} {y : Operand} (hb : nil2 a = some d) (hx : s y = x) (e : VRc h ow B p a x) : ∃ v, pureV Γ E s (.nilCheck y) = some v ∧ VRc h ow B p d v ∧ noOwn d = true := by
 unfold nil2 at hb
 split at hb
 ·injection hb with hb; subst hb
  rcases e with ⟨k, hk⟩ | ⟨cs, e1, e2⟩
  ·cases hk
  ·have e3 := e1
   unfold DR at e1
   obtain ⟨_, n, z, k, _, _, rfl⟩ := e1
   exact ⟨_, by simp only [pureV, hx, e2, mkv, isAgg]; rfl, .inr ⟨_, e3, rfl⟩, by unfold noOwn; rfl⟩
 ·injection hb with hb; subst hb
  rcases e with ⟨k, hk⟩ | ⟨cs, e1, e2⟩
  ·cases hk
  ·have e3 := e1
   unfold DR FR at e1
   obtain ⟨n, o, c, rfl, _⟩ := e1
   exact ⟨_, by simp only [pureV, hx, e2, mkv, isAgg, isAggF]; rfl, .inr ⟨_, e3, rfl⟩, by unfold noOwn; rfl⟩
 ·injection hb with hb; subst hb
  rcases e with ⟨k, hk⟩ | ⟨cs, e1, e2⟩
  ·cases hk
  ·have e3 := e1
   unfold DR FR at e1
   obtain ⟨ca, cb, rfl, _⟩ := e1
   exact ⟨_, by simp only [pureV, hx, e2, mkv, isAgg, isAggF]; rfl, .inr ⟨_, e3, rfl⟩, by unfold noOwn; rfl⟩
 ·cases hb
theorem cv2_ok {t u : TypeId} {a d : DV} {x : Value} {s : Operand → Value} {y : Operand} (hb : cv2 Γ t u a = some d) (hx : s y = x) (e : VRc h ow B p a x) : ∃ v, pureV Γ E s (.convert t u y) = some v ∧ VRc h ow B p d v ∧ noOwn d = true := by
 unfold cv2 at hb
 split at hb
 ·rename_i k0 _ _ _ k _ _ _ kk n h1 h2
  injection hb with hb; subst hb
  have hx' : x = .int kk n := sv_ok (d := .fv (.int kk n)) rfl e
  exact ⟨.int k (k.wrap n), by simp only [pureV, hx, hx', h1, h2], ofV_ok p (.int k (k.wrap n)), by unfold noOwn; rfl⟩
 ·rename_i b h1 h2
  injection hb with hb; subst hb
  have hx' : x = .string b := sv_ok (d := .fv (.str b)) rfl e
  exact ⟨.string b, by simp only [pureV, hx, hx', h1, h2], ofV_ok p (.string b), by unfold noOwn; rfl⟩
 ·cases hb
def ld2 (Γ : TypeId → Option TI) (st : St) (t : TypeId) (a : DV) : Option DV := (Γ t).bind fun i => match a with
 | .ptr q w o => (node st q).bind fun nd => if offN w nd = some o then (atD w nd).bind fun d => if i.sh.agg = isAgg d ∧ i.size = szD d ∧ (i.size = 1 ∨ i.sh.agg = true) then some (cp (q.1, q.2 ++ w) d) else none else none
 | .fv (.fp d) => if i.sh.agg = isAggF d ∧ i.size = szF d then some (.fv d) else none
 | _ => none
theorem ldv_of {t : TypeId} {i : TI} {n o : Nat} {cs : List Value} {b : Bool} (hg : Γ t = some i) (hb : i.sh.agg = b) (hz : i.size = cs.length) (hc : h.cells n o cs.length = some cs) (h1 : cs.length = 1 ∨ b = true) : ldv Γ t (.pointer (some ⟨n, o, none⟩)) h = some (mkv b cs) := by
 unfold ldv
 simp only [hg]
 cases b with
 | true => rw [if_pos hb, hz, hc, mkv_agg rfl]; rfl
 | false =>
  rw [if_neg (by rw [hb]; simp)]
  rcases h1 with h1 | h1
  ·obtain ⟨v, rfl⟩ := List.length_eq_one_iff.1 h1
   rw [mkv_one rfl]; exact cells_one hc
  ·cases h1
theorem node_cells {q : Pt} {nd d : DV} {hc : List Value} {w : List Nat} {o : Nat} (hL : True) (e : DR h ow B false q nd hc) (ho : offN w nd = some o) (ha : atD w nd = some d) : ∃ n z k cs, ow n = .of q z k ∧ n < B ∧ h.cells n o cs.length = some cs ∧ DR h ow B false (q.1, q.2 ++ w) d cs := by
 cases w with
 | nil => simp [offN] at ho
 | cons i φ =>
  cases nd with
  | own z l =>
   simp only [offN] at ho
   obtain ⟨d1, h1, h2⟩ := Option.bind_eq_some_iff.1 ho
   obtain ⟨o', h3, rfl⟩ := Option.map_eq_some_iff.1 h2
   simp only [atD, h1, Option.bind_some] at ha
   obtain ⟨n, css, g1, g0, g2, g3, g4, g5, g6⟩ := own_blk e
   obtain ⟨c, h5, h6⟩ := g6.get h1
   rw [Nat.zero_add] at h6
   obtain ⟨d2, k1, k2, k3⟩ := DR.inl h6 h3
   rw [ha] at k1; injection k1 with k1; subst k1
   obtain ⟨q1, q2⟩ := flat_off h5
   have hil : i < css.length := (List.getElem?_eq_some_iff.1 h5).1
   rw [flat_mulT g5 (by omega)] at q1 q2
   have hl := k3.len
   refine ⟨n, _, _, _, g3, g2, ?_, by rw [List.append_assoc] at k3; exact k3⟩
   have hcs : h.cells n 0 css.flatten.length = some css.flatten := by
    unfold Hp.cells; rw [g4]
    simp only [Option.bind_some, Nat.zero_add, List.drop_zero, Nat.le_refl, if_true, List.take_length]
   have := cells_sub2 hcs (k := i * z + o') (w := szD d) (by omega)
   rw [Nat.zero_add] at this
   rw [hl, this, ← q2, List.drop_take, List.drop_drop, List.take_take, Nat.min_eq_left (by omega)]
  | box d1 =>
   simp only [offN] at ho
   split at ho
   ·rename_i hi0; subst hi0
    simp only [atD, if_true] at ha
    obtain ⟨n, c, g1, g2, g3, g4, g6⟩ := box_blk e
    obtain ⟨d2, k1, k2, k3⟩ := DR.inl g6 ho
    rw [ha] at k1; injection k1 with k1; subst k1
    have hl := k3.len
    refine ⟨n, _, _, _, g3, g2, ?_, by rw [List.append_assoc] at k3; exact k3⟩
    have hcs : h.cells n 0 c.length = some c := by
     unfold Hp.cells; rw [g4]; simp
    have := cells_sub2 hcs (k := o) (w := szD d) (by omega)
    rw [Nat.zero_add] at this
    rw [hl, this]
   ·cases ho
  | _ => simp [offN] at ho
theorem ld2_ok {val : Nat → Value} (C : Core val h ow B st) {t : TypeId} {a d : DV} {x : Value} (hb : ld2 Γ st t a = some d) (e : VRc h ow B p a x) : ∃ v, ldv Γ t x h = some v ∧ VRc h ow B p d v ∧ noOwn d = true := by
 unfold ld2 at hb
 obtain ⟨i, h1, hb1⟩ := Option.bind_eq_some_iff.1 hb; replace hb := hb1
 split at hb
 ·rename_i q w o
  obtain ⟨nd, h2, hb1⟩ := Option.bind_eq_some_iff.1 hb; replace hb := hb1
  split at hb
  ·rename_i ho
   obtain ⟨d', h3, hb1⟩ := Option.bind_eq_some_iff.1 hb; replace hb := hb1
   split at hb
   ·rename_i hc
    obtain ⟨c1, c2, c3⟩ := hc
    injection hb with hb; subst hb
    obtain ⟨hc, hdn⟩ := node_dr C h2
    obtain ⟨n, z, k, cs, g1, g2, g3, g4⟩ := node_cells trivial hdn ho h3
    rcases e with ⟨k, hk⟩ | ⟨cs', e1, e2⟩
    ·cases hk
    ·unfold DR at e1
     obtain ⟨_, m, z', k', _, k2, rfl⟩ := e1
     obtain rfl := C.inj _ _ _ _ _ _ _ g1 k2
     have hl := g4.len
     refine ⟨mkv (isAgg d') cs, ?_, .inr ⟨cs, g4.cp, by rw [cp_agg]⟩, cp_noOwn _ _⟩
     rw [e2]
     exact ldv_of h1 c1 (by omega) g3 (by rcases c3 with c3 | c3; exact .inl (by omega); exact .inr (by rw [← c1]; exact c3))
   ·cases hb
  ·cases hb
 ·rename_i d'
  split at hb
  ·rename_i hc
   obtain ⟨c1, c2⟩ := hc
   injection hb with hb; subst hb
   rcases e with ⟨k, hk⟩ | ⟨cs', e1, e2⟩
   ·cases hk
   ·unfold DR FR at e1
    obtain ⟨n, o, cs, rfl, g2, g3, g4, g5⟩ := e1
    have hl := g5.len
    refine ⟨mkv (isAggF d') cs, ?_, .inr ⟨cs, by unfold DR; exact g5, rfl⟩, by unfold noOwn; rfl⟩
    rw [e2]
    refine ldv_of h1 c1 (by omega) g4 ?_
    cases hag : isAggF d' with
    | true => exact .inr rfl
    | false => exact .inl (by rw [hl, szF_one hag])
  ·cases hb
 ·cases hb
end
end Go.Proofs.YtonpnjfclelpiaaGreatM
