import Derived.Test.YtonpnjfclelpiaaGreatVDMve
namespace Go.Proofs.YtonpnjfclelpiaaGreatM
open Go
set_option linter.unusedVariables false
set_option linter.unusedSimpArgs false
def allF : List DV → Option (List FV)
 | [] => some []
 | .fv v :: l => (allF l).map fun r => v :: r
 | _ => none
def mkA (l : List DV) : DV := match allF l with
 | some vs => .fv (.agg vs)
 | none => .agg l
theorem allF_eq : ∀ {l : List DV} {vs : List FV}, allF l = some vs → l = vs.map .fv
 | [], vs, h => by unfold allF at h; injection h with h; subst h; rfl
 | .fv v :: l, vs, h => by
  unfold allF at h
  obtain ⟨r, h1, rfl⟩ := Option.map_eq_some_iff.1 h
  rw [allF_eq h1]; rfl
 | .own _ _ :: l, vs, h => by cases h
 | .agg _ :: l, vs, h => by cases h
 | .box _ :: l, vs, h => by cases h
 | .hdr _ _ _ :: l, vs, h => by cases h
 | .ptr _ _ _ :: l, vs, h => by cases h
 | .tup _ :: l, vs, h => by cases h
 | .junk _ :: l, vs, h => by cases h
theorem mkA_agg (l : List DV) : isAgg (mkA l) = true := by unfold mkA; split <;> rfl
section
variable {h h' : Hp} {ow ow' : Nat → Ow} {B : Nat}
theorem drs_fin {p : Pt} {top : Bool} : ∀ {l : List FV} {css : List (List Value)} {i : Nat}, DRs h ow B top p i (l.map .fv) css → FRs h ow B l css
 | [], css, i, e => by unfold DRs at e; unfold FRs; exact e
 | a :: l, css, i, e => by
  rw [List.map_cons] at e
  unfold DRs at e; unfold FRs
  obtain ⟨c, r, r1, r2, r3⟩ := e
  exact ⟨c, r, r1, by unfold DR at r2; exact r2, drs_fin r3⟩
theorem mkA_ok {p : Pt} {l : List DV} {css : List (List Value)} (e : DRs h ow B true p 0 l css) : DR h ow B true p (mkA l) css.flatten := by
 unfold mkA
 split
 ·rename_i vs hv
  have := allF_eq hv
  subst this
  unfold DR FR; exact ⟨css, rfl, drs_fin e⟩
 ·unfold DR; exact ⟨css, rfl, e⟩
end
section
variable {Γ : TypeId → Option TI} {E : TypeId → Nat} {C : Rel} {D : DrawR} {h0 : Hp} {ow0 : Nat → Ow} {G : Nat → Value} {s : S} {base i : Nat} {l : List POp} {st st' : St}
def bdF (Γ : TypeId → Option TI) (fs : List (Nat × TypeId)) : List DV → List (Nat × DV) → Option (List DV)
 | dl, [] => some dl
 | dl, (i, d) :: r => (fs[i]?).bind fun p => (Γ p.2).bind fun ti => (dl[i]?).bind fun d0 => if okS d = true ∧ szD d = ti.size ∧ szD d = szD d0 ∧ szDs (dl.take i) = p.1 then bdF Γ fs (dl.set i d) r else none
def bd2 (Γ : TypeId → Option TI) (st : St) (t : TypeId) (parts : List (Nat × Operand)) : Option DV := match Γ t, zero2 Γ t with
 | some ⟨.struct fs, _, _, _⟩, some (.agg zl) => if fs.all (fun p => (Γ p.2).isSome) = true then (bdF Γ fs (zl.map .fv) (parts.map fun p => (p.1, ev2 st p.2))).map mkA else none
 | _, _ => none
theorem bdF_ok {ow : Nat → Ow} (m : SmW h0 ow0 G st s ow) {fs : List (Nat × TypeId)} {p : Pt} : ∀ {parts : List (Nat × Operand)} {dl dl' : List DV} {css : List (List Value)}, (∀ (k : Nat) (x : DV) (y : List Value) (q : Pt), DR s.h ow s.h.next true q x y → True) → DRs s.h ow s.h.next true p 0 dl css → noOwns dl = true → bdF Γ fs dl (parts.map fun p => (p.1, ev2 st p.2)) = some dl' →
  ∃ css', DRs s.h ow s.h.next true p 0 dl' css' ∧ noOwns dl' = true ∧ fillL (fun i => (fs[i]?).bind fun p => (Γ p.2).map fun ti => (p.1, ti.size)) css.flatten (parts.map fun p => (p.1, s.ev p.2)) = some css'.flatten
 | [], dl, dl', css, _, e, hno, h => by
  simp only [List.map_nil, bdF, Option.some.injEq] at h; subst h
  exact ⟨css, e, hno, rfl⟩
 | (j, x) :: parts, dl, dl', css, ht, e, hno, h => by
  simp only [List.map_cons, bdF] at h
  obtain ⟨q, h1, h⟩ := Option.bind_eq_some_iff.1 h
  obtain ⟨ti, h2, h⟩ := Option.bind_eq_some_iff.1 h
  obtain ⟨d0, h3, h⟩ := Option.bind_eq_some_iff.1 h
  split at h
  ·rename_i hc
   obtain ⟨c1, c2, c3, c4⟩ := hc
   obtain ⟨g1, g2⟩ := ev2_ok m.core x (p.1, p.2 ++ [0 + j])
   obtain ⟨cs, k1, k2, k3⟩ := var_ok c1 g1
   obtain ⟨c, h4, h5⟩ := e.get h3
   have hcl : c.length = cs.length := by rw [h5.len, k1.len, c3]
   have e' : DRs s.h ow s.h.next true p 0 (dl.set j (ev2 st x)) (css.set j cs) := e.set h3 h4 k1 (fun _ _ _ _ hh => hh)
   have hno' : noOwns (dl.set j (ev2 st x)) = true := by
    have : ∀ (l : List DV) (j : Nat), noOwns l = true → noOwns (l.set j (ev2 st x)) = true := by
     intro l
     induction l with
     | nil => intro j h; exact h
     | cons a l ih =>
      intro j h
      unfold noOwns at h; rw [Bool.and_eq_true] at h
      cases j with
      | zero => rw [List.set_cons_zero]; unfold noOwns; rw [g2, h.2]; rfl
      | succ j => rw [List.set_cons_succ]; unfold noOwns; rw [h.1, ih j h.2]; rfl
    exact this dl j hno
   obtain ⟨css', q1, q2, q3⟩ := bdF_ok m ht e' hno' h
   refine ⟨css', q1, q2, ?_⟩
   rw [List.map_cons]
   unfold fillL
   simp only [h1, h2, Option.bind_some, Option.map_some]
   obtain ⟨f1, f2⟩ := flat_off h4
   have q4 : (css.take j).flatten.length = q.1 := by rw [← c4]; exact (e.take j).len
   have hsz : (s.ev x).cells.size = cs.length := by rw [← Array.length_toList, k3]
   rw [if_pos ⟨k2, by rw [hsz, k1.len, c2], by rw [hsz, ← q4, ← hcl]; exact f1⟩]
   have := flat_splice (xs := cs) (o := 0) h4 (by omega)
   rw [splice_zero (by omega), Nat.add_zero, q4] at this
   rw [k3, ← this]; exact q3
  ·cases h
theorem bd2_ok {ow : Nat → Ow} (m : SmW h0 ow0 G st s ow) {t : TypeId} {parts : Array (Nat × Operand)} {d : DV} (h : bd2 Γ st t parts.toList = some d) : ∃ v, pureV Γ E s.ev (.build t parts) = some v ∧ VRc s.h ow s.h.next (0, []) d v ∧ noOwn d = true := by
 unfold bd2 at h
 split at h
 ·rename_i fs b1 b2 zz zl hg hz
  split at h
  ·rename_i hall
   obtain ⟨dl, h1, rfl⟩ := Option.map_eq_some_iff.1 h
   obtain ⟨i, g1, g2, g3, g4⟩ := zero2_ok hz
   rw [hg] at g1; injection g1 with g1; subst g1
   have hfr := g4 s.h ow s.h.next
   unfold FR at hfr
   obtain ⟨css, k1, k2⟩ := hfr
   simp only at k1
   have hno : noOwns (zl.map DV.fv) = true := by
    have : ∀ l : List FV, noOwns (l.map DV.fv) = true := by
     intro l
     induction l with
     | nil => rfl
     | cons a l ih => rw [List.map_cons]; unfold noOwns noOwn; rw [ih]; rfl
    exact this zl
   obtain ⟨css', q1, q2, q3⟩ := bdF_ok m (p := (0, [])) (fun _ _ _ _ _ => trivial) k2.toD hno h1
   refine ⟨.agg css'.flatten.toArray, ?_, .inr ⟨css'.flatten, mkA_ok q1, by rw [mkA_agg]; rfl⟩, ?_⟩
   ·simp only [pureV, hg]
    rw [if_neg (by rw [hall]; simp), k1, q3]; rfl
   ·unfold mkA; split
    ·unfold noOwn; rfl
    ·unfold noOwn; exact q2
  ·cases h
 ·cases h
theorem og_build {Q : S → Prop} {r : Nat} {t : TypeId} {parts : Array (Nat × Operand)} {d : DV} (hr : r < LB) (ha : bd2 Γ st t parts.toList = some d) (hn : OG Γ E C h0 ow0 G base (i + 1) l (put r d st) Q) : OG Γ E C h0 ow0 G base i (⟨some r, none, .build t parts⟩ :: l) st Q := by
 refine og_val (fun s ow m => ⟨rfl, ?_⟩) hn
 obtain ⟨v, h1, h2, h3⟩ := bd2_ok (E := E) m ha
 exact ⟨v, opV_pure h1, Sm.put m hr h3 h2⟩
def bytesF (b : ByteArray) : List DV := b.data.toList.map fun x => .fv (.int .u8 x.toNat)
def cb2 (Γ : TypeId → Option TI) (st : St) (r : Nat) (s d : TypeId) (x : DV) : Option St := match Γ s, Γ d, x with
 | some ⟨.str, _, _, _⟩, some ⟨.slice e, _, _, _⟩, .fv (.str b) => match Γ e with
  | some ⟨.int .u8, 1, 1, _⟩ => some ((r, .own 1 (bytesF b)) :: klS atL (clr r st))
  | _ => none
 | _, _, _ => none
theorem og_cb {Q : S → Prop} {r : Nat} {t u : TypeId} {x : Operand} (hr : r < LB) (ha : cb2 Γ st r t u (ev2 st x) = some st') (hn : OG Γ E C h0 ow0 G base (i + 1) l st' Q) : OG Γ E C h0 ow0 G base i (⟨some r, none, .convert t u x⟩ :: l) st Q := by
 refine og_of (fun s ow m hf => ⟨rfl, ?_⟩) hn
 have hb := hf.bl i (Nat.le_refl _) (by omega)
 have hlt : base + i < s.h.next := by have := hf.hi; omega
 unfold cb2 at ha
 split at ha
 ·rename_i _ _ _ e _ _ _ b hg1 hg2 hx
  split at ha
  ·rename_i zz hg3
   injection ha with ha; subst ha
   have hv : s.ev x = .string b := sv_ok (by rw [hx]; rfl) (ev2_ok m.core x (0, [])).1
   have C1 := m.core.clr (val' := vl s G) (r := r) (fun _ _ => rfl)
   have hL : r ≠ LB := by unfold LB at *; omega
   have hD : ∀ (l : List UInt8) (i : Nat), DRs s.h (dropO (atR r) ow) s.h.next false (LB, []) i (l.map fun x => .fv (.int .u8 x.toNat)) (l.map fun x => [Value.int .u8 x.toNat]) := by
    intro l
    induction l with
    | nil => intro i; unfold DRs; rfl
    | cons a l ih => intro i; rw [List.map_cons, List.map_cons]; unfold DRs; exact ⟨_, _, rfl, by unfold DR FR; rfl, ih (i + 1)⟩
   have hfl : ∀ l : List UInt8, (l.map fun x => [Value.int .u8 x.toNat]).flatten = l.map fun x => Value.int .u8 x.toNat := by
    intro l
    induction l with
    | nil => rfl
    | cons a l ih => rw [List.map_cons, List.flatten_cons, ih]; rfl
   have hlen : (bytesF b).length = b.size := by unfold bytesF; rw [List.length_map]; rfl
   refine ⟨.slice (some ⟨base + i, 0, none⟩) b.size (U 1), s.h.put (base + i) (some { cells := b.data.toList.map fun x => .int .u8 x.toNat, rw := true }), ?_, rfl, fun n hne hh => (hput_blk_ne hne).trans hh, ?_⟩
   ·unfold opV
    simp only [pureV, hg1, hg2, hv, makeV, hg3]
   ·have hset := C1.settle (val' := vl ((s.hp (s.h.put (base + i) (some { cells := b.data.toList.map fun x => .int .u8 x.toNat, rw := true }))).put (some r) (.slice (some ⟨base + i, 0, none⟩) b.size (U 1))) G) (r := r) (z := 1) (hD b.data.toList 0) (fun c hc => by
     obtain ⟨y, _, rfl⟩ := List.mem_map.1 hc; rfl) (by omega) hb hlt hL (fun n p z k hh => (drop_free hh).1) (fun n z k hh => (drop_free hh).2 rfl) (vl_get (clr_none _ _)) (by rw [vl_put hr]; show _ = Value.slice _ (bytesF b).length _; rw [hlen])
    rw [hfl] at hset
    exact sm_new m hf.lo hlt (fun n hh => dropO_fz.2 hh) (fun n hh => dropO_no hh) hset
  ·cases ha
 ·cases ha
def byD : List DV → Option (List Int)
 | [] => some []
 | .fv (.int .u8 n) :: l => (byD l).map fun r => n :: r
 | _ => none
def txI (l : List Int) : ByteArray := l.foldl (fun r n => r.push (UInt8.ofNat n.toNat)) .empty
def tx2 (Γ : TypeId → Option TI) (st : St) (s d : TypeId) (x : DV) : Option DV := match Γ s, Γ d with
 | some ⟨.slice e, _, _, _⟩, some ⟨.str, _, _, _⟩ => match Γ e with
  | some ⟨.int .u8, 1, _, _⟩ => match x with
   | .fv .nil => some (.fv (.str .empty))
   | .fv (.row z l) => if z = 1 ∧ l ≠ [] then (byD (l.map .fv)).map fun r => .fv (.str (txI r)) else none
   | .hdr q z k => (node st q).bind fun nd => match nd with
    | .own z' l => if z' = 1 then (byD l).map fun r => .fv (.str (txI r)) else none
    | _ => none
   | _ => none
  | _ => none
 | _, _ => none
theorem byD_ok {h : Hp} {ow : Nat → Ow} {B : Nat} {top : Bool} {p : Pt} : ∀ {l : List DV} {i : Nat} {css : List (List Value)} {r : List Int}, DRs h ow B top p i l css → byD l = some r → allB css.flatten = true ∧ css.flatten.map numI = r
 | [], i, css, r, e, h => by unfold byD at h; injection h with h; subst h; unfold DRs at e; subst e; exact ⟨rfl, rfl⟩
 | .fv (.int .u8 n) :: l, i, css, r, e, h => by
  unfold byD at h
  obtain ⟨r', h1, rfl⟩ := Option.map_eq_some_iff.1 h
  unfold DRs at e
  obtain ⟨c, rr, rfl, e1, e2⟩ := e
  unfold DR FR at e1; subst e1
  obtain ⟨k1, k2⟩ := byD_ok e2 h1
  exact ⟨by show allB (.int .u8 n :: rr.flatten) = true; exact k1, by show n :: rr.flatten.map numI = _; rw [k2]⟩
 | .fv (.bool _) :: l, i, css, r, e, h => by simp [byD] at h
 | .fv (.str _) :: l, i, css, r, e, h => by simp [byD] at h
 | .fv .nil :: l, i, css, r, e, h => by simp [byD] at h
 | .fv .nilp :: l, i, css, r, e, h => by simp [byD] at h
 | .fv (.row _ _) :: l, i, css, r, e, h => by simp [byD] at h
 | .fv (.agg _) :: l, i, css, r, e, h => by simp [byD] at h
 | .fv (.fp _) :: l, i, css, r, e, h => by simp [byD] at h
 | .fv (.fn _ _ _) :: l, i, css, r, e, h => by simp [byD] at h
 | .fv (.int .i8 _) :: l, i, css, r, e, h => by simp [byD] at h
 | .fv (.int .i16 _) :: l, i, css, r, e, h => by simp [byD] at h
 | .fv (.int .i32 _) :: l, i, css, r, e, h => by simp [byD] at h
 | .fv (.int .i64 _) :: l, i, css, r, e, h => by simp [byD] at h
 | .fv (.int .u16 _) :: l, i, css, r, e, h => by simp [byD] at h
 | .fv (.int .u32 _) :: l, i, css, r, e, h => by simp [byD] at h
 | .fv (.int .u64 _) :: l, i, css, r, e, h => by simp [byD] at h
 | .own _ _ :: l, i, css, r, e, h => by simp [byD] at h
 | .agg _ :: l, i, css, r, e, h => by simp [byD] at h
 | .box _ :: l, i, css, r, e, h => by simp [byD] at h
 | .hdr _ _ _ :: l, i, css, r, e, h => by simp [byD] at h
 | .ptr _ _ _ :: l, i, css, r, e, h => by simp [byD] at h
 | .tup _ :: l, i, css, r, e, h => by simp [byD] at h
 | .junk _ :: l, i, css, r, e, h => by simp [byD] at h
theorem tx2_ok {ow : Nat → Ow} (m : SmW h0 ow0 G st s ow) {t u : TypeId} {x : Operand} {d : DV} (h : tx2 Γ st t u (ev2 st x) = some d) : ∃ v, textV Γ t u (s.ev x) s.h = some v ∧ VRc s.h ow s.h.next (0, []) d v ∧ noOwn d = true ∧ ∃ e a b c a' b' c', Γ t = some ⟨.slice e, a, b, c⟩ ∧ Γ u = some ⟨.str, a', b', c'⟩ := by
 have hx := (ev2_ok m.core x (0, [])).1
 unfold tx2 at h
 split at h
 ·rename_i e _ _ _ _ _ _ hg1 hg2
  split at h
  ·rename_i b1 b2 hg3
   split at h
   ·rename_i hv
    injection h with h; subst h
    rw [hv] at hx
    have hs : s.ev x = .slice none 0 0 := sv_ok (d := .fv .nil) rfl hx
    refine ⟨.string .empty, ?_, ofV_ok _ (.string .empty), by unfold noOwn; rfl, _, _, _, _, _, _, _, hg1, hg2⟩
    unfold textV; rw [hg1, hg2, hs]; simp only [hg3]
   ·rename_i z l hv
    split at h
    ·rename_i hz
     obtain ⟨rfl, hne⟩ := hz
     obtain ⟨r, h1, rfl⟩ := Option.map_eq_some_iff.1 h
     rw [hv] at hx
     rcases hx with ⟨k, hk⟩ | ⟨cs, e1, e2⟩
     ·cases hk
     ·unfold DR FR at e1
      rcases e1 with ⟨e0, _⟩ | ⟨n, o, c, css, rfl, g2, g3, g4, g5⟩
      ·exact absurd e0 hne
      obtain ⟨_, _, k3⟩ := g5 hne
      obtain ⟨q1, q2⟩ := byD_ok (g3.toD (p := (0, [])) (top := true) (i := 0)) h1
      have hs : s.ev x = .slice (some ⟨n, o, none⟩) l.length c := e2
      refine ⟨.string (txI r), ?_, ofV_ok _ (.string (txI r)), by unfold noOwn; rfl, _, _, _, _, _, _, _, hg1, hg2⟩
      unfold textV; rw [hg1, hg2, hs]; simp only [hg3]
      rw [Nat.mul_one] at k3
      rw [k3]; simp only [Option.bind_some]
      rw [if_pos q1, q2]; rfl
    ·cases h
   ·rename_i q z k hv
    obtain ⟨nd, h2, h3⟩ := Option.bind_eq_some_iff.1 h
    split at h3
    ·rename_i z' l
     split at h3
     ·rename_i hz; subst hz
      obtain ⟨r, h1, rfl⟩ := Option.map_eq_some_iff.1 h3
      rw [hv] at hx
      rcases hx with ⟨k, hk⟩ | ⟨cs, e1, e2⟩
      ·cases hk
      ·obtain ⟨hc, hdn⟩ := node_dr m.core h2
       obtain ⟨rfl, _, rfl⟩ := ref_own m.core e1 hdn
       obtain ⟨n, css, g1, _, _, _, g4, g5, g6⟩ := own_blk hdn
       obtain ⟨q1, q2⟩ := byD_ok g6 h1
       have hs : s.ev x = .slice (some ⟨n, 0, none⟩) l.length (U 1) := by rw [e2, g1]; rfl
       have hcells : s.h.cells n 0 l.length = some css.flatten := by
        unfold Hp.cells; rw [g4]
        have : css.flatten.length = l.length := by rw [flat_mul g5, g6.count, Nat.mul_one]
        simp only [Option.bind_some, Nat.zero_add, List.drop_zero]
        rw [if_pos (by omega), ← this, List.take_length]
       refine ⟨.string (txI r), ?_, ofV_ok _ (.string (txI r)), by unfold noOwn; rfl, _, _, _, _, _, _, _, hg1, hg2⟩
       unfold textV; rw [hg1, hg2, hs]; simp only [hg3]
       rw [hcells]; simp only [Option.bind_some]
       rw [if_pos q1, q2]; rfl
     ·cases h3
    ·cases h3
   ·cases h
  ·cases h
 ·cases h
theorem og_tx {Q : S → Prop} {r : Nat} {t u : TypeId} {x : Operand} {d : DV} (hr : r < LB) (ha : tx2 Γ st t u (ev2 st x) = some d) (hn : OG Γ E C h0 ow0 G base (i + 1) l (put r d st) Q) : OG Γ E C h0 ow0 G base i (⟨some r, none, .convert t u x⟩ :: l) st Q := by
 refine og_val (fun s ow m => ⟨rfl, ?_⟩) hn
 obtain ⟨v, h1, h2, h3, e, a, b, c, a', b', c', hg1, hg2⟩ := tx2_ok m ha
 refine ⟨v, ?_, Sm.put m hr h3 h2⟩
 unfold opV
 simp only [pureV, hg1, hg2, makeV, effV, h1]; rfl
end
end Go.Proofs.YtonpnjfclelpiaaGreatM
