import Derived.Test.YtonpnjfclelpiaaGreatVDMvd
namespace Go.Proofs.YtonpnjfclelpiaaGreatM
open Go
set_option linter.unusedVariables false
set_option linter.unusedSimpArgs false
section
variable {Γ : TypeId → Option TI} {E : TypeId → Nat} {C : Rel} {D : DrawR} {h0 : Hp} {ow0 : Nat → Ow} {G : Nat → Value} {s : S} {base i : Nat} {l : List POp} {st st' : St}
theorem frm_same {h : Hp} {ow ow' : Nat → Ow} (f : Frm h0 ow0 h ow) (h1 : ∀ n, ow n = .fz → ow' n = .fz) (h2 : ∀ n, ow n = .no → ow' n = .no) : Frm h0 ow0 h ow' :=
 f.go (Nat.le_refl _) (fun n _ => ⟨fun hh => ⟨h1 n hh, rfl⟩, fun hh => ⟨h2 n hh, rfl⟩⟩) (fun _ _ hh => hh)
theorem og_val {Q : S → Prop} {r : Nat} {op : Op} (hs : ∀ s ow, SmW h0 ow0 G st s ow → calleeV s op = none ∧ ∃ v, opV Γ E (base + i) s.ev op s.h = some (v, s.h) ∧ Sm h0 ow0 G st' (s.put (some r) v))
  (hn : OG Γ E C h0 ow0 G base (i + 1) l st' Q) : OG Γ E C h0 ow0 G base i (⟨some r, none, op⟩ :: l) st Q := by
 refine og_of (fun s ow m hf => ?_) hn
 obtain ⟨h1, v, h2, h3⟩ := hs s ow m
 exact ⟨h1, v, s.h, h2, rfl, fun _ _ hh => hh, h3⟩
def mvA (src r : Nat) (st : St) : Option St := if src = r then none else (get (clr r st) src).map fun d => (src, cp (r, []) (kl (belB (src, [])) d)) :: (r, kl (belB (src, [])) d) :: klS (belB (src, [])) (rm src (clr r st))
def mv2 (st : St) (r : Nat) (x : Operand) : Option St := match x with
 | .tmp t => match get st t with
  | some (.tup _) => if t < LB then rnR t r st else none
  | _ => some (put r (ev2 st x) st)
 | _ => some (put r (ev2 st x) st)
def as2 (st : St) (r : Nat) (x : Operand) : Option St := match x with
 | .tmp t => match get st t with
  | some d => if noOwn d = true then some (put r (ev2 st x) st) else if t < LB then mvA t r st else none
  | none => some (put r (ev2 st x) st)
 | _ => some (put r (ev2 st x) st)
theorem sm_rn {ow : Nat → Ow} (m : SmW h0 ow0 G st s ow) {src r : Nat} (hr : r < LB) (hsl : src < LB) (hs : rnR src r st = some st') : SmW h0 ow0 G st' (s.put (some r) (s.t src)) (mvO (src, []) (r, []) (dropO (atR r) ow)) := by
 refine ⟨?_, ?_, ?_⟩
 ·rw [put_h]
  exact m.core.rnR (by unfold LB at *; omega) hs vl_put_ne (by rw [vl_put hr]; unfold vl; rw [if_pos hsl])
 ·rw [put_h]; exact frm_same m.frm (fun n hh => mvO_fz.2 (dropO_fz.2 hh)) (fun n hh => mvO_no.2 (dropO_no hh))
 ·rw [put_h]; exact m.top
theorem put_sm {ow : Nat → Ow} (m : SmW h0 ow0 G st s ow) {r : Nat} (hr : r < LB) (x : Operand) : Sm h0 ow0 G (put r (ev2 st x) st) (s.put (some r) (s.ev x)) := by
 obtain ⟨h1, h2⟩ := ev2_ok m.core x (r, [])
 exact Sm.put m hr h2 h1
theorem og_move {Q : S → Prop} {r : Nat} {x : Operand} (hr : r < LB) (ha : mv2 st r x = some st') (hn : OG Γ E C h0 ow0 G base (i + 1) l st' Q) : OG Γ E C h0 ow0 G base i (⟨some r, none, .move x⟩ :: l) st Q := by
 refine og_val (fun s ow m => ⟨rfl, s.ev x, opV_pure rfl, ?_⟩) hn
 unfold mv2 at ha
 split at ha
 ·rename_i t
  split at ha
  ·split at ha
   ·rename_i ht; exact ⟨_, sm_rn m hr ht ha⟩
   ·cases ha
  ·injection ha with ha; subst ha; exact put_sm m hr _
 ·injection ha with ha; subst ha; exact put_sm m hr _
theorem og_assign {Q : S → Prop} {r : Nat} {x : Operand} (hr : r < LB) (ha : as2 st r x = some st') (hn : OG Γ E C h0 ow0 G base (i + 1) l st' Q) : OG Γ E C h0 ow0 G base i (⟨some r, none, .assign x⟩ :: l) st Q := by
 refine og_val (fun s ow m => ⟨rfl, s.ev x, opV_pure rfl, ?_⟩) hn
 unfold as2 at ha
 split at ha
 ·rename_i t
  split at ha
  ·rename_i d hd
   split at ha
   ·injection ha with ha; subst ha; exact put_sm m hr _
   ·split at ha
    ·rename_i ht
     unfold mvA at ha
     split at ha
     ·cases ha
     ·rename_i hne
      obtain ⟨d1, h1, rfl⟩ := Option.map_eq_some_iff.1 ha
      have hrn : rnR t r st = some ((r, kl (belB (t, [])) d1) :: klS (belB (t, [])) (rm t (clr r st))) := by
       unfold rnR; rw [if_neg hne, h1]; rfl
      have m2 := sm_rn m hr ht hrn
      refine ⟨_, ?_, m2.frm, m2.top⟩
      refine m2.core.add (fun hh => by rw [hh] at ht; exact absurd ht (Nat.lt_irrefl _)) (.inr ?_)
      have := (m2.core.regs r _ (by unfold get; rw [if_pos rfl])).cp (q := (t, []))
      rw [vl_put hr] at this
      rw [vl_put_ne t hne]
      unfold vl; rw [if_pos ht]
      exact this
    ·cases ha
  ·injection ha with ha; subst ha; exact put_sm m hr _
 ·injection ha with ha; subst ha; exact put_sm m hr _
theorem og_extract {Q : S → Prop} {r t j : Nat} (hr : r < LB) (ht : t < LB) (ha : ex2 t j r st = some st') (hn : OG Γ E C h0 ow0 G base (i + 1) l st' Q) : OG Γ E C h0 ow0 G base i (⟨some r, none, .extract (.tmp t) j⟩ :: l) st Q := by
 refine og_of (fun s ow m hf => ⟨rfl, ?_⟩) hn
 have hL : r ≠ LB := by unfold LB at *; omega
 have hsrc : ∃ vs, s.t t = .tuple vs := by
  have ha2 := ha
  unfold ex2 at ha2
  split at ha2
  ·cases ha2
  ·split at ha2
   ·rename_i l hl
    obtain ⟨_, d0, h1, h2⟩ := clr_get hl
    have : ∃ l0, d0 = .tup l0 := by
     cases d0 with
     | tup l0 => exact ⟨l0, rfl⟩
     | hdr _ _ _ => unfold kl at h2; split at h2 <;> cases h2
     | ptr _ _ _ => unfold kl at h2; split at h2 <;> cases h2
     | _ => unfold kl at h2; cases h2
    obtain ⟨l0, rfl⟩ := this
    rcases m.core.regs t _ h1 with ⟨_, vs, _, h3, _⟩ | ⟨k, hk⟩ | ⟨cs, hk, _⟩
    ·unfold vl at h3; rw [if_pos ht] at h3; exact ⟨vs, h3⟩
    ·cases hk
    ·unfold DR at hk; exact hk.elim
   ·cases ha2
 obtain ⟨vs, hvs⟩ := hsrc
 have hvt : vl s G t = .tuple vs := by unfold vl; rw [if_pos ht]; exact hvs
 -- first which value it is
 obtain ⟨⟨v, hv⟩, _⟩ := m.core.ex2 (val' := fun q => if q = r then (vs[j]?).getD undef else vl s G q) hL ha (fun q hq => by simp only [if_neg hq]) hvt (fun v hv => by simp [hv])
 obtain ⟨_, C2⟩ := m.core.ex2 (val' := vl (s.put (some r) v) G) hL ha vl_put_ne hvt (fun v' hv' => by rw [vl_put hr]; rw [hv] at hv'; injection hv')
 refine ⟨v, s.h, opV_pure ?_, rfl, fun _ _ hh => hh, mvO (t, [j]) (r, []) (dropO (atR r) ow), ?_, ?_, ?_⟩
 ·simp only [pureV, S.ev, hvs]; exact hv
 ·rw [put_h]; exact C2
 ·rw [put_h]; exact frm_same m.frm (fun n hh => mvO_fz.2 (dropO_fz.2 hh)) (fun n hh => mvO_no.2 (dropO_no hh))
 ·rw [put_h]; exact m.top
theorem sm_frz {ow : Nat → Ow} (m : SmW h0 ow0 G st s ow) {q : Pt} {v : FV} (hs : frz st q = some (v, st')) : SmW h0 ow0 G st' s (fzO q ow) :=
 ⟨(m.core.frz hs).1, frm_same m.frm (fun n hh => fzO_fz hh) (fun n hh => fzO_no hh), m.top⟩
def frL : List Operand → St → Option St
 | [], st => some st
 | x :: xs, st => match ev2 st x with
  | .ptr q _ _ => (frz st q).bind fun r => frL xs r.2
  | .hdr q _ _ => (frz st q).bind fun r => frL xs r.2
  | _ => frL xs st
theorem sm_frL : ∀ {xs : List Operand} {st st' : St} {s : S} {ow : Nat → Ow}, SmW h0 ow0 G st s ow → frL xs st = some st' → ∃ ow', SmW h0 ow0 G st' s ow'
 | [], st, st', s, ow, m, h => by unfold frL at h; injection h with h; subst h; exact ⟨ow, m⟩
 | x :: xs, st, st', s, ow, m, h => by
  unfold frL at h
  split at h
  ·obtain ⟨⟨v, st1⟩, h1, h2⟩ := Option.bind_eq_some_iff.1 h
   exact sm_frL (sm_frz m h1) h2
  ·obtain ⟨⟨v, st1⟩, h1, h2⟩ := Option.bind_eq_some_iff.1 h
   exact sm_frL (sm_frz m h1) h2
  ·exact sm_frL m h
def evF (st : St) (x : Operand) : Option FV := match ev2 st x with
 | .fv v => if okS (.fv v) = true then some v else none
 | _ => none
theorem evF_ok {h : Hp} {ow : Nat → Ow} {B : Nat} (C : Core (vl s G) h ow B st) {x : Operand} {v : FV} (he : evF st x = some v) : ∃ cs, FR h ow B v cs ∧ s.ev x = mkv (isAggF v) cs ∧ isVar (s.ev x) = true := by
 unfold evF at he
 split at he
 ·rename_i v' hv
  split at he
  ·rename_i hok
   injection he with he; subst he
   obtain ⟨h1, h2⟩ := ev2_ok C x (0, [])
   rw [hv] at h1
   obtain ⟨_, _, k2, _⟩ := var_ok hok h1
   rcases h1 with ⟨k, hk⟩ | ⟨cs, e1, e2⟩
   ·cases hk
   ·unfold DR at e1; exact ⟨cs, e1, e2, k2⟩
  ·cases he
 ·cases he
theorem evFs_ok {h : Hp} {ow : Nat → Ow} {B : Nat} (C : Core (vl s G) h ow B st) : ∀ {xs : List Operand} {vs : List FV}, optL (xs.map (evF st)) = some vs → ∃ css, FRs h ow B vs css ∧ xs.map s.ev = List.zipWith (fun d c => mkv (isAggF d) c) vs css ∧ ∀ x ∈ xs, isVar (s.ev x) = true
 | [], vs, h => by unfold optL at h; injection h with h; subst h; exact ⟨[], by unfold FRs; rfl, rfl, by simp⟩
 | x :: xs, vs, h => by
  rw [List.map_cons] at h; unfold optL at h
  obtain ⟨v, h1, h2⟩ := Option.bind_eq_some_iff.1 h
  obtain ⟨r, h3, rfl⟩ := Option.map_eq_some_iff.1 h2
  obtain ⟨cs, k1, k2, k3⟩ := evF_ok C h1
  obtain ⟨css, q1, q2, q3⟩ := evFs_ok C h3
  refine ⟨cs :: css, by unfold FRs; exact ⟨cs, css, rfl, k1, q1⟩, by rw [List.map_cons, List.zipWith_cons_cons, k2, q2], fun y hy => ?_⟩
  rcases List.mem_cons.1 hy with rfl | hy
  ·exact k3
  ·exact q3 y hy
def mf2 (st : St) (r : Nat) (f : FuncId) (a b : List Operand) : Option St := (frL b st).bind fun st1 => (optL (a.map (evF st1))).bind fun x => (optL (b.map (evF st1))).map fun y => put r (.fv (.fn f x y)) st1
theorem og_mf {Q : S → Prop} {r : Nat} {f : FuncId} {a b : Array Operand} (hr : r < LB) (ha : mf2 st r f a.toList b.toList = some st') (hn : OG Γ E C h0 ow0 G base (i + 1) l st' Q) : OG Γ E C h0 ow0 G base i (⟨some r, none, .makeFunc (.func f) a b⟩ :: l) st Q := by
 refine og_val (fun s ow m => ⟨rfl, ?_⟩) hn
 unfold mf2 at ha
 obtain ⟨st1, h1, ha1⟩ := Option.bind_eq_some_iff.1 ha
 obtain ⟨x, h2, ha2⟩ := Option.bind_eq_some_iff.1 ha1
 obtain ⟨y, h3, rfl⟩ := Option.map_eq_some_iff.1 ha2
 obtain ⟨ow1, m1⟩ := sm_frL m h1
 obtain ⟨ca, a1, a2, a3⟩ := evFs_ok m1.core h2
 obtain ⟨cb, b1, b2, b3⟩ := evFs_ok m1.core h3
 have e1 : ∀ as : Array Operand, as.map s.ev = (as.toList.map s.ev).toArray := fun as => by rw [← Array.toList_map]
 refine ⟨.func (.func f) (a.map s.ev) (b.map s.ev), opV_pure ?_, Sm.put m1 hr (p := (r, [])) (by unfold noOwn; rfl) (.inr ⟨[.func (.func f) (a.map s.ev) (b.map s.ev)], ?_, rfl⟩)⟩
 ·simp only [pureV]
  rw [if_pos]
  rw [Bool.and_eq_true, List.all_eq_true, List.all_eq_true]
  exact ⟨a3, b3⟩
 ·unfold DR FR
  exact ⟨ca, cb, by rw [e1, e1, a2, b2], a1, b1⟩
def asN2 : Option DV → Nat → Option Nat
 | none, d => some d
 | some (.fv (.int _ n)), _ => if 0 ≤ n then some n.toNat else none
 | _, _ => none
theorem asN2_ok {h : Hp} {ow : Nat → Ow} {B : Nat} (C : Core (vl s G) h ow B st) {lo : Option Operand} {d k : Nat} (ha : asN2 (lo.map (ev2 st)) d = some k) : asN (lo.map s.ev) d = some k := by
 cases lo with
 | none => exact ha
 | some x =>
  simp only [Option.map_some] at ha ⊢
  unfold asN2 at ha
  split at ha
  ·rename_i hh; cases hh
  ·rename_i hh
   injection hh with hh
   have := sv_ok (by rw [hh]; rfl) (ev2_ok C x (0, [])).1
   rw [this]; exact ha
  ·cases ha
def slF (Γ : TypeId → Option TI) (t : TypeId) (lo hi : Option DV) : FV → Option FV
 | .str s => if isStr Γ t = some true then (asN2 lo 0).bind fun l => (asN2 hi s.size).bind fun u => if l ≤ u ∧ u ≤ s.size then some (.str (s.extract l u)) else none else none
 | .nil => (es Γ t).bind fun z => (asN2 lo 0).bind fun l => (asN2 hi 0).bind fun u => if l = 0 ∧ u = 0 then some .nil else none
 | .row z r => (es Γ t).bind fun z' => (asN2 lo 0).bind fun l => (asN2 hi r.length).bind fun u => if z' = z ∧ z ≠ 0 ∧ l ≤ u ∧ u ≤ r.length then some (.row z ((r.drop l).take (u - l))) else none
 | _ => none
def sl2 (Γ : TypeId → Option TI) (st : St) (r : Nat) (t : TypeId) (x : Operand) (lo hi : Option Operand) : Option St := match ev2 st x with
 | .fv v => (slF Γ t (lo.map (ev2 st)) (hi.map (ev2 st)) v).map fun y => put r (.fv y) st
 | .hdr q _ _ => (frz st q).bind fun f => match ev2 f.2 x with
  | .fv v => (slF Γ t (lo.map (ev2 f.2)) (hi.map (ev2 f.2)) v).map fun y => put r (.fv y) f.2
  | _ => none
 | _ => none
theorem slF_ok {h : Hp} {ow : Nat → Ow} {B : Nat} (C : Core (vl s G) h ow B st) {t : TypeId} {x : Operand} {lo hi : Option Operand} {v y : FV} (hx : ev2 st x = .fv v) (hs : slF Γ t (lo.map (ev2 st)) (hi.map (ev2 st)) v = some y) :
  ∃ w, (∀ ln, sliceV Γ t (s.ev x) (lo.map s.ev) (hi.map s.ev) none ln = some w) ∧ VRc h ow B (0, []) (.fv y) w := by
 have hx1 := (ev2_ok C x (0, [])).1
 rw [hx] at hx1
 unfold slF at hs
 split at hs
 ·rename_i ss
  split at hs
  ·rename_i hst
   obtain ⟨l, h1, hs1⟩ := Option.bind_eq_some_iff.1 hs
   obtain ⟨u, h2, hs2⟩ := Option.bind_eq_some_iff.1 hs1
   split at hs2
   ·rename_i hc
    injection hs2 with hs2; subst hs2
    have hv : s.ev x = .string ss := sv_ok (d := .fv (.str ss)) rfl hx1
    have hg : ∃ a b c, Γ t = some ⟨.str, a, b, c⟩ := by
     unfold isStr at hst
     split at hst
     ·rename_i hg; exact ⟨_, _, _, hg⟩
     ·injection hst with hst; cases hst
     ·cases hst
    obtain ⟨a, b, c, hg⟩ := hg
    refine ⟨.string (ss.extract l u), fun ln => ?_, ofV_ok _ (.string (ss.extract l u))⟩
    unfold sliceV
    rw [hg, hv]
    simp only [asN2_ok C h1, asN2_ok C h2]
    rw [if_pos hc]
   ·cases hs2
  ·cases hs
 ·obtain ⟨z, h0, hs0⟩ := Option.bind_eq_some_iff.1 hs
  obtain ⟨l, h1, hs1⟩ := Option.bind_eq_some_iff.1 hs0
  obtain ⟨u, h2, hs2⟩ := Option.bind_eq_some_iff.1 hs1
  split at hs2
  ·rename_i hc
   obtain ⟨rfl, rfl⟩ := hc
   injection hs2 with hs2; subst hs2
   have hv : s.ev x = .slice none 0 0 := sv_ok (d := .fv .nil) rfl hx1
   obtain ⟨e, a, b, c, ie, t1, t2, t3⟩ := es_some h0
   refine ⟨.slice none 0 0, fun ln => ?_, ofV_ok _ (.slice none 0 0)⟩
   unfold sliceV
   rw [t1, hv]
   simp only [asN2_ok C h1, asN2_ok C h2, t2]
  ·cases hs2
 ·rename_i z r
  obtain ⟨z', h0, hs0⟩ := Option.bind_eq_some_iff.1 hs
  obtain ⟨l, h1, hs1⟩ := Option.bind_eq_some_iff.1 hs0
  obtain ⟨u, h2, hs2⟩ := Option.bind_eq_some_iff.1 hs1
  split at hs2
  ·rename_i hc
   obtain ⟨rfl, hz, hlu, hur⟩ := hc
   injection hs2 with hs2; subst hs2
   obtain ⟨e, a, b, c, ie, t1, t2, t3⟩ := es_some h0
   rcases hx1 with ⟨k, hk⟩ | ⟨cs, e1, e2⟩
   ·cases hk
   ·unfold DR FR at e1
    rcases e1 with ⟨e0, rfl⟩ | ⟨n, o, cap, css, rfl, g2, g3, g4, g5⟩
    ·subst e0
     have hu : u = 0 := by simpa using hur
     subst hu
     have hl0 : l = 0 := by omega
     subst hl0
     refine ⟨.slice none 0 0, fun ln => ?_, .inr ⟨[.slice none 0 0], by unfold DR FR; exact .inl ⟨by simp, rfl⟩, rfl⟩⟩
     unfold sliceV
     have hv0 : s.ev x = .slice none 0 0 := e2
     rw [t1, hv0]
     have h2' : asN (hi.map s.ev) 0 = some 0 := asN2_ok C h2
     simp only [asN2_ok C h1, h2', t2]
    have hv : s.ev x = .slice (some ⟨n, o, none⟩) r.length cap := e2
    have hcc : css.length = r.length := g3.count
    have hl3 : ((r.drop l).take (u - l)).length = u - l := by rw [List.length_take, List.length_drop]; omega
    have main : ∀ c', CapOk z' (u - l) c' → VRc h ow B (0, []) (.fv (.row z' ((r.drop l).take (u - l)))) (.slice (some ⟨n, o + l * z', none⟩) (u - l) c') := by
     intro c' hc'
     refine .inr ⟨[.slice (some ⟨n, o + l * z', none⟩) (u - l) c'], ?_, rfl⟩
     unfold DR FR
     refine .inr ⟨n, o + l * z', c', (css.drop l).take (u - l), by rw [hl3], by rw [hl3]; exact hc', (g3.drop l).take _, fun y hy => g4 y (List.mem_of_mem_drop (List.mem_of_mem_take hy)), fun hne => ?_⟩
     have hrne : r ≠ [] := by rintro rfl; simp at hne
     obtain ⟨k1, k2, k3⟩ := g5 hrne
     refine ⟨k1, k2, ?_⟩
     rw [hl3, cells_sub2 k3 (k := l * z') (w := (u - l) * z') (by rw [← Nat.add_mul]; exact Nat.mul_le_mul_right _ (by omega))]
     congr 1
     have d1 : css.flatten.drop (l * z') = (css.drop l).flatten := by
      conv => lhs; rw [← List.take_append_drop l css, List.flatten_append]
      rw [← flat_mulT g4 (by omega : l ≤ css.length), List.drop_left]
     have g4' : ∀ c ∈ css.drop l, c.length = z' := fun c hc => g4 c (List.mem_of_mem_drop hc)
     rw [d1]
     conv => lhs; rw [← List.take_append_drop (u - l) (css.drop l), List.flatten_append]
     rw [← flat_mulT g4' (by rw [List.length_drop]; omega : u - l ≤ (css.drop l).length), List.take_left]
    rcases g2 with g2 | ⟨g2, g2'⟩
    ·refine ⟨_, fun ln => ?_, main _ (.inl rfl)⟩
     unfold sliceV
     rw [t1, hv]
     simp only [asN2_ok C h1, asN2_ok C h2, t2, t3]
     rw [if_neg hz, if_pos g2, if_pos ⟨hlu, .inl hur⟩]
    ·have hcu : cap ≠ U z' := by unfold U; omega
     refine ⟨_, fun ln => ?_, main (cap - l) (.inr ⟨by omega, by omega⟩)⟩
     unfold sliceV
     rw [t1, hv]
     simp only [asN2_ok C h1, asN2_ok C h2, t2, t3]
     rw [if_neg hz, if_neg hcu, if_pos ⟨g2', hlu, by omega⟩]
  ·cases hs2
 ·cases hs
theorem opV_slice {nm : Nat} {ρ : Operand → Value} {t : TypeId} {x : Operand} {lo hi mx : Option Operand} {h : Hp} {v : Value} (hs : ∀ ln, sliceV Γ t (ρ x) (lo.map ρ) (hi.map ρ) (mx.map ρ) ln = some v) : opV Γ E nm ρ (.slice t x lo hi mx) h = some (v, h) := by
 unfold opV
 simp only [pureV, hs]
theorem og_slice {Q : S → Prop} {r : Nat} {t : TypeId} {x : Operand} {lo hi : Option Operand} (hr : r < LB) (ha : sl2 Γ st r t x lo hi = some st') (hn : OG Γ E C h0 ow0 G base (i + 1) l st' Q) : OG Γ E C h0 ow0 G base i (⟨some r, none, .slice t x lo hi none⟩ :: l) st Q := by
 refine og_val (fun s ow m => ⟨rfl, ?_⟩) hn
 have main : ∀ {st2 : St} {ow2 : Nat → Ow} {v : FV}, SmW h0 ow0 G st2 s ow2 → ev2 st2 x = .fv v → (slF Γ t (lo.map (ev2 st2)) (hi.map (ev2 st2)) v).map (fun y => put r (.fv y) st2) = some st' →
   ∃ v, opV Γ E (base + i) s.ev (.slice t x lo hi none) s.h = some (v, s.h) ∧ Sm h0 ow0 G st' (s.put (some r) v) := by
  intro st2 ow2 v m2 hv ha2
  obtain ⟨y, h1, rfl⟩ := Option.map_eq_some_iff.1 ha2
  obtain ⟨w, hall, h3⟩ := slF_ok m2.core hv h1
  exact ⟨w, opV_slice hall, Sm.put m2 hr (by unfold noOwn; rfl) h3⟩
 unfold sl2 at ha
 split at ha
 ·rename_i v hv; exact main m hv ha
 ·rename_i q z k hv
  obtain ⟨⟨v0, st1⟩, h1, ha1⟩ := Option.bind_eq_some_iff.1 ha
  simp only at ha1
  split at ha1
  ·rename_i v hv2; exact main (sm_frz m h1) hv2 ha1
  ·cases ha1
 ·cases ha
end
end Go.Proofs.YtonpnjfclelpiaaGreatM
