import Derived.Test.YtonpnjfclelpiaaGreatVDMvj
namespace Go.Proofs.YtonpnjfclelpiaaGreatM
open Go
set_option linter.unusedVariables false
set_option linter.unusedSimpArgs false
def FK (P : DV → List DV → Prop) (outs : St → List DV) : Option (DV × St) → Prop
 | some r => okO 0 (outs r.2) r.2 ∧ P r.1 (outs r.2)
 | none => False
def eqP (d : DV) (outs : List DV) : DV → List DV → Prop := fun d' o' => d' = d ∧ o' = outs
def cst (outs : List DV) : St → List DV := fun _ => outs
theorem fk_eq {d d' : DV} {outs : List DV} {st : St} : FK (eqP d outs) (cst outs) (some (d', st)) = (okO 0 outs st ∧ d' = d) := by simp [FK, eqP, cst]
theorem oko_nil {i : Nat} {st : St} : okO i [] st = True := nr rfl
theorem oko_junk {i k : Nat} {l : List DV} {st : St} : okO i (.junk k :: l) st = okO (i + 1) l st := by simp [okO]
theorem oko_own {i z : Nat} {m l : List DV} {st : St} : okO i (.own z m :: l) st = (get st (GB + i) = some (.own z m) ∧ okO (i + 1) l st) := by simp [okO, isTup]
theorem oko_agg {i : Nat} {m l : List DV} {st : St} : okO i (.agg m :: l) st = (get st (GB + i) = some (.agg m) ∧ okO (i + 1) l st) := by simp [okO, isTup]
theorem c2_fn {Γ : TypeId → Option TI} {E : TypeId → Nat} {MU : FuncId → Nat → Nat} {F : FuncId → Option Func} {X : Rel} {f : FuncId} {fn : Func} {c : Code} {p : PC} (kp : Nat) (fz : Bool) {ds : List DV} {d : DV} {outs : List DV} {rs : List ResultVar} (hF : F f = some fn) (hb : fn.body = some c) (hp : prep c = some p) (hn : ds.length ≤ fn.ntmps) (hl : ds.length ≤ 900000) (hr : fn.results.toList = rs)
  (hw : PW Γ E MU (Call Γ E F X (Draw Γ E)) kp p (ini 0 ds) (EK Γ fz rs (eqP d outs) (cst outs))) : C2 (Call Γ E F X (Draw Γ E)) f ds d outs := by
 subst hr; exact c2_eq hF hb hp hn hl hw
theorem c2_fnG (i : Nat) {Γ : TypeId → Option TI} {E : TypeId → Nat} {MU : FuncId → Nat → Nat} {F : FuncId → Option Func} {X : Rel} {f : FuncId} {fn : Func} {c : Code} {p : PC} (kp : Nat) (fz : Bool) {ds : List DV} {d : DV} {outs : List DV} {rs : List ResultVar} (hF : F f = some fn) (hb : fn.body = some c) (hp : prep c = some p) (hn : ds.length ≤ fn.ntmps) (hl : ds.length ≤ 900000) (hr : fn.results.toList = rs)
  (hw : PW Γ E MU (Call Γ E F X (Draw Γ E)) kp p (ini 0 ds) (EKG i Γ fz rs (eqP d outs) (cst outs))) : C2 (Call Γ E F X (Draw Γ E)) f ds d outs := by
 subst hr; exact c2_eqG i hF hb hp hn hl hw
def leW (d' d : DV) : Prop := d' = d ∨ ∃ z, d' = .fv .nil ∧ d = .fv (.row z [])
def eqW (d : DV) (outs : List DV) : DV → List DV → Prop := fun d' o' => leW d' d ∧ o' = outs
theorem fk_w {d d' : DV} {outs : List DV} {st : St} : FK (eqW d outs) (cst outs) (some (d', st)) = (okO 0 outs st ∧ leW d' d) := by simp [FK, eqW, cst]
theorem leW_ok {h : Hp} {ow : Nat → Ow} {B : Nat} {p : Pt} {d' d : DV} {v : Value} (hl : leW d' d) (e : VR2 h ow B p d' v) : VR2 h ow B p d v := by
 rcases hl with rfl | ⟨z, rfl, rfl⟩
 ·exact e
 ·rcases e with ⟨l, vs, hk, _⟩ | ⟨k, hk⟩ | ⟨cs, h1, h2⟩
  ·cases hk
  ·cases hk
  ·right; right
   refine ⟨cs, ?_, h2⟩
   unfold DR FR at h1 ⊢
   subst h1
   exact .inl ⟨rfl, rfl⟩
theorem c2_fnW {Γ : TypeId → Option TI} {E : TypeId → Nat} {MU : FuncId → Nat → Nat} {F : FuncId → Option Func} {X : Rel} {f : FuncId} {fn : Func} {c : Code} {p : PC} (kp : Nat) (fz : Bool) {ds : List DV} {d : DV} {outs : List DV} {rs : List ResultVar} (hF : F f = some fn) (hb : fn.body = some c) (hp : prep c = some p) (hn : ds.length ≤ fn.ntmps) (hl : ds.length ≤ 900000) (hr : fn.results.toList = rs)
  (hw : PW Γ E MU (Call Γ E F X (Draw Γ E)) kp p (ini 0 ds) (EK Γ fz rs (eqW d outs) (cst outs))) : C2 (Call Γ E F X (Draw Γ E)) f ds d outs := by
 subst hr
 intro h ow vs h1 h2 h3 h4 h5 h6
 obtain ⟨d', o', v, h', ow', ⟨hle, rfl⟩, r1, r2, r3, r4, r5, r6, r7⟩ := c2_of hF hb hp hn hl hw h ow vs h1 h2 h3 h4 h5 h6
 exact ⟨v, h', ow', r1, r2, r3, r4, r5, leW_ok hle r6, r7⟩
section
variable {Γ : TypeId → Option TI} {E : TypeId → Nat} {MU : FuncId → Nat → Nat} {C : Rel}
def thK (Γ : TypeId → Option TI) (E : TypeId → Nat) (MU : FuncId → Nat → Nat) (C : Rel) (kp : Nat) (b : PC) (Q : Ex → St → Prop) : Ex → St → Prop := fun x st' => match x with
 | .norm => PW Γ E MU C kp b st' Q
 | x => Q x st'
def blK (id : Nat) (Q : Ex → St → Prop) : Ex → St → Prop := fun x st' => match x with
 | .exit i => if i = id then Q .norm st' else Q (.exit i) st'
 | x => Q x st'
def rdK (J : Nat → St → Prop) (n : Nat) (Q : Ex → St → Prop) : Ex → St → Prop := fun x st' => match x with
 | .norm => ∃ m, m < n ∧ ∃ st0, Sub st0 st' ∧ J m st0
 | x => Q x st'
variable {kp : Nat} {Q : Ex → St → Prop} {a b : PC} {st st' : St} {n id i : Nat} {l : List POp} {J : Nat → St → Prop}
def keK (kp : Nat) (Q : Ex → St → Prop) : St → Prop := fun st' => Q .norm (keepS kp st')
theorem keK_def : keK kp Q st = Q .norm (keepS kp st) := nr rfl
theorem ke_nil : keepS kp [] = [] := nr rfl
theorem ke_cons {r : Nat} {d : DV} : keepS kp ((r, d) :: st) = if keepB kp r = true then (r, d) :: keepS kp st else keepS kp st := nr rfl
theorem keB_def {r : Nat} : keepB kp r = (decide (1000000 ≤ r) || decide ((kp >>> r) % 2 = 1)) := nr rfl
theorem pw_skip : PW Γ E MU C kp .skip st Q = Q .norm st := nr rfl
theorem pw_ops : PW Γ E MU C kp (.ops n l) st Q = ((l.length ≤ n ∧ dOk l = true) ∧ OW Γ E MU C false l st (keK kp Q)) := nr rfl
theorem pw_seq : PW Γ E MU C kp (.seq a b) st Q = PW Γ E MU C kp a st (thK Γ E MU C kp b Q) := nr rfl
theorem pw_block : PW Γ E MU C kp (.block id b) st Q = PW Γ E MU C kp b st (blK id Q) := nr rfl
theorem pw_exit : PW Γ E MU C kp (.exit id) st Q = Q (.exit id) st := nr rfl
theorem pw_ret : PW Γ E MU C kp .ret st Q = Q .ret st := nr rfl
def tb (b w : Bool) : Prop := b = w
theorem tb_eq {b w : Bool} (h : tb b w) : b = w := h
inductive Wit (A : Prop) : Type where
 | mk
def TT (b : Bool) (A B : Prop) (_ : Wit A) (_ : Wit B) : Prop := (b = true → A) ∧ (b = false → B)
theorem tt_i {b : Bool} {A B : Prop} (h1 : tb b true → A) (h2 : tb b false → B) : TT b A B .mk .mk := ⟨h1, h2⟩
theorem tt_t {A B : Prop} : TT true A B .mk .mk = A := by simp [TT]
theorem tt_f {A B : Prop} : TT false A B .mk .mk = B := by simp [TT]
def CD (A B : Prop) : DV → Prop
 | .fv (.bool t) => (t = true → A) ∧ (t = false → B)
 | _ => False
theorem pw_cond {c : Operand} : PW Γ E MU C kp (.cond c a b) st Q = CD (PW Γ E MU C kp a st Q) (PW Γ E MU C kp b st Q) (ev2 st c) := by
 unfold CD; rw [PW]; rfl
theorem cd_bool {A B : Prop} {t : Bool} : CD A B (.fv (.bool t)) = TT t A B .mk .mk := nr rfl
theorem th_norm : thK Γ E MU C kp b Q .norm st = PW Γ E MU C kp b st Q := nr rfl
theorem th_exit : thK Γ E MU C kp b Q (.exit i) st = Q (.exit i) st := nr rfl
theorem th_ret : thK Γ E MU C kp b Q .ret st = Q .ret st := nr rfl
theorem bl_norm : blK id Q .norm st = Q .norm st := nr rfl
theorem bl_exit : blK id Q (.exit i) st = if i = id then Q .norm st else Q (.exit i) st := nr rfl
theorem bl_ret : blK id Q .ret st = Q .ret st := nr rfl
theorem rd_exit {m : Nat} : rdK J m Q (.exit i) st = Q (.exit i) st := nr rfl
theorem rd_ret {m : Nat} : rdK J m Q .ret st = Q .ret st := nr rfl
theorem pw_loop (J : Nat → St → Prop) (n : Nat) (st0 : St) (hs : Sub st0 st) (h0 : J n st0) (hr : ∀ n st, J n st → PW Γ E MU C kp b st (rdK J n Q)) : PW Γ E MU C kp (.loop b) st Q := by
 unfold PW
 intro X hX
 have key : ∀ n st0 st, Sub st0 st → J n st0 → X st := by
  intro n
  induction n using Nat.strongRecOn with
  | _ n ih =>
   intro st0 st hs hj
   refine hX st0 st hs (PW_mono (p := b) (fun x st' hx => ?_) (hr n st0 hj))
   cases x with
   | norm => obtain ⟨m, h1, st1, h2, h3⟩ := hx; exact ih m h1 st1 st' h2 h3
   | exit i => exact hx
   | ret => exact hx
 exact key n st0 st hs h0
def unK (Γ : TypeId → Option TI) (E : TypeId → Nat) (MU : FuncId → Nat → Nat) (C : Rel) (kp : Nat) (b : PC) (Q : Ex → St → Prop) : Ex → St → Prop := fun x st' => match x with
 | .norm => PW Γ E MU C kp (.loop b) st' Q
 | x => Q x st'
theorem un_exit : unK Γ E MU C kp b Q (.exit i) st = Q (.exit i) st := nr rfl
theorem pw_unroll (h : PW Γ E MU C kp b st (unK Γ E MU C kp b Q)) : PW Γ E MU C kp (.loop b) st Q := by
 unfold PW
 intro X hX
 refine hX st st (fun _ _ hh => hh) (PW_mono (p := b) (fun x st' hx => ?_) h)
 cases x with
 | norm =>
  have hx' : PW Γ E MU C kp (.loop b) st' Q := hx
  unfold PW at hx'
  exact hx' X hX
 | exit i => exact hx
 | ret => exact hx
theorem rd_norm {m : Nat} (st0 : St) (hs : Sub st0 st) (k : Nat) (hk : k < m) (h : J k st0) : rdK J m Q .norm st := ⟨k, hk, st0, hs, h⟩
theorem pw_draw {ops : Array Oper} (t : Txt) (h1 : okTxt Γ ops t ∧ dOk t.l = true) (h : OW Γ E MU C t.x t.l st (keK kp Q)) : PW Γ E MU C kp (.draw ops) st Q := by
 unfold PW; exact ⟨t, h1, .inl h⟩
def drOk (Γ : TypeId → Option TI) (ops : Array Oper) (am kd : List Nat) (x : Bool) : Bool := (prepO ops ops.toList).isSome && ancOk ops am && hazOk ops am && txtOk Γ ops am kd x && decide ((prepT kd ((prepO ops ops.toList).getD [])).length ≤ ops.size) && dOk (prepT kd ((prepO ops ops.toList).getD []))
theorem pw_draw2 {ops : Array Oper} (am kd : List Nat) (x : Bool) (h1 : drOk Γ ops am kd x = true) (h : OW Γ E MU C x (prepT kd ((prepO ops ops.toList).getD [])) st (keK kp Q)) : PW Γ E MU C kp (.draw ops) st Q := by
 unfold drOk at h1
 simp only [Bool.and_eq_true, decide_eq_true_eq] at h1
 obtain ⟨⟨⟨⟨⟨h1, h2⟩, h3⟩, h4⟩, h5⟩, h6⟩ := h1
 refine pw_draw ⟨am, kd, x, prepT kd ((prepO ops ops.toList).getD [])⟩ ⟨⟨_, ?_, rfl, h2, h3, h4, h5⟩, h6⟩ h
 cases hp : prepO ops ops.toList with
 | none => rw [hp] at h1; cases h1
 | some l => rfl
theorem pw_drawX {ops : Array Oper} (am kd : List Nat) (h1 : drOk Γ ops am kd true = true) (h : OX Γ E MU C (prepT kd ((prepO ops ops.toList).getD [])) st st (keK kp Q)) : PW Γ E MU C kp (.draw ops) st Q := by
 unfold drOk at h1
 simp only [Bool.and_eq_true, decide_eq_true_eq] at h1
 obtain ⟨⟨⟨⟨⟨h1, h2⟩, h3⟩, h4⟩, h5⟩, h6⟩ := h1
 unfold PW
 refine ⟨⟨am, kd, true, prepT kd ((prepO ops ops.toList).getD [])⟩, ⟨⟨_, ?_, rfl, h2, h3, h4, h5⟩, h6⟩, Or.inr ⟨rfl, st, .inl rfl, h⟩⟩
 cases hp : prepO ops ops.toList with
 | none => rw [hp] at h1; cases h1
 | some l => rfl
def fzX (Γ : TypeId → Option TI) (E : TypeId → Nat) (MU : FuncId → Nat → Nat) (C : Rel) (l : List POp) (K : St → Prop) : Option (FV × St) → Prop
 | some (_, st1) => OX Γ E MU C l st1 st1 K
 | none => False
theorem sub_nil : Sub [] st := fun r d h => by cases h
theorem sub_cons {r : Nat} {d : DV} {a : St} (h1 : get st r = some d) (h2 : Sub a st) : Sub ((r, d) :: a) st := fun q e h => by
 unfold get at h
 split at h
 ·rename_i hq; injection h with h; subst h; subst hq; exact h1
 ·exact h2 q e h
def SubC : St → St → Prop
 | [], _ => True
 | (r, d) :: a, st => get st r = some d ∧ SubC a st
theorem sub_of : ∀ {a st : St}, SubC a st → Sub a st
 | [], st, _ => sub_nil
 | (r, d) :: a, st, h => sub_cons h.1 (sub_of h.2)
theorem subC_nil : SubC [] st = True := nr rfl
theorem subC_cons {r : Nat} {d : DV} {a : St} : SubC ((r, d) :: a) st = (get st r = some d ∧ SubC a st) := nr rfl
theorem dok_nil : dOk [] = true := nr rfl
theorem dok_some {r : Nat} {g : Option (Nat × Bool)} {op : Op} {l : List POp} : dOk (⟨some r, g, op⟩ :: l) = (decide (r < 900000) && dOk l) := nr rfl
theorem dok_none {g : Option (Nat × Bool)} {op : Op} {l : List POp} : dOk (⟨none, g, op⟩ :: l) = dOk l := nr rfl
variable {x : Bool} {K : St → Prop} {d : Option Nat} {op : Op} {r : Nat}
def SK (Γ : TypeId → Option TI) (E : TypeId → Nat) (MU : FuncId → Nat → Nat) (C : Rel) (x : Bool) (l : List POp) (K : St → Prop) : Option St → Prop
 | some st => OW Γ E MU C x l st K
 | none => False
def AK (Γ : TypeId → Option TI) (E : TypeId → Nat) (MU : FuncId → Nat → Nat) (C : Rel) (x : Bool) (l : List POp) (K : St → Prop) : Option (St × Nat) → Prop
 | some (st, n) => n ≤ 1073741824 ∧ OW Γ E MU C x l st K
 | none => False
def afK (Γ : TypeId → Option TI) (E : TypeId → Nat) (MU : FuncId → Nat → Nat) (C : Rel) (x : Bool) (mv : MV) (d : Option Nat) (st : St) (l : List POp) (K : St → Prop) : DV → List DV → Prop := fun r outs => OW Γ E MU C x l (aft mv d r outs st) K
theorem afK_eq {mv : MV} {v : DV} {outs : List DV} : afK Γ E MU C x mv d st l K v outs = OW Γ E MU C x l (aft mv d v outs st) K := nr rfl
def LK (Γ : TypeId → Option TI) (E : TypeId → Nat) (MU : FuncId → Nat → Nat) (C : Rel) (x : Bool) (d : Option Nat) (l : List POp) (K : St → Prop) : Option (FuncId × List DV × List Pt × MV × St) → Prop
 | some (g, ds, L, mv, st1) => (x = true → mv = []) ∧ CK C g ds L (afK Γ E MU C x mv d st1 l K)
 | none => False
theorem sk_some : SK Γ E MU C x l K (some st) = OW Γ E MU C x l st K := nr rfl
theorem ak_some : AK Γ E MU C x l K (some (st, n)) = (n ≤ 1073741824 ∧ OW Γ E MU C x l st K) := nr rfl
theorem lk_some {g : FuncId} {ds : List DV} {L : List Pt} {mv : MV} : LK Γ E MU C x d l K (some (g, ds, L, mv, st)) = ((x = true → mv = []) ∧ CK C g ds L (afK Γ E MU C x mv d st l K)) := nr rfl
theorem ow_nil : OW Γ E MU C x [] st K = K st := by rw [OW]
theorem ow_cons : OW Γ E MU C x (⟨d, none, op⟩ :: l) st K = O1 Γ E MU C x d op l st K := by rw [OW]
def GK (A B : Prop) (w : Bool) : Option DV → Prop
 | some (.fv (.bool b)) => (b = w → A) ∧ (b = (!w) → B)
 | some (.tup []) => B
 | _ => False
theorem ow_guard {j : Nat} {w : Bool} : OW Γ E MU C x (⟨d, some (j, w), op⟩ :: l) st K = (j < LB ∧ GK (O1 Γ E MU C x d op l st K) (OW Γ E MU C x l (putU d st) K) w (get st j)) := by
 rw [OW]; unfold GK; rfl
theorem gk_t {A B : Prop} {b : Bool} : GK A B true (some (.fv (.bool b))) = TT b A B .mk .mk := by simp [GK, TT]
theorem gk_f {A B : Prop} {b : Bool} : GK A B false (some (.fv (.bool b))) = TT b B A .mk .mk := by simp [GK, TT, And.comm]
theorem gk_u {A B : Prop} {w : Bool} : GK A B w (some (.tup [])) = B := nr rfl
theorem putU_some : putU (some r) st = (r, .tup []) :: clr r st := nr rfl
theorem o1_move {y : Operand} : O1 Γ E MU C x (some r) (.move y) l st K = SK Γ E MU C x l K (if r < LB then mv2 st r y else none) := by unfold O1 SK; rfl
theorem o1_assign {y : Operand} : O1 Γ E MU C x (some r) (.assign y) l st K = SK Γ E MU C x l K (if r < LB then as2 st r y else none) := by unfold O1 SK; rfl
theorem o1_extract {t j : Nat} : O1 Γ E MU C x (some r) (.extract (.tmp t) j) l st K = SK Γ E MU C x l K (if r < LB ∧ t < LB then ex2 t j r st else none) := by unfold O1 SK; rfl
theorem o1_alloc {t : TypeId} : O1 Γ E MU C x (some r) (.alloc t) l st K = SK Γ E MU C x l K (if r < LB then al2 Γ st r t else none) := by unfold O1 SK; rfl
theorem o1_box {t : TypeId} {y : Operand} : O1 Γ E MU C x (some r) (.box t y) l st K = SK Γ E MU C x l K (if r < LB then bxR st r y else none) := by unfold O1 SK; rfl
theorem o1_bs {t : TypeId} {len : Nat} {ps : Array (Nat × Operand)} : O1 Γ E MU C x (some r) (.buildSlice t len ps) l st K = SK Γ E MU C x l K (if r < LB then bs2 Γ st r t len ps.toList else none) := by unfold O1 SK; rfl
theorem o1_ms {t : TypeId} {a b : Operand} : O1 Γ E MU C x (some r) (.makeSlice t a b) l st K = SK Γ E MU C x l K (if r < LB then ms2 Γ st r t (ev2 st a) (ev2 st b) else none) := by unfold O1 SK; rfl
theorem o1_mf {f : FuncId} {a b : Array Operand} : O1 Γ E MU C x (some r) (.makeFunc (.func f) a b) l st K = SK Γ E MU C x l K (if r < LB then mf2 st r f a.toList b.toList else none) := by unfold O1 SK; rfl
theorem o1_slice {t : TypeId} {y : Operand} {lo hi : Option Operand} : O1 Γ E MU C x (some r) (.slice t y lo hi none) l st K = SK Γ E MU C x l K (if r < LB then sl2 Γ st r t y lo hi else none) := by unfold O1 SK; rfl
theorem o1_store {t : TypeId} {a y : Operand} : O1 Γ E MU C x none (.store t a y) l st K = SK Γ E MU C x l K (so2 Γ st t (ev2 st a) (ev2 st y)) := by unfold O1 SK; rfl
def putM (r : Nat) (st : St) (d : Option DV) : Option St := d.map fun d => put r d st
theorem putM_some {d : DV} : putM r st (some d) = some (put r d st) := nr rfl
theorem o1_build {t : TypeId} {ps : Array (Nat × Operand)} : O1 Γ E MU C x (some r) (.build t ps) l st K = SK Γ E MU C x l K (if r < LB then putM r st (bd2 Γ st t ps.toList) else none) := by unfold O1 SK; rfl
def cvA (Γ : TypeId → Option TI) (st : St) (r : Nat) (t u : TypeId) (y : DV) : Option DV → Option St
 | some d => some (put r d st)
 | none => match cb2 Γ st r t u y with
  | some st' => some st'
  | none => putM r st (tx2 Γ st t u y)
theorem o1_convert {t u : TypeId} {y : Operand} : O1 Γ E MU C x (some r) (.convert t u y) l st K = SK Γ E MU C x l K (if r < LB then cvA Γ st r t u (ev2 st y) (cv2 Γ t u (ev2 st y)) else none) := by
 unfold O1 SK cvA; rfl
theorem o1_pick {a b c : Operand} : O1 Γ E MU C x (some r) (.pick a b c) l st K = SK Γ E MU C x l K (if r < LB then putM r st (pk (ev2 st a) (ev2 st b) (ev2 st c)) else none) := by unfold O1 SK; rfl
theorem o1_bin {o : BinOp} {t z : TypeId} {a b : Operand} : O1 Γ E MU C x (some r) (.binOp o t a b z) l st K = TT (anE Γ o t (ev2 st a) (ev2 st b)) (r < LB ∧ ∀ w : Bool, OW Γ E MU C x l (put r (.fv (.bool w)) st) K) (SK Γ E MU C x l K (if r < LB then putM r st (bin2 Γ E o t (ev2 st a) (ev2 st b)) else none)) .mk .mk := by
 unfold O1 SK
 show (if anE Γ o t (ev2 st a) (ev2 st b) = true then _ else _) = _
 cases anE Γ o t (ev2 st a) (ev2 st b) with
 | true => rw [if_pos rfl, tt_t]
 | false => rw [if_neg (by simp), tt_f]; rfl
theorem anE_int {Γ : TypeId → Option TI} {o : BinOp} {t : TypeId} {k : IntKind} {n : Int} {b : DV} : anE Γ o t (.fv (.int k n)) b = false := by cases o <;> rfl
theorem anE_bool {Γ : TypeId → Option TI} {o : BinOp} {t : TypeId} {n : Bool} {b : DV} : anE Γ o t (.fv (.bool n)) b = false := by cases o <;> rfl
theorem anE_row {Γ : TypeId → Option TI} {t e a1 a2 : Nat} {z : Nat} {v : List FV} {zz : List Value} (h : Γ t = some ⟨.slice e, a1, a2, zz⟩) : anE Γ .eql t (.fv (.row z v)) (.fv .nil) = v.isEmpty := by
 show (v.isEmpty && _) = _
 rw [h]; simp
def un2 (o : UnOp) (d : DV) : Option DV := (sv d).bind fun x => (unV o x).map ofV
theorem o1_un {o : UnOp} {t : TypeId} {a : Operand} : O1 Γ E MU C x (some r) (.unOp o t a) l st K = SK Γ E MU C x l K (if r < LB then putM r st (un2 o (ev2 st a)) else none) := by unfold O1 SK; rfl
theorem o1_fa {t : TypeId} {a : Operand} {f : Nat} : O1 Γ E MU C x (some r) (.fieldAddr t a f) l st K = SK Γ E MU C x l K (if r < LB then putM r st (fa2 Γ t f (ev2 st a)) else none) := by unfold O1 SK; rfl
theorem o1_ia {t : TypeId} {a b : Operand} : O1 Γ E MU C x (some r) (.indexAddr t a b) l st K = SK Γ E MU C x l K (if r < LB then putM r st (ia2 Γ t (ev2 st a) (ev2 st b)) else none) := by unfold O1 SK; rfl
theorem o1_ld {t : TypeId} {a : Operand} : O1 Γ E MU C x (some r) (.load t a) l st K = SK Γ E MU C x l K (if r < LB then putM r st (ld2 Γ st t (ev2 st a)) else none) := by unfold O1 SK; rfl
theorem o1_len {t : TypeId} {a : Operand} : O1 Γ E MU C x (some r) (.call { callee := .builtin .len, args := ⟨[a]⟩, argTypes := ⟨[t]⟩ }) l st K = SK Γ E MU C x l K (if r < LB then putM r st (len2 Γ t (ev2 st a)) else none) := by unfold O1 SK; rfl
theorem o1_append {t u : TypeId} {a b : Operand} : O1 Γ E MU C x (some r) (.call { callee := .builtin .append, args := ⟨[a, b]⟩, argTypes := ⟨[t, u]⟩ }) l st K = (r < LB ∧ AK Γ E MU C x l K (ap2 Γ st r t u (ev2 st a) (ev2 st b))) := by
 unfold O1 AK
 simp only
 cases ap2 Γ st r t u (ev2 st a) (ev2 st b) with
 | none => simp
 | some s => rfl
theorem o1_call {f : Operand} {as : Array Operand} {ts : Array TypeId} : O1 Γ E MU C x d (.call { callee := .value f, args := as, argTypes := ts }) l st K = LK Γ E MU C x d l K (cl2 MU st d f as.toList) := by
 unfold O1 LK
 cases cl2 MU st d f as.toList with
 | none => rfl
 | some s => rfl
def XK (Γ : TypeId → Option TI) (E : TypeId → Nat) (MU : FuncId → Nat → Nat) (C : Rel) (l : List POp) (K : St → Prop) (so : St) : Option St → Prop
 | some st => OX Γ E MU C l st so K
 | none => False
theorem xk_some {so : St} : XK Γ E MU C l K so (some st) = OX Γ E MU C l st so K := nr rfl
def axK (Γ : TypeId → Option TI) (E : TypeId → Nat) (MU : FuncId → Nat → Nat) (C : Rel) (d : Option Nat) (st so : St) (l : List POp) (K : St → Prop) : DV → List DV → Prop := fun r outs => OX Γ E MU C l (aft [] d r outs st) so K
theorem axK_eq {v : DV} {outs : List DV} {so : St} : axK Γ E MU C d st so l K v outs = OX Γ E MU C l (aft [] d v outs st) so K := nr rfl
def soX (d : Option Nat) (so : St) (b : Bool) : St := if b = true then soC (some (d.getD LB)) so else []
theorem soX_t {so : St} : soX d so true = soC (some (d.getD LB)) so := nr rfl
theorem soX_f {so : St} : soX d so false = [] := nr rfl
theorem soC_some {so : St} : soC (some r) so = clr r so := nr rfl
def LX (Γ : TypeId → Option TI) (E : TypeId → Nat) (MU : FuncId → Nat → Nat) (C : Rel) (d : Option Nat) (l : List POp) (K : St → Prop) (xs : List Operand) (st so : St) : Option (FuncId × List DV × List Pt × MV × St) → Prop
 | some (g, ds, L, mv, st1) => mv = [] ∧ CK C g ds L (axK Γ E MU C d st1 (soX d so (noFr st (frzs MU g xs))) l K)
 | none => False
theorem lx_some {g : FuncId} {ds : List DV} {L : List Pt} {mv : MV} {xs : List Operand} {so st1 : St} : LX Γ E MU C d l K xs st so (some (g, ds, L, mv, st1)) = (mv = [] ∧ CK C g ds L (axK Γ E MU C d st1 (soX d so (noFr st (frzs MU g xs))) l K)) := nr rfl
theorem ox_nil {so : St} : OX Γ E MU C [] st so K = K st := by rw [OX]
theorem ox_cons {so : St} : OX Γ E MU C (⟨d, none, op⟩ :: l) st so K = X1 Γ E MU C d op l st so K := by rw [OX]
theorem ox_guard {so : St} {j : Nat} {w : Bool} : OX Γ E MU C (⟨d, some (j, w), op⟩ :: l) st so K = (j < LB ∧ GK (X1 Γ E MU C d op l st so K) (OX Γ E MU C l (putU d st) (soC d so) K) w (get st j)) := by
 rw [OX]; unfold GK; rfl
theorem soP_some {so : St} {e : DV} : soP r (some e) so = put r e so := nr rfl
theorem soP_none {so : St} : soP r none so = clr r so := nr rfl
def PXM (Γ : TypeId → Option TI) (E : TypeId → Nat) (MU : FuncId → Nat → Nat) (C : Rel) (r : Nat) (l : List POp) (st so : St) (K : St → Prop) (alt : Option St) (q : Option DV) : Option DV → Prop
 | some e => r < LB ∧ OX Γ E MU C l (put r e st) (soP r q so) K
 | none => XK Γ E MU C l K [] alt
theorem pxm_some {so : St} {alt : Option St} {q : Option DV} {e : DV} : PXM Γ E MU C r l st so K alt q (some e) = (r < LB ∧ OX Γ E MU C l (put r e st) (soP r q so) K) := nr rfl
theorem pxm_none {so : St} {alt : Option St} {q : Option DV} : PXM Γ E MU C r l st so K alt q none = XK Γ E MU C l K [] alt := nr rfl
theorem x1_gen {so : St} (hn : ∀ f as ts, op ≠ .call { callee := .value f, args := as, argTypes := ts }) : X1 Γ E MU C (some r) op l st so K = PXM Γ E MU C r l st so K (stp Γ E st (some r) op) (adr Γ st so op) (purX Γ E st op) := by
 unfold X1
 split
 ·rename_i f as ts; exact absurd rfl (hn f as ts)
 ·simp only
  cases purX Γ E st op with
  | some e => rfl
  | none => cases stp Γ E st (some r) op <;> rfl
theorem x1_ldq {so : St} {a : Operand} {t : Nat} {ts : Array TypeId} : X1 Γ E MU C (some r) (.call { callee := .value (.func 4294967295), args := ⟨[a, .const (.int .i64 (Int.ofNat t))]⟩, argTypes := ts }) l st so K = (knP (ev2 so a) ∧ PXM Γ E MU C r l st so K none (ld2 Γ so t (ev2 so a)) (ld2 Γ st t (ev2 st a))) := by
 unfold X1
 show (if isPS (.func 4294967295) = true then _ else _) = _
 rw [if_pos (show isPS (.func 4294967295) = true from rfl)]
 show ((knP (ev2 so a) ∧ r < LB) ∧ _) = _
 cases ld2 Γ st t (ev2 st a) with
 | none => simp [PXM, XK]
 | some e => simp only [PXM, and_assoc]
theorem x1_call {so : St} {g : FuncId} {as : Array Operand} {ts : Array TypeId} (hg : (g == 4294967295) = false) : X1 Γ E MU C d (.call { callee := .value (.func g), args := as, argTypes := ts }) l st so K = LX Γ E MU C d l K as.toList st so (cl2 MU st d (.func g) as.toList) := by
 unfold X1 LX
 show (if isPS (.func g) = true then _ else _) = _
 rw [if_neg (show ¬ isPS (.func g) = true by show ¬ (g == 4294967295) = true; rw [hg]; simp)]
 cases cl2 MU st d (.func g) as.toList with
 | none => rfl
 | some s =>
  obtain ⟨g1, ds, L, mv, st1⟩ := s
  show (mv = [] ∧ _) = (mv = [] ∧ _)
  apply propext
  constructor
  ·rintro ⟨rfl, h⟩; exact ⟨rfl, h⟩
  ·rintro ⟨rfl, h⟩; exact ⟨rfl, h⟩
theorem pxm_alt {so : St} {q o : Option DV} : PXM Γ E MU C r l st so K (if r < LB then putM r st o else none) q o = PXM Γ E MU C r l st so K none q o := by
 cases o with
 | some e => rfl
 | none => unfold PXM putM; simp [XK]
theorem x1_move {so : St} {y : Operand} : X1 Γ E MU C (some r) (.move y) l st so K = PXM Γ E MU C r l st so K (if r < LB then mv2 st r y else none) (some (ev2 so y)) (mvP st y) := x1_gen (fun f as ts h => by cases h)
theorem x1_assign {so : St} {y : Operand} : X1 Γ E MU C (some r) (.assign y) l st so K = PXM Γ E MU C r l st so K (if r < LB then as2 st r y else none) (some (ev2 so y)) (asP st y) := x1_gen (fun f as ts h => by cases h)
theorem x1_pick {so : St} {a b c : Operand} : X1 Γ E MU C (some r) (.pick a b c) l st so K = PXM Γ E MU C r l st so K (none) (none) (pk (ev2 st a) (ev2 st b) (ev2 st c)) := by
 rw [x1_gen (fun f as ts h => by cases h)]
 show PXM Γ E MU C r l st so K (if r < LB then putM r st (pk (ev2 st a) (ev2 st b) (ev2 st c)) else none) (none) (pk (ev2 st a) (ev2 st b) (ev2 st c)) = _
 exact pxm_alt
theorem x1_bin {so : St} {o : BinOp} {t z : TypeId} {a b : Operand} : X1 Γ E MU C (some r) (.binOp o t a b z) l st so K = PXM Γ E MU C r l st so K (none) (none) (bin2 Γ E o t (ev2 st a) (ev2 st b)) := by
 rw [x1_gen (fun f as ts h => by cases h)]
 show PXM Γ E MU C r l st so K (if r < LB then putM r st (bin2 Γ E o t (ev2 st a) (ev2 st b)) else none) (none) (bin2 Γ E o t (ev2 st a) (ev2 st b)) = _
 exact pxm_alt
theorem x1_un {so : St} {o : UnOp} {t : TypeId} {a : Operand} : X1 Γ E MU C (some r) (.unOp o t a) l st so K = PXM Γ E MU C r l st so K (none) (none) (un2 o (ev2 st a)) := by
 rw [x1_gen (fun f as ts h => by cases h)]
 show PXM Γ E MU C r l st so K (if r < LB then putM r st (un2 o (ev2 st a)) else none) (none) (un2 o (ev2 st a)) = _
 exact pxm_alt
theorem x1_fa {so : St} {t : TypeId} {a : Operand} {f : Nat} : X1 Γ E MU C (some r) (.fieldAddr t a f) l st so K = PXM Γ E MU C r l st so K (none) (fa2 Γ t f (ev2 so a)) (fa2 Γ t f (ev2 st a)) := by
 rw [x1_gen (fun f as ts h => by cases h)]
 show PXM Γ E MU C r l st so K (if r < LB then putM r st (fa2 Γ t f (ev2 st a)) else none) (fa2 Γ t f (ev2 so a)) (fa2 Γ t f (ev2 st a)) = _
 exact pxm_alt
theorem x1_ld {so : St} {t : TypeId} {a : Operand} : X1 Γ E MU C (some r) (.load t a) l st so K = PXM Γ E MU C r l st so K (none) (ld2 Γ so t (ev2 so a)) (ld2 Γ st t (ev2 st a)) := by
 rw [x1_gen (fun f as ts h => by cases h)]
 show PXM Γ E MU C r l st so K (if r < LB then putM r st (ld2 Γ st t (ev2 st a)) else none) (ld2 Γ so t (ev2 so a)) (ld2 Γ st t (ev2 st a)) = _
 exact pxm_alt
theorem noFr_nil : noFr st [] = true := nr rfl
theorem noFr_cons {y : Operand} {ys : List Operand} : noFr st (y :: ys) = (nfD (ev2 st y) && noFr st ys) := nr rfl
theorem nfD_fv {v : FV} : nfD (.fv v) = true := nr rfl
theorem nfD_hdr {p : Pt} {z k : Nat} : nfD (.hdr p z k) = false := nr rfl
theorem frzs_def {g : FuncId} {xs : List Operand} : frzs MU g xs = (xs.zipIdx).filterMap fun p => if MU g p.2 = 0 then some p.1 else none := nr rfl
theorem knP_ptr {p : Pt} {w : List Nat} {o : Nat} : knP (.ptr p w o) = True := nr rfl
def mvQ (st : St) (t : Nat) : Option DV → Option DV
 | some (.tup _) => none
 | some _ => some (ev2 st (.tmp t))
 | none => none
theorem mvP_tmp {t : Nat} : mvP st (.tmp t) = mvQ st t (get st t) := by
 show (get st t).bind _ = _
 cases get st t with
 | none => rfl
 | some d => cases d <;> rfl
theorem mvQ_fv {t : Nat} {v : FV} : mvQ st t (some (.fv v)) = some (ev2 st (.tmp t)) := nr rfl
theorem mvQ_own {t z : Nat} {l : List DV} : mvQ st t (some (.own z l)) = some (ev2 st (.tmp t)) := nr rfl
def asQ (st : St) (t : Nat) : Option DV → Option DV
 | some (.tup _) => none
 | some d => if noOwn d = true then some (ev2 st (.tmp t)) else none
 | none => none
theorem asP_tmp {t : Nat} : asP st (.tmp t) = asQ st t (get st t) := by
 show (get st t).bind _ = _
 cases get st t with
 | none => rfl
 | some d => cases d <;> rfl
theorem asQ_own {t z : Nat} {l : List DV} : asQ st t (some (.own z l)) = none := nr rfl
theorem asQ_fv {t : Nat} {v : FV} : asQ st t (some (.fv v)) = some (ev2 st (.tmp t)) := nr rfl
theorem ek_norm {fz : Bool} {rs : List ResultVar} {P : DV → List DV → Prop} {outs : St → List DV} (h : FK P outs (fin2 Γ fz rs st)) : EK Γ fz rs P outs .norm st := by
 unfold FK at h
 cases hf : fin2 Γ fz rs st with
 | none => rw [hf] at h; exact h.elim
 | some r => rw [hf] at h; exact ⟨.inl rfl, r.1, r.2, hf, h⟩
theorem ek_ret {fz : Bool} {rs : List ResultVar} {P : DV → List DV → Prop} {outs : St → List DV} (h : FK P outs (fin2 Γ fz rs st)) : EK Γ fz rs P outs .ret st := by
 unfold FK at h
 cases hf : fin2 Γ fz rs st with
 | none => rw [hf] at h; exact h.elim
 | some r => rw [hf] at h; exact ⟨.inr rfl, r.1, r.2, hf, h⟩
theorem ekg_norm {i : Nat} {fz : Bool} {rs : List ResultVar} {P : DV → List DV → Prop} {outs : St → List DV} (h : FK P outs (fin2 Γ fz rs (gbS i st))) : EKG i Γ fz rs P outs .norm st := ek_norm h
theorem ekg_ret {i : Nat} {fz : Bool} {rs : List ResultVar} {P : DV → List DV → Prop} {outs : St → List DV} (h : FK P outs (fin2 Γ fz rs (gbS i st))) : EKG i Γ fz rs P outs .ret st := ek_ret h
theorem gbS_def {i : Nat} : gbS i st = gb1 i st (get st (GB + i)) := nr rfl
theorem gb1_agg {i : Nat} {q : Pt} {z k : Nat} {l : List DV} : gb1 i st (some (.agg (.hdr q z k :: l))) = gb4 i q l st (clr (GB + i) st) (node (clr (GB + i) st) q) := nr rfl
theorem gb4_own {i : Nat} {q : Pt} {st1 : St} {z : Nat} {l' l : List DV} : gb4 i q l st st1 (some (.own z l')) = if fvs l = true then gb5 i z l' l st (nset (belB q) st1 q (.junk 1)) else st := nr rfl
theorem gb5_some {i z : Nat} {l' l : List DV} {st2 : St} : gb5 i z l' l st (some st2) = (GB + i, .agg (.own z l' :: l)) :: st2 := nr rfl
theorem ck_intro {g : FuncId} {ds : List DV} {L : List Pt} {KK : DV → List DV → Prop} {v : DV} {outs : List DV} (h : C2 C g ds v outs) (h1 : noRef v = true ∧ noRefs outs = true ∧ (L = [] ∨ (clD v = true ∧ clDs outs = true))) (h2 : KK v outs) : CK C g ds L KK := ⟨v, outs, h, h1, h2⟩
end
def mskL (l : List Nat) : Nat := l.foldl (fun m r => m ||| (1 <<< r)) 0
def regO : Operand → List Nat
 | .tmp t => [t]
 | _ => []
def msk2 (l : List Nat) (p : Nat × Nat) : Nat × Nat := (p.1 ||| mskL l, p.2 ||| (p.1 &&& mskL l))
def keepP : PC → Nat × Nat → Nat × Nat
 | .ops n l, p => msk2 (l.flatMap fun o => (match o.g with | some (j, _) => [j] | none => []) ++ (match o.d with | some r => [r] | none => []) ++ o.op.operands.toList.flatMap regO) p
 | .draw ops, p => msk2 (ops.toList.flatMap fun o => (match o.dst with | some r => [r] | none => []) ++ o.op.operands.toList.flatMap regO) p
 | .seq a b, p => keepP b (keepP a p)
 | .cond c a b, p => keepP b (keepP a (msk2 (regO c) p))
 | .block _ b, p => keepP b p
 | .loop b, p => keepP b p
 | _, p => p
def keepF (fn : Func) : Nat := match fn.body.bind prep with
 | some p => (keepP p (msk2 (fn.results.toList.map fun r => match r with | .tmp t => t | .cell a _ => a) (mskL (List.range (fn.params.size + 6)), 0))).2
 | none => 0
section
variable {Γ : TypeId → Option TI} {E : TypeId → Nat} {MU : FuncId → Nat → Nat} {C : Rel} {kp : Nat} {Q : Ex → St → Prop} {p : PC} {st st' : St} {x : Bool} {l : List POp} {K : St → Prop} {d : Option Nat} {op : Op}
@[congr] theorem PW_c (h : st = st') : PW Γ E MU C kp p st Q = PW Γ E MU C kp p st' Q := by rw [h]
@[congr] theorem OX_c {so so' : St} (h : st = st') (h2 : so = so') : OX Γ E MU C l st so K = OX Γ E MU C l st' so' K := by rw [h, h2]
@[congr] theorem X1_c {so so' : St} (h : st = st') (h2 : so = so') : X1 Γ E MU C d op l st so K = X1 Γ E MU C d op l st' so' K := by rw [h, h2]
@[congr] theorem PXM_c {r : Nat} {so : St} {alt : Option St} {q q' o o' : Option DV} (h : q = q') (h2 : o = o') : PXM Γ E MU C r l st so K alt q o = PXM Γ E MU C r l st so K alt q' o' := by rw [h, h2]
@[congr] theorem XK_c {so : St} {o o' : Option St} (h : o = o') : XK Γ E MU C l K so o = XK Γ E MU C l K so o' := by rw [h]
@[congr] theorem LX_c {xs : List Operand} {so : St} {o o' : Option (FuncId × List DV × List Pt × MV × St)} (h : o = o') : LX Γ E MU C d l K xs st so o = LX Γ E MU C d l K xs st so o' := by rw [h]
@[congr] theorem fzX_c {l : List POp} {K : St → Prop} {o o' : Option (FV × St)} (h : o = o') : fzX Γ E MU C l K o = fzX Γ E MU C l K o' := h ▸ rfl
@[congr] theorem axK_c {so : St} {v : DV} {outs : List DV} : axK Γ E MU C d st so l K v outs = axK Γ E MU C d st so l K v outs := rfl
@[congr] theorem OW_c (h : st = st') : OW Γ E MU C x l st K = OW Γ E MU C x l st' K := by rw [h]
@[congr] theorem O1_c (h : st = st') : O1 Γ E MU C x d op l st K = O1 Γ E MU C x d op l st' K := by rw [h]
@[congr] theorem SK_c {o o' : Option St} (h : o = o') : SK Γ E MU C x l K o = SK Γ E MU C x l K o' := by rw [h]
@[congr] theorem AK_c {o o' : Option (St × Nat)} (h : o = o') : AK Γ E MU C x l K o = AK Γ E MU C x l K o' := by rw [h]
@[congr] theorem LK_c {o o' : Option (FuncId × List DV × List Pt × MV × St)} (h : o = o') : LK Γ E MU C x d l K o = LK Γ E MU C x d l K o' := by rw [h]
@[congr] theorem CK_c {g : FuncId} {ds ds' : List DV} {L : List Pt} {KK : DV → List DV → Prop} (h : ds = ds') : CK C g ds L KK = CK C g ds' L KK := by rw [h]
@[congr] theorem GK_c {A B : Prop} {w : Bool} {o o' : Option DV} (h : o = o') : GK A B w o = GK A B w o' := by rw [h]
@[congr] theorem CD_c {A B : Prop} {o o' : DV} (h : o = o') : CD A B o = CD A B o' := by rw [h]
@[congr] theorem FK_c {P : DV → List DV → Prop} {outs : St → List DV} {o o' : Option (DV × St)} (h : o = o') : FK P outs o = FK P outs o' := by rw [h]
@[congr] theorem thK_c {b : PC} {e : Ex} : thK Γ E MU C kp b Q e st = thK Γ E MU C kp b Q e st := rfl
@[congr] theorem unK_c {b : PC} {e : Ex} : unK Γ E MU C kp b Q e st = unK Γ E MU C kp b Q e st := rfl
@[congr] theorem blK_c {id : Nat} {e : Ex} : blK id Q e st = blK id Q e st := rfl
@[congr] theorem rdK_c {J : Nat → St → Prop} {n : Nat} {e : Ex} : rdK J n Q e st = rdK J n Q e st := rfl
@[congr] theorem EK_c {fz : Bool} {rs : List ResultVar} {P : DV → List DV → Prop} {outs : St → List DV} {e : Ex} : EK Γ fz rs P outs e st = EK Γ fz rs P outs e st := rfl
@[congr] theorem keK_c : keK kp Q st = keK kp Q st := rfl
@[congr] theorem afK_c {mv : MV} {v : DV} {outs : List DV} : afK Γ E MU C x mv d st l K v outs = afK Γ E MU C x mv d st l K v outs := rfl
end
end Go.Proofs.YtonpnjfclelpiaaGreatM
