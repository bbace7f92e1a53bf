import Derived.Test.YtonpnjfclelpiaaGreatVDMvk
import Derived.Attr
namespace Go.Proofs.YtonpnjfclelpiaaGreatM
open Go
set_option linter.unusedVariables false
set_option linter.unusedSimpArgs false
section
variable {Γ : TypeId → Option TI} {E : TypeId → Nat} {MU : FuncId → Nat → Nat} {C : Rel} {st st' : St} {r q k z n o t j i : Nat} {d d' x y : DV} {v : FV} {l : List DV} {vs : List FV} {w : List Nat} {p : Pt} {a : Pt → Bool}
theorem LB_eq : LB = 900000 := nr rfl
theorem GB_eq : GB = 1000000 := nr rfl
theorem get_nil : get [] r = none := nr rfl
theorem get_cons : get ((k, d) :: st) r = if r = k then some d else get st r := nr rfl
theorem clr_def : clr r st = klS (atR r) (rm r st) := nr rfl
theorem klS_nil : klS a [] = [] := nr rfl
theorem klS_cons : klS a ((k, d) :: st) = (k, kl a d) :: klS a st := nr rfl
theorem rm_nil : rm r [] = [] := nr rfl
theorem rm_cons : rm r ((k, d) :: st) = if k = r then rm r st else (k, d) :: rm r st := nr rfl
theorem setR_nil : setR r x [] = [] := nr rfl
theorem setR_cons : setR r x ((k, d) :: st) = if k = r then (k, x) :: st else (k, d) :: setR r x st := nr rfl
theorem put_def : put r d st = (r, kl (atR r) d) :: clr r st := nr rfl
theorem kl_fv : kl a (.fv v) = .fv v := nr rfl
theorem kl_own : kl a (.own z l) = .own z l := nr rfl
theorem kl_box : kl a (.box d) = .box d := nr rfl
theorem kl_junk : kl a (.junk k) = .junk k := nr rfl
theorem kl_hdr : kl a (.hdr p z k) = if a p = true then .junk 1 else .hdr p z k := nr rfl
theorem kl_ptr : kl a (.ptr p w o) = if a p = true then .junk 1 else .ptr p w o := nr rfl
theorem kl_aggE : kl a (.agg l) = .agg (kls a l) := nr rfl
theorem kl_tup : kl a (.tup l) = .tup (kls a l) := nr rfl
theorem kls_nil : kls a [] = [] := nr rfl
theorem kls_cons : kls a (d :: l) = kl a d :: kls a l := nr rfl
theorem atR_def : atR r p = (p.1 == r || p.1 == 900000) := nr rfl
theorem atL_def : atL p = (p.1 == 900000) := nr rfl
theorem belB_def {p q : Pt} : belB p q = (p.1 == q.1 && p.2.isPrefixOf q.2) := nr rfl
theorem ipo_nil {l : List Nat} : List.isPrefixOf [] l = true := by cases l <;> rfl
theorem ipo_cons {a b : Nat} {l m : List Nat} : List.isPrefixOf (a :: l) (b :: m) = (a == b && List.isPrefixOf l m) := nr rfl
theorem ipo_cn {a : Nat} {l : List Nat} : List.isPrefixOf (a :: l) [] = false := nr rfl
theorem cp_fv : cp p (.fv v) = .fv v := nr rfl
theorem cp_own : cp p (.own z l) = .hdr p z l.length := nr rfl
theorem cp_box : cp p (.box d) = .ptr p [0] 0 := nr rfl
theorem cp_aggE : cp p (.agg l) = .agg (cps p 0 l) := nr rfl
theorem cp_tup : cp p (.tup l) = .junk 1 := nr rfl
theorem cp_hdr {q : Pt} : cp p (.hdr q z k) = .hdr q z k := nr rfl
theorem cp_ptr {q : Pt} : cp p (.ptr q w o) = .ptr q w o := nr rfl
theorem cps_nil : cps p i [] = [] := nr rfl
theorem cps_cons : cps p i (d :: l) = cp (p.1, p.2 ++ [i]) d :: cps p (i + 1) l := nr rfl
theorem ev2_tmp : ev2 st (.tmp t) = if t < 900000 then cpO t (get st t) else .junk 1 := nr rfl
theorem ev2_func {f : FuncId} : ev2 st (.func f) = .fv (.fn f [] []) := nr rfl
theorem ev2_int {kk : IntKind} {m : Int} : ev2 st (.const (.int kk m)) = .fv (.int kk m) := nr rfl
theorem ev2_bool {b : Bool} : ev2 st (.const (.bool b)) = .fv (.bool b) := nr rfl
theorem ev2_str {b : ByteArray} : ev2 st (.const (.string b)) = .fv (.str b) := nr rfl
theorem ev2_nil : ev2 st (.const (.slice none 0 0)) = .fv .nil := nr rfl
theorem cpO_some : cpO t (some d) = cp (t, []) d := nr rfl
theorem ofV_int {kk : IntKind} {m : Int} : ofV (.int kk m) = .fv (.int kk m) := nr rfl
theorem ofV_bool {b : Bool} : ofV (.bool b) = .fv (.bool b) := nr rfl
def mvS (st : St) (r t : Nat) : Option DV → Option St
 | some (.tup _) => if t < LB then rnR t r st else none
 | _ => some (put r (ev2 st (.tmp t)) st)
theorem mv2_tmp : mv2 st r (.tmp t) = mvS st r t (get st t) := nr rfl
theorem mv2_const {c : Value} : mv2 st r (.const c) = some (put r (ev2 st (.const c)) st) := nr rfl
theorem mvS_tup : mvS st r t (some (.tup l)) = if t < 900000 then rnR t r st else none := nr rfl
theorem mvS_fv : mvS st r t (some (.fv v)) = some (put r (ev2 st (.tmp t)) st) := nr rfl
theorem mvS_own : mvS st r t (some (.own z l)) = some (put r (ev2 st (.tmp t)) st) := nr rfl
theorem mvS_hdr : mvS st r t (some (.hdr p z k)) = some (put r (ev2 st (.tmp t)) st) := nr rfl
theorem rnR_def {s r : Nat} : rnR s r st = if s = r then none else (get (clr r st) s).map fun d => (r, kl (belB (s, [])) d) :: klS (belB (s, [])) (rm s (clr r st)) := nr rfl
def asS (st : St) (r t : Nat) : Option DV → Option St
 | some d => if noOwn d = true then some (put r (ev2 st (.tmp t)) st) else if t < LB then mvA t r st else none
 | none => some (put r (ev2 st (.tmp t)) st)
theorem as2_tmp : as2 st r (.tmp t) = asS st r t (get st t) := nr rfl
theorem as2_const {c : Value} : as2 st r (.const c) = some (put r (ev2 st (.const c)) st) := nr rfl
theorem asS_some : asS st r t (some d) = if noOwn d = true then some (put r (ev2 st (.tmp t)) st) else if t < 900000 then mvA t r st else none := nr rfl
theorem mvA_def {s r : Nat} : mvA s r st = if s = r then none else (get (clr r st) s).map fun d => (s, cp (r, []) (kl (belB (s, [])) d)) :: (r, kl (belB (s, [])) d) :: klS (belB (s, [])) (rm s (clr r st)) := nr rfl
theorem no_fv : noOwn (.fv v) = true := nr rfl
theorem no_own : noOwn (.own z l) = false := nr rfl
theorem no_hdr : noOwn (.hdr p z k) = true := nr rfl
def exS (s j r : Nat) (st : St) : Option DV → Option St
 | some (.tup l) => (l[j]?).bind fun d => if noRefs l = true then some ((r, d) :: klS (belB (s, [j])) (setR s (.tup (l.set j (.junk 1))) (clr r st))) else none
 | _ => none
theorem ex2_def {s j r : Nat} : ex2 s j r st = if s = r then none else exS s j r st (get (clr r st) s) := nr rfl
theorem exS_tup {s j r : Nat} : exS s j r st (some (.tup l)) = (l[j]?).bind fun d => if noRefs l = true then some ((r, d) :: klS (belB (s, [j])) (setR s (.tup (l.set j (.junk 1))) (clr r st))) else none := nr rfl
theorem nr_fv : noRef (.fv v) = true := nr rfl
theorem nr_own : noRef (.own z l) = noRefs l := nr rfl
theorem nr_box : noRef (.box d) = noRef d := nr rfl
theorem nr_junk : noRef (.junk k) = true := nr rfl
theorem nr_agg : noRef (.agg l) = noRefs l := nr rfl
theorem nr_tup : noRef (.tup l) = noRefs l := nr rfl
theorem nrs_nil : noRefs [] = true := nr rfl
theorem nrs_cons : noRefs (d :: l) = (noRef d && noRefs l) := nr rfl
theorem nrs_app {l m : List DV} : noRefs (l ++ m) = (noRefs l && noRefs m) := by
 induction l with
 | nil => simp [nrs_nil]
 | cons a l ih => rw [List.cons_append, nrs_cons, nrs_cons, ih, Bool.and_assoc]
theorem nrs_map {α : Type} {f : α → FV} {l : List α} : noRefs (l.map fun x => .fv (f x)) = true := by
 induction l with
 | nil => rfl
 | cons a l ih => rw [List.map_cons, nrs_cons, ih]; rfl
theorem fvs_nil : fvs [] = true := nr rfl
theorem fvs_cons : fvs (.fv v :: l) = fvs l := nr rfl
def ndO (w : List Nat) : Option DV → Option DV
 | some d => if (isNode d || noRef d) = true then (atD w d).bind asNode else none
 | none => none
theorem node_def : node st p = ndO p.2 (get st p.1) := by unfold node ndO; cases get st p.1 <;> rfl
theorem ndO_own : ndO [] (some (.own z l)) = some (.own z l) := nr rfl
theorem ndO_box : ndO [] (some (.box d)) = some (.box d) := nr rfl
theorem ndO_owni : ndO (i :: w) (some (.own z l)) = ((l[i]?).bind (atD w)).bind asNode := nr rfl
theorem ndO_box0 : ndO (0 :: w) (some (.box d)) = (atD w d).bind asNode := nr rfl
theorem ndO_agg : ndO (i :: w) (some (.agg l)) = if noRefs l = true then ((l[i]?).bind (atD w)).bind asNode else none := nr rfl
theorem at_nil : atD [] d = some d := by cases d <;> rfl
theorem at_own : atD (i :: w) (.own z l) = (l[i]?).bind (atD w) := nr rfl
theorem at_agg : atD (i :: w) (.agg l) = (l[i]?).bind (atD w) := nr rfl
theorem at_box : atD (0 :: w) (.box d) = atD w d := nr rfl
theorem at_fagg : atD (i :: w) (.fv (.agg vs)) = (vs[i]?).bind fun v => atD w (.fv v) := nr rfl
theorem asN_own : asNode (.own z l) = some (.own z l) := nr rfl
theorem set_nil : setD [] d x = some x := by cases d <;> rfl
theorem set_own : setD (i :: w) (.own z l) x = (l[i]?).bind fun d => (setD w d x).map fun d' => .own z (l.set i d') := nr rfl
theorem set_agg : setD (i :: w) (.agg l) x = (l[i]?).bind fun d => (setD w d x).map fun d' => .agg (l.set i d') := nr rfl
theorem set_box : setD (0 :: w) (.box d) x = (setD w d x).map .box := nr rfl
theorem set_fagg : setD (i :: w) (.fv (.agg vs)) x = (vs[i]?).bind fun v => (setD w (.fv v) x).map (aggSet vs i) := nr rfl
theorem ags_fv : aggSet vs i (.fv v) = .fv (.agg (vs.set i v)) := nr rfl
theorem ags_own : aggSet vs i (.own z l) = .agg ((vs.map .fv).set i (.own z l)) := nr rfl
theorem inl_nil : inlD [] d = some 0 := by cases d <;> rfl
theorem inl_agg : inlD (i :: w) (.agg l) = (l[i]?).bind fun d => (inlD w d).map (szDs (l.take i) + ·) := nr rfl
theorem inl_fagg : inlD (i :: w) (.fv (.agg vs)) = (vs[i]?).bind fun v => (inlD w (.fv v)).map (szFs (vs.take i) + ·) := nr rfl
theorem off_own : offN (i :: w) (.own z l) = (l[i]?).bind fun d => (inlD w d).map (i * z + ·) := nr rfl
theorem off_box : offN (0 :: w) (.box d) = inlD w d := nr rfl
theorem nset_def {a : Pt → Bool} : nset a st p x = (get st p.1).bind fun d => (setD p.2 d x).map fun d' => setR p.1 d' (klS a st) := nr rfl
theorem sz_fv : szD (.fv v) = szF v := nr rfl
theorem sz_own : szD (.own z l) = 1 := nr rfl
theorem sz_junk : szD (.junk k) = k := nr rfl
theorem sz_agg : szD (.agg l) = szDs l := nr rfl
theorem szs_nil : szDs [] = 0 := nr rfl
theorem szs_cons : szDs (d :: l) = szD d + szDs l := nr rfl
theorem sf_int {kk : IntKind} {m : Int} : szF (.int kk m) = 1 := nr rfl
theorem sf_bool {b : Bool} : szF (.bool b) = 1 := nr rfl
theorem sf_nil : szF .nil = 1 := nr rfl
theorem sf_row : szF (.row z vs) = 1 := nr rfl
theorem sf_agg : szF (.agg vs) = szFs vs := nr rfl
theorem sfs_nil : szFs [] = 0 := nr rfl
theorem sfs_cons : szFs (v :: vs) = szF v + szFs vs := nr rfl
theorem ia_fv : isAgg (.fv v) = isAggF v := nr rfl
theorem ia_own : isAgg (.own z l) = false := nr rfl
theorem ia_agg : isAgg (.agg l) = true := nr rfl
theorem if_int {kk : IntKind} {m : Int} : isAggF (.int kk m) = false := nr rfl
theorem if_bool {b : Bool} : isAggF (.bool b) = false := nr rfl
theorem if_nil : isAggF .nil = false := nr rfl
theorem if_row : isAggF (.row z vs) = false := nr rfl
theorem if_agg : isAggF (.agg vs) = true := nr rfl
theorem oks_int {kk : IntKind} {m : Int} : okS (.fv (.int kk m)) = true := nr rfl
theorem oks_bool {b : Bool} : okS (.fv (.bool b)) = true := nr rfl
theorem oks_str {b : ByteArray} : okS (.fv (.str b)) = true := nr rfl
theorem oks_nil : okS (.fv .nil) = true := nr rfl
theorem oks_row : okS (.fv (.row z vs)) = true := nr rfl
theorem oks_fp : okS (.fv (.fp v)) = true := nr rfl
theorem oks_fagg : okS (.fv (.agg vs)) = true := nr rfl
theorem oks_hdr : okS (.hdr p z k) = true := nr rfl
theorem oks_agg : okS (.agg l) = true := nr rfl
theorem okss_nil : okSs [] = true := nr rfl
theorem okss_cons : okSs (d :: l) = (okS d && okSs l) := nr rfl
theorem take2_def : take2 r st d = if okS (kl (atR r) d) = true then ab (fun _ => false) (clr r st) (kl (atR r) d) else none := nr rfl
theorem takeL_def : takeL r st l = if okSs (kls (atR r) l) = true then abL (fun _ => false) (clr r st) (kls (atR r) l) else none := nr rfl
theorem ab_fv : ab a st (.fv v) = some (.fv v, st, a) := nr rfl
def abH (a : Pt → Bool) (st : St) (q : Pt) : Option DV → Option (DV × St × (Pt → Bool))
 | some nd => if isBox nd = true then none else (nset (belB q) st q (.junk 1)).map fun st' => (nd, st', fun p => a p || belB q p)
 | none => none
theorem ab_hdr : ab a st (.hdr p z k) = if (a p || p.1 == 900000) = true then none else abH a st p (node st p) := by
 rw [ab]; unfold abH; cases node st p <;> rfl
theorem abH_own : abH a st p (some (.own z l)) = (nset (belB p) st p (.junk 1)).map fun st' => (.own z l, st', fun q => a q || belB p q) := nr rfl
theorem ab_aggE : ab a st (.agg l) = (abL a st l).map fun r => (.agg r.1, r.2) := nr rfl
theorem abL_nil : abL a st [] = some ([], st, a) := nr rfl
theorem abL_cons : abL a st (d :: l) = (ab a st d).bind fun r => (abL r.2.2 r.2.1 l).map fun s => (r.1 :: s.1, s.2) := nr rfl
theorem al2_def : al2 Γ st r t = (zero2 Γ t).map fun z => (r, .box (.fv z)) :: klS atL (clr r st) := nr rfl
theorem bx2_def {y : Operand} : bx2 st r y = (take2 r st (ev2 st y)).map fun q => (r, .box q.1) :: klS atL q.2.1 := nr rfl
def rfO (r : Nat) (v : DV) : Option St → Option St
 | some st => some (rfd r v st)
 | none => none
theorem bxR_def {y : Operand} : bxR st r y = rfO r (ev2 st y) (bx2 st r y) := by unfold bxR rfO; cases bx2 st r y <;> rfl
theorem rfO_some {v : DV} : rfO r v (some st) = some (rfd r v st) := nr rfl
theorem rfd_fv {v : FV} : rfd r (.fv v) st = st := nr rfl
theorem rfd_ahdr {q : Pt} {z k : Nat} {l : List DV} : rfd r (.agg (.hdr q z k :: l)) st = if q.2 = [0] ∧ GB ≤ q.1 then rfh r q z k st (get st q.1) else st := nr rfl
theorem rfh_junk {q : Pt} {z k : Nat} {l : List DV} : rfh r q z k st (some (.agg (.junk 1 :: l))) = setR q.1 (.agg (.hdr (r, [0, 0]) z k :: l)) st := nr rfl
theorem bs2_def {len : Nat} {ps : List (Nat × Operand)} : bs2 Γ st r t len ps = (es1 Γ t).bind fun z => if ps.map (·.1) = List.range' 0 len ∧ len * z ≤ 16777216 then (takeL r st ((ps.map (·.2)).map (ev2 st))).bind fun q => if q.1.all (fun d => szD d == z) = true then some ((r, .own z q.1) :: klS atL q.2.1) else none else none := nr rfl
theorem ms2_eq {z e : Nat} {a b : Nat} {c : List Value} (h : es1 Γ t = some z) (hg : Γ t = some ⟨.slice e, a, b, c⟩) : ms2 Γ st r t x y = msA st r z (zero2 Γ e) x y := by
 unfold ms2; rw [h, hg]; rfl
theorem msA_int {kk k' : IntKind} {n m : Int} {zv : Option FV} : msA st r z zv (.fv (.int kk n)) (.fv (.int k' m)) = if n = m ∧ 0 ≤ n ∧ n < 4294967296 then zv.map fun v => (r, .own z (List.replicate n.toNat (.fv v))) :: klS atL (clr r st) else none := nr rfl
def soN (tz : Option Nat) (w : List Nat) (q : Pt) (o : Nat) (tk : DV × St × (Pt → Bool)) : Option DV → Option St
 | some nd => if offN w nd = some o then (atD w nd).bind fun d0 => tz.bind fun z => if szD tk.1 = szD d0 ∧ szD tk.1 = z then (setD w nd tk.1).bind fun nd' => nset (fun p => belB (q.1, q.2 ++ w) p || atL p) tk.2.1 q nd' else none else none
 | none => none
theorem so2_def : so2 Γ st t (.ptr p w o) x = (take2 900000 st x).bind fun tk => if (tk.2.2 p || p.1 == 900000) = true then none else soN ((Γ t).map (·.size)) w p o tk (node tk.2.1 p) := by
 unfold so2
 show (take2 900000 st x).bind _ = _
 refine congrArg _ (funext fun tk => ?_)
 show (if (tk.2.2 p || p.1 == 900000) = true then none else _) = _
 split
 ·rfl
 ·unfold soN
  cases node tk.2.1 p with
  | none => rfl
  | some nd =>
   simp only [Option.bind_some]
   split
   ·refine congrArg _ (funext fun d0 => ?_)
    cases Γ t <;> rfl
   ·rfl
theorem soN_own {tz : Option Nat} {tk : DV × St × (Pt → Bool)} : soN tz w p o tk (some (.own z l)) = if offN w (.own z l) = some o then (atD w (.own z l)).bind fun d0 => tz.bind fun zz => if szD tk.1 = szD d0 ∧ szD tk.1 = zz then (setD w (.own z l) tk.1).bind fun nd' => nset (fun q => belB (p.1, p.2 ++ w) q || atL q) tk.2.1 p nd' else none else none := nr rfl
theorem soN_box {tz : Option Nat} {tk : DV × St × (Pt → Bool)} : soN tz w p o tk (some (.box d)) = if offN w (.box d) = some o then (atD w (.box d)).bind fun d0 => tz.bind fun zz => if szD tk.1 = szD d0 ∧ szD tk.1 = zz then (setD w (.box d) tk.1).bind fun nd' => nset (fun q => belB (p.1, p.2 ++ w) q || atL q) tk.2.1 p nd' else none else none := nr rfl
def ldN (ti : Option (Bool × Nat)) (w : List Nat) (q : Pt) (o : Nat) : Option DV → Option DV
 | some nd => if offN w nd = some o then (atD w nd).bind fun d => ti.bind fun i => if i.1 = isAgg d ∧ i.2 = szD d ∧ (i.2 = 1 ∨ i.1 = true) then some (cp (q.1, q.2 ++ w) d) else none else none
 | none => none
def tz (Γ : TypeId → Option TI) (t : TypeId) : Option (Bool × Nat) := (Γ t).map fun i => (i.sh.agg, i.size)
theorem ld2_ptr : ld2 Γ st t (.ptr p w o) = ldN (tz Γ t) w p o (node st p) := by
 unfold ld2 ldN tz
 cases Γ t with
 | none => cases node st p <;> simp
 | some i =>
  simp only [Option.bind_some, Option.map_some]
  cases node st p with
  | none => rfl
  | some nd => rfl
theorem ldN_own {ti : Option (Bool × Nat)} : ldN ti w p o (some (.own z l)) = if offN w (.own z l) = some o then (atD w (.own z l)).bind fun d => ti.bind fun i => if i.1 = isAgg d ∧ i.2 = szD d ∧ (i.2 = 1 ∨ i.1 = true) then some (cp (p.1, p.2 ++ w) d) else none else none := nr rfl
theorem ldN_box {ti : Option (Bool × Nat)} : ldN ti w p o (some (.box d)) = if offN w (.box d) = some o then (atD w (.box d)).bind fun d => ti.bind fun i => if i.1 = isAgg d ∧ i.2 = szD d ∧ (i.2 = 1 ∨ i.1 = true) then some (cp (p.1, p.2 ++ w) d) else none else none := nr rfl
theorem ld2_fp : ld2 Γ st t (.fv (.fp v)) = (tz Γ t).bind fun i => if i.1 = isAggF v ∧ i.2 = szF v then some (.fv v) else none := by
 unfold ld2 tz; cases Γ t <;> rfl
def fa4 (f d : Nat) : DV → Option DV
 | .ptr q w o => some (.ptr q (w ++ [f]) (o + d))
 | .fv (.fp (.agg l)) => (l[f]?).bind fun v => if szFs (l.take f) = d then some (.fv (.fp v)) else none
 | _ => none
def fa3 (f : Nat) (c : Option Nat) (x : DV) : Option DV := c.bind fun d => fa4 f d x
theorem fa2_eq {f : Nat} : fa2 Γ t f x = fa3 f (fa Γ t f) x := by
 unfold fa2 fa
 cases Γ t with
 | none => rfl
 | some ti =>
  obtain ⟨sh, _, _, _⟩ := ti
  cases sh with
  | struct fs =>
   simp only
   cases fs[f]? with
   | none => rfl
   | some p =>
    simp only [Option.bind_some]
    cases Γ p.2 with
    | none => rfl
    | some i =>
     simp only [Option.bind_some]
     split
     ·rfl
     ·rfl
  | _ => rfl
theorem fa3_ptr {f c : Nat} : fa3 f (some c) (.ptr p w o) = some (.ptr p (w ++ [f]) (o + c)) := nr rfl
theorem fa3_fp {f c : Nat} : fa3 f (some c) (.fv (.fp (.agg vs))) = (vs[f]?).bind fun v => if szFs (vs.take f) = c then some (.fv (.fp v)) else none := nr rfl
def ia3 (m : Option Nat) (a i : DV) : Option DV := match m, i with
 | some z, .fv (.int _ j) => match a with
  | .hdr q z' k => if z' = z ∧ 0 ≤ j ∧ j < k then some (.ptr q [j.toNat] (j.toNat * z)) else none
  | .fv (.row z' l) => if z' = z ∧ 0 ≤ j then (l[j.toNat]?).map fun d => .fv (.fp d) else none
  | _ => none
 | _, _ => none
theorem ia2_eq : ia2 Γ t x y = ia3 (es Γ t) x y := nr rfl
theorem ia3_hdr {kk : IntKind} {j : Int} : ia3 (some z) (.hdr p n k) (.fv (.int kk j)) = if n = z ∧ 0 ≤ j ∧ j < k then some (.ptr p [j.toNat] (j.toNat * z)) else none := nr rfl
theorem ia3_row {kk : IntKind} {j : Int} : ia3 (some z) (.fv (.row n vs)) (.fv (.int kk j)) = if n = z ∧ 0 ≤ j then (vs[j.toNat]?).map fun d => .fv (.fp d) else none := nr rfl
def len3 : Option Bool → DV → Option DV
 | some true, .fv (.str s) => some (.fv (.int .i64 s.size))
 | some false, .fv .nil => some (.fv (.int .i64 0))
 | some false, .fv (.row _ l) => some (.fv (.int .i64 l.length))
 | some false, .hdr _ _ k => some (.fv (.int .i64 k))
 | _, _ => none
theorem len2_eq : len2 Γ t x = len3 (isStr Γ t) x := nr rfl
theorem len3_nil : len3 (some false) (.fv .nil) = some (.fv (.int .i64 0)) := nr rfl
theorem len3_row : len3 (some false) (.fv (.row z vs)) = some (.fv (.int .i64 vs.length)) := nr rfl
theorem len3_hdr : len3 (some false) (.hdr p z k) = some (.fv (.int .i64 k)) := nr rfl
variable {kk k' : IntKind} {m m' : Int} {b b' : Bool} {op : BinOp} {u : UnOp}
theorem bin2_int : bin2 Γ E op t (.fv (.int kk m)) (.fv (.int k' m')) = (binV Γ E op t (.int kk m) (.int k' m')).map ofV := by cases op <;> rfl
theorem bin2_bool : bin2 Γ E op t (.fv (.bool b)) (.fv (.bool b')) = (binV Γ E op t (.bool b) (.bool b')).map ofV := by cases op <;> rfl
theorem un2_bool : un2 u (.fv (.bool b)) = (unV u (.bool b)).map ofV := nr rfl
theorem pk_bool : pk (.fv (.bool b)) x y = some (if b = true then x else y) := nr rfl
theorem ap2_def {t2 : Nat} : ap2 Γ st r t t2 x y = (es1 Γ t).bind fun z => if isStr Γ t2 = some false then
 (ba2 z (clr r st) (kl (atR r) x)).bind fun b => (el2 z b.2.2 (klO b.1 (kl (atR r) y))).bind fun e =>
  if (b.1.isNone && e.1.isEmpty) = true then some (put r (.fv .nil) st, 0) else some ((r, .own z (b.2.1 ++ e.1)) :: klS atL e.2, (b.2.1 ++ e.1).length) else none := nr rfl
theorem ba2_nil : ba2 z st (.fv .nil) = some (none, [], st) := nr rfl
def baN (st : St) (q : Pt) : Option DV → Option (Option Pt × List DV × St)
 | some (.own _ l) => (nset (belB q) st q (.junk 1)).map fun st' => (some q, l, klS atL st')
 | _ => none
theorem ba2_hdr : ba2 z st (.hdr p n k) = if n = z then baN st p (node st p) else none := nr rfl
theorem baN_own : baN st p (some (.own z l)) = (nset (belB p) st p (.junk 1)).map fun st' => (some p, l, klS atL st') := nr rfl
theorem el2_row : el2 z st (.fv (.row n vs)) = if n = z then some (vs.map .fv, st) else none := nr rfl
def elN (st : St) (q : Pt) : Option DV → Option (List DV × St)
 | some (.own _ lx) => if fvs lx = true then some (lx, st) else (nset (belB q) st q (.junk 1)).map fun st' => (lx, st')
 | _ => none
theorem el2_hdr : el2 z st (.hdr p n k) = if n = z then elN st p (node st p) else none := nr rfl
theorem elN_own : elN st p (some (.own z l)) = if fvs l = true then some (l, st) else (nset (belB p) st p (.junk 1)).map fun st' => (l, st') := nr rfl
theorem klO_none : klO none d = d := nr rfl
theorem klO_some : klO (some p) d = kl (belB p) d := nr rfl
theorem bdF_nil {fs : List (Nat × TypeId)} : bdF Γ fs l [] = some l := nr rfl
theorem bdF_cons {fs : List (Nat × TypeId)} {ps : List (Nat × DV)} : bdF Γ fs l ((i, d) :: ps) = (fs[i]?).bind fun p => (Γ p.2).bind fun ti => (l[i]?).bind fun d0 => if okS d = true ∧ szD d = ti.size ∧ szD d = szD d0 ∧ szDs (l.take i) = p.1 then bdF Γ fs (l.set i d) ps else none := nr rfl
theorem bd2_eq {fs : List (Nat × TypeId)} {b1 b2 : Nat} {zz : List Value} {ps : List (Nat × Operand)} (hg : Γ t = some ⟨.struct fs, b1, b2, zz⟩) (hz : zero2 Γ t = some (.agg vs)) (hf : fs.all (fun p => (Γ p.2).isSome) = true) :
  bd2 Γ st t ps = (bdF Γ fs (vs.map .fv) (ps.map fun p => (p.1, ev2 st p.2))).map mkA := by
 unfold bd2; rw [hg, hz]; simp only; rw [if_pos hf]
def mkB (l : List DV) : Option (List FV) → DV
 | some vs => .fv (.agg vs)
 | none => .agg l
theorem mkA_def : mkA l = mkB l (allF l) := nr rfl
theorem mkB_some : mkB l (some vs) = .fv (.agg vs) := nr rfl
theorem allF_nil : allF [] = some [] := nr rfl
theorem allF_fv : allF (.fv v :: l) = (allF l).map fun r => v :: r := nr rfl
end
section
variable {Γ : TypeId → Option TI} {st : St} {v : FV} {d : DV} {ds : List DV} {i : Nat} {c : DV} {cs : List DV}
theorem ini_nil : ini i [] = [] := nr rfl
theorem ini_fv : ini i (.fv v :: ds) = (i, .fv v) :: ini (i + 1) ds := nr rfl
theorem ini_own {z : Nat} {l : List DV} : ini i (.own z l :: ds) = (i, .hdr (1000000 + i, []) z l.length) :: (1000000 + i, .own z l) :: ini (i + 1) ds := nr rfl
def finL (st : St) : List DV → Option (DV × St)
 | [c] => (take2 LB st c).map fun r => (r.1, r.2.1)
 | cs => (takeL LB st cs).map fun r => (.tup r.1, r.2.1)
theorem fin2_def {fz : Bool} {rs : List ResultVar} : fin2 Γ fz rs st = (if fz = true then frR Γ rs st else some st).bind fun st1 => (optL (rs.map (rs2 Γ st1))).bind (finL st1) := by
 unfold fin2 finL
 refine congrArg _ (funext fun st1 => ?_)
 rfl
theorem finL_one : finL st [c] = (take2 900000 st c).map fun r => (r.1, r.2.1) := nr rfl
theorem finL_two {a b : DV} : finL st (a :: b :: cs) = (takeL 900000 st (a :: b :: cs)).map fun r => (.tup r.1, r.2.1) := nr rfl
theorem rs2_tmp {t : Nat} : rs2 Γ st (.tmp t) = some (ev2 st (.tmp t)) := nr rfl
theorem rs2_cell {a t : Nat} : rs2 Γ st (.cell a t) = ld2 Γ st t (ev2 st (.tmp a)) := nr rfl
theorem optL_nil {α : Type} : optL ([] : List (Option α)) = some [] := nr rfl
theorem optL_cons {α : Type} {a : Option α} {l : List (Option α)} : optL (a :: l) = a.bind fun x => (optL l).map fun r => x :: r := nr rfl
theorem frR_nil : frR Γ [] st = some st := nr rfl
theorem frR_cons {r : ResultVar} {rs : List ResultVar} : frR Γ (r :: rs) st = (rs2 Γ st r).bind fun d => (frD d st).bind fun st1 => frR Γ rs st1 := nr rfl
theorem frD_hdr {q : Pt} {z k : Nat} : frD (.hdr q z k) st = (frz st q).map (·.2) := nr rfl
theorem frD_fv : frD (.fv v) st = some st := nr rfl
end
section
variable {p : Pt} {z n k : Nat} {kk : IntKind} {vs : List FV} {v : FV}
theorem ia3_hdrN {j : Nat} (h : j < k) : ia3 (some z) (.hdr p z k) (.fv (.int kk (j : Int))) = some (.ptr p [j] (j * z)) := by
 rw [ia3_hdr, if_pos ⟨rfl, by omega, by omega⟩, Int.toNat_natCast]
theorem ia3_rowN {j : Nat} (h : j < vs.length) : ia3 (some z) (.fv (.row z vs)) (.fv (.int kk (j : Int))) = some (.fv (.fp vs[j])) := by
 rw [ia3_row, if_pos ⟨rfl, by omega⟩, Int.toNat_natCast, List.getElem?_eq_getElem h]; rfl
theorem ia3_hdrI {j : Int} (h0 : 0 ≤ j) (h : j < k) : ia3 (some z) (.hdr p z k) (.fv (.int kk j)) = some (.ptr p [j.toNat] (j.toNat * z)) := by
 rw [ia3_hdr, if_pos ⟨rfl, h0, h⟩]
theorem ia3_rowI {j : Int} (h0 : 0 ≤ j) (h : j.toNat < vs.length) : ia3 (some z) (.fv (.row z vs)) (.fv (.int kk j)) = some (.fv (.fp vs[j.toNat])) := by
 rw [ia3_row, if_pos ⟨rfl, h0⟩, List.getElem?_eq_getElem h]; rfl
theorem fzL_map {α : Type} {f : α → FV} {l : List α} : fzL (l.map fun x => .fv (f x)) = some (l.map f) := by
 induction l with
 | nil => rfl
 | cons a l ih => rw [List.map_cons, fzL, ih]; rfl
theorem fzL_nil : fzL [] = some [] := nr rfl
theorem fzL_cons {d : DV} {l : List DV} : fzL (d :: l) = (fzD d).bind fun v => (fzL l).map fun r => v :: r := nr rfl
theorem fzD_fv : fzD (.fv v) = some v := nr rfl
theorem fzD_own {l : List DV} : fzD (.own z l) = (fzL l).map (.row z) := nr rfl
theorem fzD_agg {l : List DV} : fzD (.agg l) = (fzL l).map .agg := nr rfl
theorem fzD_box {d : DV} : fzD (.box d) = (fzD d).map .fp := nr rfl
def frzS (st : St) (q : Pt) : Option DV → Option DV → Option (FV × St)
 | some d, some nd => (fzD nd).bind fun v => (setD q.2 d (.fv v)).map fun d' => (v, setR q.1 d' (rfS q v st))
 | _, _ => none
theorem frz_def {st : St} {q : Pt} : frz st q = frzS st q (get st q.1) (node st q) := by
 unfold frz frzS
 cases get st q.1 with
 | none => rfl
 | some d => cases node st q <;> rfl
theorem frzS_some {st : St} {q : Pt} {d nd : DV} : frzS st q (some d) (some nd) = (fzD nd).bind fun v => (setD q.2 d (.fv v)).map fun d' => (v, setR q.1 d' (rfS q v st)) := nr rfl
theorem rfS_nil {q : Pt} : rfS q v [] = [] := nr rfl
theorem rfS_cons {q : Pt} {r : Nat} {d : DV} {st : St} : rfS q v ((r, d) :: st) = (r, rf q v d) :: rfS q v st := nr rfl
theorem rf_fv {q : Pt} {u : FV} : rf q v (.fv u) = .fv u := nr rfl
theorem rf_own {q : Pt} {l : List DV} : rf q v (.own z l) = .own z l := nr rfl
theorem rf_box {q : Pt} {d : DV} : rf q v (.box d) = .box d := nr rfl
theorem rf_junk {q : Pt} : rf q v (.junk k) = .junk k := nr rfl
theorem rf_hdr {q p : Pt} : rf q v (.hdr p z k) = if belB q p = true then (if p = q ∧ isFp v = false then .fv v else .junk 1) else .hdr p z k := nr rfl
theorem rf_ptr {q p : Pt} {w : List Nat} {o : Nat} : rf q v (.ptr p w o) = if belB q p = true then (if p = q ∧ o = 0 ∧ isFp v = true then .fv v else .junk 1) else .ptr p w o := nr rfl
theorem rf_tup {q : Pt} {l : List DV} : rf q v (.tup l) = .tup (rfs q v l) := nr rfl
theorem rfs_nil {q : Pt} : rfs q v [] = [] := nr rfl
theorem rfs_cons {q : Pt} {d : DV} {l : List DV} : rfs q v (d :: l) = rf q v d :: rfs q v l := nr rfl
theorem isFp_row : isFp (.row z vs) = false := nr rfl
theorem isFp_fp : isFp (.fp v) = true := nr rfl
theorem frL_nil {st : St} : frL [] st = some st := nr rfl
def frN (xs : List Operand) (st : St) : DV → Option St
 | .ptr q _ _ => (frz st q).bind fun r => frL xs r.2
 | .hdr q _ _ => (frz st q).bind fun r => frL xs r.2
 | _ => frL xs st
theorem frL_cons {x : Operand} {xs : List Operand} {st : St} : frL (x :: xs) st = frN xs st (ev2 st x) := by
 rw [frL]; rfl
theorem frN_fv {xs : List Operand} {st : St} {u : FV} : frN xs st (.fv u) = frL xs st := nr rfl
theorem frN_ptr {xs : List Operand} {st : St} {q : Pt} {w : List Nat} {o : Nat} : frN xs st (.ptr q w o) = (frz st q).bind fun r => frL xs r.2 := nr rfl
theorem frN_hdr {xs : List Operand} {st : St} {q : Pt} : frN xs st (.hdr q z k) = (frz st q).bind fun r => frL xs r.2 := nr rfl
def evO : DV → Option FV
 | .fv v => if okS (.fv v) = true then some v else none
 | _ => none
theorem evF_def {st : St} {x : Operand} : evF st x = evO (ev2 st x) := nr rfl
theorem evO_fv : evO (.fv v) = if okS (.fv v) = true then some v else none := nr rfl
theorem mf2_def {st : St} {r : Nat} {f : FuncId} {a b : List Operand} : mf2 st r f a b = (frL b st).bind fun st1 => (optL (a.map (evF st1))).bind fun x => (optL (b.map (evF st1))).map fun y => put r (.fv (.fn f x y)) st1 := nr rfl
def caO : DV → Option (FuncId × List FV)
 | .fv (.fn g [] b) => some (g, b)
 | _ => none
theorem cal_def {st : St} {f : Operand} : cal st f = caO (ev2 st f) := nr rfl
theorem caO_fn {g : FuncId} {b : List FV} : caO (.fv (.fn g [] b)) = some (g, b) := nr rfl
theorem cl2_def {MU : FuncId → Nat → Nat} {st : St} {dst : Option Nat} {f : Operand} {xs : List Operand} : cl2 MU st dst f xs = (cal st f).bind fun g =>
 (frL ((xs.zipIdx).filterMap fun p => if MU g.1 p.2 = 0 then some p.1 else none) st).bind fun st1 => (cal st1 f).bind fun g1 => if g1.1 = g.1 ∧ g1.1 ≠ PS then
  (ars (clr (dst.getD LB) st1) (MU g.1) 0 xs).bind fun a => if (ok2 a.2.2 && a.2.1.all fun q => (ix a.2.2 q.1).isNone) = true ∧ (∀ r, dst = some r → r < LB) then some (g.1, a.1 ++ g1.2.map .fv, a.2.1, a.2.2, clr (dst.getD LB) st1) else none else none := nr rfl
theorem PS_eq : PS = 4294967295 := nr rfl
theorem dst_ok {r : Nat} {P : Nat → Prop} : (∀ q, some r = some q → P q) = P r := by simp
theorem zip_nil {i : Nat} : ([] : List Operand).zipIdx i = [] := nr rfl
theorem zip_cons {x : Operand} {xs : List Operand} {i : Nat} : (x :: xs).zipIdx i = (x, i) :: xs.zipIdx (i + 1) := nr rfl
theorem fm_nil {α β : Type} {f : α → Option β} : ([] : List α).filterMap f = [] := nr rfl
def fmC {β : Type} : Option β → List β → List β
 | some b, l => b :: l
 | none, l => l
theorem fm_cons {α β : Type} {f : α → Option β} {a : α} {l : List α} : (a :: l).filterMap f = fmC (f a) (l.filterMap f) := by
 rw [List.filterMap_cons]; cases f a <;> rfl
theorem fmC_some {β : Type} {b : β} {l : List β} : fmC (some b) l = b :: l := nr rfl
theorem fmC_none {β : Type} {l : List β} : fmC none l = l := nr rfl
theorem ars_nil {st : St} {md : Nat → Nat} {i : Nat} : ars st md i [] = some ([], [], []) := nr rfl
def mvI (i : Nat) : Option Pt → MV
 | some q => [(q.1, i, q.2)]
 | none => []
theorem mvI_some {i : Nat} {q : Pt} : mvI i (some q) = [(q.1, i, q.2)] := nr rfl
theorem mvI_none {i : Nat} : mvI i none = [] := nr rfl
theorem ars_cons {st : St} {md : Nat → Nat} {i : Nat} {x : Operand} {xs : List Operand} : ars st md i (x :: xs) = (ar2 st (md i) x).bind fun a => (ars st md (i + 1) xs).map fun r => (a.d :: r.1, a.lent ++ r.2.1, mvI i a.mv ++ r.2.2) := nr rfl
def arH (q : Pt) : Option DV → Option Arg
 | some (.own z l) => some ⟨.own z l, [], some q⟩
 | _ => none
def arX (q : Pt) : Option DV → Option Arg
 | some (.box d) => some ⟨.box d, [], some q⟩
 | _ => none
def eqL : List Nat → List Nat → Bool
 | [], [] => true
 | a :: l, b :: m => a == b && eqL l m
 | _, _ => false
theorem eqL_nil : eqL [] [] = true := nr rfl
theorem eqL_cons {a b : Nat} {l m : List Nat} : eqL (a :: l) (b :: m) = (a == b && eqL l m) := nr rfl
theorem eqL_iff : ∀ (l m : List Nat), eqL l m = decide (l = m)
 | [], [] => rfl
 | a :: l, b :: m => by rw [eqL_cons, eqL_iff l m, Bool.eq_iff_iff]; simp
 | [], b :: m => rfl
 | a :: l, [] => rfl
def arJ (l : List DV) (r : Nat) (w : List Nat) : Option DV → Option Arg
 | some d0 => if (isAgg d0 && noRef d0 && arM r w d0 (.agg l)) = true then some ⟨d0, [], some (r, w)⟩ else none
 | none => none
theorem arJ_some {l : List DV} {r : Nat} {w : List Nat} {d0 : DV} : arJ l r w (some d0) = if (isAgg d0 && noRef d0 && arM r w d0 (.agg l)) = true then some ⟨d0, [], some (r, w)⟩ else none := nr rfl
def arK (l : List DV) (r : Nat) (w : List Nat) : Option DV → Option Arg
 | some d => arJ l r w (atD w d)
 | none => none
theorem arK_some {l : List DV} {r : Nat} {w : List Nat} {d : DV} : arK l r w (some d) = arJ l r w (atD w d) := nr rfl
def arG (st : St) (l : List DV) : Option Pt → Option Arg
 | some q => arK l q.1 q.2.dropLast (get st q.1)
 | none => none
theorem arG_some {st : St} {l : List DV} {q : Pt} : arG st l (some q) = arK l q.1 q.2.dropLast (get st q.1) := nr rfl
theorem dl_one {a : Nat} : [a].dropLast = [] := nr rfl
theorem dl_two {a b : Nat} {l : List Nat} : (a :: b :: l).dropLast = a :: (b :: l).dropLast := nr rfl
def arD (st : St) (md : Nat) : DV → Option Arg
 | .agg l => if md = 2 then arG st l (rootL l) else if md = 1 then (lendL st l).map fun a => ⟨.fv (.agg a.1), a.2, none⟩ else none
 | .fv v => some ⟨.fv v, [], none⟩
 | .hdr q z k => if md = 2 then arH q (node st q)
  else if md = 1 then (node st q).bind fun nd => if isBox nd = true then none else (fzD nd).map fun v => ⟨.fv v, [q], none⟩ else none
 | .ptr q w o => if md = 2 then (if w = [0] ∧ o = 0 then arX q (node st q) else none)
  else if md = 1 then (if w = [0] ∧ o = 0 then (node st q).bind fun nd => if isBox nd = true then (fzD nd).map fun v => ⟨.fv v, [q], none⟩ else none else none) else none
 | _ => none
theorem ar2_def {st : St} {md : Nat} {x : Operand} : ar2 st md x = arD st md (ev2 st x) := by
 unfold ar2
 cases ev2 st x with
 | agg l =>
  simp only [arD, arG]
  cases rootL l with
  | none => rfl
  | some q =>
   simp only [Option.bind_some]
   cases get st q.1 with
   | none => rfl
   | some d => simp only [Option.bind_some, arK]; cases atD q.2.dropLast d <;> rfl
 | hdr q z k =>
  simp only [arD, arH]
  cases node st q with
  | none => rfl
  | some d => cases d <;> rfl
 | ptr q w o =>
  simp only [arD, arX]
  cases node st q with
  | none => rfl
  | some d => cases d <;> rfl
 | _ => rfl
theorem arD_fv {st : St} {md : Nat} : arD st md (.fv v) = some ⟨.fv v, [], none⟩ := nr rfl
theorem arD_agg2 {st : St} {l : List DV} : arD st 2 (.agg l) = arG st l (rootL l) := nr rfl
theorem arD_agg1 {st : St} {l : List DV} : arD st 1 (.agg l) = (lendL st l).map fun a => ⟨.fv (.agg a.1), a.2, none⟩ := nr rfl
theorem arD_hdr2 {st : St} {q : Pt} : arD st 2 (.hdr q z k) = arH q (node st q) := nr rfl
theorem arH_own {q : Pt} {l : List DV} : arH q (some (.own z l)) = some ⟨.own z l, [], some q⟩ := nr rfl
theorem lendL_nil {st : St} : lendL st [] = some ([], []) := by unfold lendL; rfl
theorem lendL_cons {st : St} {d : DV} {l : List DV} : lendL st (d :: l) = (lendD st d).bind fun a => (lendL st l).map fun r => (a.1 :: r.1, a.2 ++ r.2) := by conv => lhs; unfold lendL
theorem lendD_fv {st : St} : lendD st (.fv v) = some (v, []) := by unfold lendD; rfl
def leN (q : Pt) : Option DV → Option (FV × List Pt)
 | some nd => if isBox nd = true then none else (fzD nd).map fun v => (v, [q])
 | none => none
theorem lendD_hdr {st : St} {q : Pt} : lendD st (.hdr q z k) = leN q (node st q) := by
 unfold lendD leN; cases node st q <;> rfl
theorem leN_own {q : Pt} {l : List DV} : leN q (some (.own z l)) = (fzL l).map fun v => (.row z v, [q]) := by
 show (fzD (.own z l)).map _ = _
 rw [fzD_own]; cases fzL l <;> rfl
theorem rootL_hdr {q : Pt} {l : List DV} : rootL (.hdr q z k :: l) = some q := by unfold rootL rootD; rfl
theorem ini_agg {i : Nat} {l ds : List DV} : ini i (.agg l :: ds) = (i, .agg (cps (1000000 + i, []) 0 l)) :: (1000000 + i, .agg l) :: ini (i + 1) ds := nr rfl
theorem arM_own {r : Nat} {w : List Nat} {l : List DV} {q : Pt} {z' : Nat} : arM r w (.own z l) (.hdr q z' k) = (q.1 == r && eqL q.2 w) := by
 unfold arM
 obtain ⟨a, b⟩ := q
 rw [eqL_iff, Bool.eq_iff_iff]; simp
theorem arM_agg {r : Nat} {w : List Nat} {l0 l : List DV} : arM r w (.agg l0) (.agg l) = arMs r w 0 l0 l := by conv => lhs; unfold arM
theorem arM_fv {r : Nat} {w : List Nat} {u : FV} : arM r w (.fv u) (.fv v) = sameV u v := by unfold arM; rfl
theorem arMs_nil {r : Nat} {w : List Nat} {i : Nat} : arMs r w i [] [] = true := by unfold arMs; rfl
theorem arMs_cons {r : Nat} {w : List Nat} {i : Nat} {d0 d : DV} {l0 l : List DV} : arMs r w i (d0 :: l0) (d :: l) = (arM r (w ++ [i]) d0 d && arMs r w (i + 1) l0 l) := by conv => lhs; unfold arMs
theorem sameV_int {kk : IntKind} {m : Int} : sameV (.int kk m) (.int kk m) = true := by unfold sameV; simp
def arL (q : Pt) : Option DV → Option Arg
 | some nd => if isBox nd = true then none else (fzD nd).map fun v => ⟨.fv v, [q], none⟩
 | none => none
theorem arD_hdr1 {st : St} {q : Pt} : arD st 1 (.hdr q z k) = arL q (node st q) := by
 unfold arD arL; simp only; cases node st q <;> rfl
theorem arL_own {q : Pt} {l : List DV} : arL q (some (.own z l)) = (fzL l).map fun v => ⟨.fv (.row z v), [q], none⟩ := by
 show (fzD (.own z l)).map _ = _
 rw [fzD_own]; cases fzL l <;> rfl
theorem ix_nil {r : Nat} : ix [] r = none := nr rfl
theorem ix_cons {r i q : Nat} {w : List Nat} {l : MV} : ix ((r, i, w) :: l) q = if q = r then some (i, w) else ix l q := nr rfl
theorem xi_nil {r : Nat} : xi [] r = none := nr rfl
theorem ok2_nil : ok2 [] = true := nr rfl
theorem ok2_cons {r i : Nat} {w : List Nat} {l : MV} : ok2 ((r, i, w) :: l) = ((ix l r).isNone && (xi l i).isNone && ok2 l) := nr rfl
theorem aft_some {mv : MV} {r : Nat} {d : DV} {outs : List DV} {st : St} : aft mv (some r) d outs st = (r, d) :: upS mv outs st := nr rfl
def upX (mv : MV) (outs : List DV) (d : DV) : Option (Nat × List Nat) → DV
 | some a => upD outs d a
 | none => kl (klC mv outs) d
theorem upX_some {mv : MV} {outs : List DV} {d : DV} {a : Nat × List Nat} : upX mv outs d (some a) = upD outs d a := nr rfl
theorem upX_none {mv : MV} {outs : List DV} {d : DV} : upX mv outs d none = kl (klC mv outs) d := nr rfl
theorem upS_nil {mv : MV} {outs : List DV} : upS mv outs [] = [] := nr rfl
theorem upS_cons {a : Nat × Nat × List Nat} {mv : MV} {outs : List DV} {k : Nat} {d : DV} {st : St} : upS (a :: mv) outs ((k, d) :: st) = (k, upX (a :: mv) outs d (ix (a :: mv) k)) :: upS (a :: mv) outs st := by
 rw [upS]; unfold upX; cases ix (a :: mv) k <;> rfl
theorem upS_no {outs : List DV} : ∀ {st : St}, upS [] outs st = st
 | [] => rfl
 | (k, d) :: st => by
  rw [upS, upS_no]
  have e : kl (fun _ => false) d = d := by
   exact DV.rec (motive_1 := fun d => kl (fun _ => false) d = d) (motive_2 := fun l => kls (fun _ => false) l = l) (fun _ => by unfold kl; rfl) (fun _ _ _ => by unfold kl; rfl) (fun l ih => by unfold kl; rw [ih]) (fun _ _ => by unfold kl; rfl) (fun _ _ _ => by unfold kl; simp) (fun _ _ _ => by unfold kl; simp) (fun l ih => by unfold kl; rw [ih]) (fun _ => by unfold kl; rfl) (by unfold kls; rfl) (fun a l h1 h2 => by unfold kls; rw [h1, h2]) d
  show (k, kl (klC [] outs) d) :: st = _
  have e2 : klC [] outs = fun _ => false := by funext p; rfl
  rw [e2, e]
theorem upD_nil {outs : List DV} {d : DV} {i : Nat} : upD outs d (i, []) = outD outs i := nr rfl
theorem okUp_own {d : DV} {z : Nat} {l : List DV} : okUp d (.own z l) = true := nr rfl
theorem okUp_junk {d : DV} {k : Nat} : okUp d (.junk k) = false := nr rfl
theorem okUp_aggB {d : DV} {l : List DV} : okUp (.box d) (.agg l) = true := nr rfl
theorem upD_cons {outs : List DV} {d : DV} {i a : Nat} {w : List Nat} : upD outs d (i, a :: w) = if okUp d (outD outs i) = true then (setD (a :: w) d (outD outs i)).getD (.junk 1) else .junk 1 := nr rfl
def drP : List Nat → List Nat → Option (List Nat)
 | [], l => some l
 | a :: w, b :: l => if a = b then drP w l else none
 | _ :: _, [] => none
theorem drP_nil {w : List Nat} : drP [] w = some w := nr rfl
theorem drP_cons {a b : Nat} {w l : List Nat} : drP (a :: w) (b :: l) = if a = b then drP w l else none := nr rfl
theorem drP_cn {a : Nat} {w : List Nat} : drP (a :: w) [] = none := nr rfl
theorem drP_eq : ∀ (w l : List Nat), drP w l = if w.isPrefixOf l = true then some (l.drop w.length) else none
 | [], l => by cases l <;> rfl
 | a :: w, [] => rfl
 | a :: w, b :: l => by
  rw [drP_cons, drP_eq w l]
  show _ = if (a == b && w.isPrefixOf l) = true then some (l.drop w.length) else none
  by_cases h : a = b
  ·subst h; simp
  ·simp [h]
def klCi (outs : List DV) : Option (Nat × List Nat) → Bool
 | some (i, w) => !(w.isEmpty && isNode (outD outs i))
 | none => false
theorem klC_def {mv : MV} {outs : List DV} {p : Pt} : klC mv outs p = klCi outs (gvX (ix mv p.1) p) := by
 unfold klC klCi gvn; cases gvX (ix mv p.1) p <;> rfl
theorem klCi_none {outs : List DV} : klCi outs none = false := nr rfl
theorem klCi_some {outs : List DV} {w : List Nat} {i : Nat} : klCi outs (some (i, w)) = !(w.isEmpty && isNode (outD outs i)) := nr rfl
theorem gvX_some {p : Pt} {i : Nat} {w : List Nat} : gvX (some (i, w)) p = (drP w p.2).map fun v => (i, v) := by
 unfold gvX; simp only; rw [drP_eq]; split <;> rfl
theorem outD_def {outs : List DV} {i : Nat} : outD outs i = (outs[i]?).getD (.junk 1) := nr rfl
theorem isNode_own {l : List DV} : isNode (.own z l) = true := nr rfl
theorem isNode_junk : isNode (.junk k) = false := nr rfl
theorem clD_fv : clD (.fv v) = clF v := nr rfl
theorem clD_own {l : List DV} : clD (.own z l) = clDs l := nr rfl
theorem clD_agg {l : List DV} : clD (.agg l) = clDs l := nr rfl
theorem clD_tup {l : List DV} : clD (.tup l) = clDs l := nr rfl
theorem clD_junk : clD (.junk k) = true := nr rfl
theorem clDs_nil : clDs [] = true := nr rfl
theorem clDs_cons {d : DV} {l : List DV} : clDs (d :: l) = (clD d && clDs l) := nr rfl
theorem clDs_map {α : Type} {f : α → FV} {l : List α} (h : ∀ x, clF (f x) = true) : clDs (l.map fun x => .fv (f x)) = true := by
 induction l with
 | nil => rfl
 | cons a l ih => rw [List.map_cons, clDs_cons, ih, clD_fv, h]; rfl
theorem clF_int {m : Int} : clF (.int kk m) = true := nr rfl
theorem clF_bool {b : Bool} : clF (.bool b) = true := nr rfl
theorem clF_str {b : ByteArray} : clF (.str b) = true := nr rfl
theorem clF_nil : clF .nil = true := nr rfl
theorem clF_agg : clF (.agg vs) = clFs vs := nr rfl
theorem clFs_nil : clFs [] = true := nr rfl
theorem clFs_cons : clFs (v :: vs) = (clF v && clFs vs) := nr rfl
def slD (Γ : TypeId → Option TI) (st : St) (r t : Nat) (lo hi : Option DV) : DV → Option St
 | .fv v => (slF Γ t lo hi v).map fun y => put r (.fv y) st
 | _ => none
def slH (Γ : TypeId → Option TI) (st : St) (r t : Nat) (x : Operand) (lo hi : Option Operand) : DV → Option St
 | .fv v => (slF Γ t (lo.map (ev2 st)) (hi.map (ev2 st)) v).map fun y => put r (.fv y) st
 | .hdr q _ _ => (frz st q).bind fun f => slD Γ f.2 r t (lo.map (ev2 f.2)) (hi.map (ev2 f.2)) (ev2 f.2 x)
 | _ => none
theorem sl2_def {Γ : TypeId → Option TI} {st : St} {r t : Nat} {x : Operand} {lo hi : Option Operand} : sl2 Γ st r t x lo hi = slH Γ st r t x lo hi (ev2 st x) := by
 unfold sl2 slH slD; rfl
theorem tx2_no {Γ : TypeId → Option TI} {st : St} {t u a1 a2 : Nat} {z1 : List Value} {x : DV} (h1 : Γ t = some ⟨.str, a1, a2, z1⟩) : tx2 Γ st t u x = none := by unfold tx2; rw [h1]
theorem slH_fv {Γ : TypeId → Option TI} {st : St} {r t : Nat} {x : Operand} {lo hi : Option Operand} : slH Γ st r t x lo hi (.fv v) = (slF Γ t (lo.map (ev2 st)) (hi.map (ev2 st)) v).map fun y => put r (.fv y) st := nr rfl
theorem slF_row {Γ : TypeId → Option TI} {t : Nat} {lo hi : Option DV} : slF Γ t lo hi (.row z vs) = (es Γ t).bind fun z' => (asN2 lo 0).bind fun l => (asN2 hi vs.length).bind fun u => if z' = z ∧ z ≠ 0 ∧ l ≤ u ∧ u ≤ vs.length then some (.row z ((vs.drop l).take (u - l))) else none := nr rfl
theorem asN2_none {d : Nat} : asN2 none d = some d := nr rfl
theorem asN2_int {m : Int} {d : Nat} : asN2 (some (.fv (.int kk m))) d = if 0 ≤ m then some m.toNat else none := nr rfl
theorem cv2_sb {Γ : TypeId → Option TI} {st : St} {r t u e a1 a2 a3 a4 : Nat} {z1 z2 z3 : List Value} {b : ByteArray} (h1 : Γ t = some ⟨.str, a1, a2, z1⟩) (h2 : Γ u = some ⟨.slice e, a3, a4, z2⟩) (h3 : Γ e = some ⟨.int .u8, 1, 1, z3⟩) :
  cvA Γ st r t u (.fv (.str b)) (cv2 Γ t u (.fv (.str b))) = some ((r, .own 1 (bytesF b)) :: klS atL (clr r st)) := by
 unfold cv2 cvA cb2; rw [h1, h2]; simp only [h3]
theorem cpO_none {t : Nat} : cpO t none = .junk 1 := nr rfl
end
attribute [go_sem] LB_eq GB_eq node_def cd_bool fk_eq oko_nil oko_junk oko_own oko_agg c2_fnG fk_w keK_def ke_nil ke_cons keB_def pw_skip pw_ops pw_seq pw_block pw_exit pw_ret tt_t tt_f pw_cond th_norm th_exit th_ret bl_norm bl_exit bl_ret rd_exit rd_ret un_exit subC_nil subC_cons dok_nil dok_some dok_none afK_eq sk_some ak_some lk_some ow_nil ow_cons ow_guard gk_t gk_f gk_u putU_some o1_move o1_assign o1_extract o1_alloc o1_box o1_bs o1_ms o1_mf o1_slice o1_store putM_some o1_build o1_convert o1_pick o1_bin anE_int anE_bool o1_un o1_fa o1_ia o1_ld o1_len o1_append o1_call xk_some axK_eq soX_t soX_f soC_some lx_some ox_nil ox_cons ox_guard soP_some soP_none pxm_some pxm_none x1_ldq x1_call x1_move x1_assign x1_pick x1_bin x1_un x1_fa x1_ld noFr_nil noFr_cons nfD_fv nfD_hdr frzs_def knP_ptr mvP_tmp mvQ_fv mvQ_own asP_tmp asQ_own asQ_fv ekg_norm ekg_ret gbS_def gb1_agg gb4_own gb5_some
attribute [go_sem] get_nil get_cons clr_def klS_nil klS_cons rm_nil rm_cons setR_nil setR_cons put_def kl_fv kl_own kl_box kl_junk kl_hdr kl_ptr kl_aggE kl_tup kls_nil kls_cons atR_def atL_def belB_def ipo_nil ipo_cons ipo_cn cp_fv cp_own cp_box cp_aggE cp_tup cp_hdr cp_ptr cps_nil cps_cons ev2_tmp ev2_func ev2_int ev2_bool ev2_str ev2_nil cpO_some ofV_int ofV_bool mv2_tmp mv2_const mvS_tup mvS_fv mvS_own mvS_hdr rnR_def as2_tmp as2_const asS_some mvA_def no_fv no_own no_hdr ex2_def exS_tup nr_fv nr_own nr_box nr_junk nr_agg nr_tup nrs_nil nrs_cons nrs_app nrs_map fvs_nil fvs_cons ndO_own ndO_box ndO_owni ndO_box0 ndO_agg at_nil at_own at_agg at_box at_fagg asN_own set_nil set_own set_agg set_box set_fagg ags_fv ags_own inl_nil inl_agg inl_fagg off_own off_box nset_def sz_fv sz_own sz_junk sz_agg szs_nil szs_cons sf_int sf_bool sf_nil sf_row sf_agg sfs_nil sfs_cons ia_fv ia_own ia_agg if_int if_bool if_nil if_row if_agg oks_int oks_bool oks_str oks_nil oks_row oks_fp oks_fagg oks_hdr oks_agg okss_nil okss_cons take2_def takeL_def ab_fv ab_hdr abH_own ab_aggE abL_nil abL_cons al2_def bx2_def bxR_def rfO_some rfd_fv rfd_ahdr rfh_junk bs2_def msA_int so2_def soN_own soN_box ld2_ptr ldN_own ldN_box ld2_fp fa2_eq fa3_ptr fa3_fp ia2_eq len2_eq len3_nil len3_row len3_hdr bin2_int bin2_bool un2_bool pk_bool ap2_def ba2_nil ba2_hdr baN_own el2_row el2_hdr elN_own klO_none klO_some bdF_nil bdF_cons mkA_def mkB_some allF_nil allF_fv ini_nil ini_fv ini_own fin2_def finL_one finL_two rs2_tmp rs2_cell optL_nil optL_cons frR_nil frR_cons frD_hdr frD_fv fzL_map fzL_nil fzL_cons fzD_fv fzD_own fzD_agg fzD_box frz_def frzS_some rfS_nil rfS_cons rf_fv rf_own rf_box rf_junk rf_hdr rf_ptr rf_tup rfs_nil rfs_cons isFp_row isFp_fp frL_nil frL_cons frN_fv frN_ptr frN_hdr evF_def evO_fv mf2_def cal_def caO_fn cl2_def PS_eq dst_ok zip_nil zip_cons fm_nil fm_cons fmC_some fmC_none ars_nil mvI_some mvI_none ars_cons eqL_nil eqL_cons arJ_some arK_some arG_some dl_one dl_two ar2_def arD_fv arD_agg2 arD_agg1 arD_hdr2 arH_own lendL_nil lendL_cons lendD_fv lendD_hdr leN_own rootL_hdr ini_agg arM_own arM_agg arM_fv arMs_nil arMs_cons sameV_int arD_hdr1 arL_own ix_nil ix_cons xi_nil ok2_nil ok2_cons aft_some upX_some upX_none upS_nil upS_cons upS_no upD_nil okUp_own okUp_junk okUp_aggB upD_cons drP_nil drP_cons drP_cn klC_def klCi_none klCi_some gvX_some outD_def isNode_own isNode_junk clD_fv clD_own clD_agg clD_tup clD_junk clDs_nil clDs_cons clF_int clF_bool clF_str clF_nil clF_agg clFs_nil clFs_cons sl2_def tx2_no slH_fv slF_row asN2_none asN2_int cpO_none
attribute [go_sem] Option.bind_none Option.map_none Option.isSome_some Option.isSome_none Option.isNone_some Option.isNone_none Option.getD_some Option.getD_none beq_iff_eq Bool.or_eq_true List.range'_succ List.range'_zero List.all_cons List.all_nil and_self or_self true_or or_true true_and and_true ne_eq not_false_eq_true List.length_append List.isEmpty_cons List.isEmpty_nil List.length_map Nat.zero_lt_succ implies_true true_implies reduceCtorEq false_implies forall_const
end Go.Proofs.YtonpnjfclelpiaaGreatM
