import Derived.Test.YtonpnjfclelpiaaGreatVDMv7
namespace Go.Proofs.YtonpnjfclelpiaaGreatM
open Go
set_option linter.unusedVariables false
set_option linter.unusedSimpArgs false
mutual
def cp (p : Pt) : DV → DV
 | .own z l => .hdr p z l.length
 | .box d => .ptr p [0] 0
 | .agg l => .agg (cps p 0 l)
 | .tup _ => .junk 1
 | d => d
def cps (p : Pt) (i : Nat) : List DV → List DV
 | [] => []
 | d :: l => cp (p.1, p.2 ++ [i]) d :: cps p (i + 1) l
end
def ofV : Value → DV
 | .int k n => .fv (.int k n)
 | .bool b => .fv (.bool b)
 | .string s => .fv (.str s)
 | .slice none 0 0 => .fv .nil
 | _ => .junk 1
def cpO (t : Nat) : Option DV → DV
 | some d => cp (t, []) d
 | none => .junk 1
def ev2 (st : St) : Operand → DV
 | .tmp t => if t < LB then cpO t (get st t) else .junk 1
 | .const v => ofV v
 | .func f => .fv (.fn f [] [])
 | .global _ => .junk 1
def vl (s : S) (G : Nat → Value) : Nat → Value := fun r => if r < LB then s.t r else G r
section
variable {val val' : Nat → Value} {h h' : Hp} {ow ow' : Nat → Ow} {B B' : Nat} {st st' : St}
theorem cp_agg (p : Pt) (d : DV) : isAgg (cp p d) = isAgg d := by cases d <;> (unfold cp; rfl)
mutual
theorem DR.cp : ∀ {d : DV} {top : Bool} {p q : Pt} {cs : List Value}, DR h ow B top p d cs → DR h ow B true q (cp p d) cs
 | .own z l, top, p, q, cs, e => by
  obtain ⟨n, css, g1, g0, g2, g3, _⟩ := own_blk e
  unfold Go.Proofs.YtonpnjfclelpiaaGreatM.cp DR
  exact ⟨rfl, n, g2, g3, g1⟩
 | .box d, top, p, q, cs, e => by
  obtain ⟨n, c, g1, g2, g3, _⟩ := box_blk e
  unfold Go.Proofs.YtonpnjfclelpiaaGreatM.cp DR
  exact ⟨rfl, n, 0, 0, g2, g3, g1⟩
 | .agg l, top, p, q, cs, e => by
  unfold Go.Proofs.YtonpnjfclelpiaaGreatM.cp
  unfold DR at e ⊢
  obtain ⟨css, g1, g2⟩ := e
  exact ⟨css, g1, DRs.cp g2⟩
 | .tup _, top, p, q, cs, e => by unfold DR at e; exact e.elim
 | .fv v, top, p, q, cs, e => by unfold Go.Proofs.YtonpnjfclelpiaaGreatM.cp; unfold DR at *; exact e
 | .hdr a z k, top, p, q, cs, e => by
  unfold Go.Proofs.YtonpnjfclelpiaaGreatM.cp; unfold DR at *
  exact ⟨rfl, e.2⟩
 | .ptr a w o, top, p, q, cs, e => by
  unfold Go.Proofs.YtonpnjfclelpiaaGreatM.cp; unfold DR at *
  exact ⟨rfl, e.2⟩
 | .junk k, top, p, q, cs, e => by unfold Go.Proofs.YtonpnjfclelpiaaGreatM.cp; unfold DR at *; exact e
theorem DRs.cp : ∀ {l : List DV} {top : Bool} {p q : Pt} {i : Nat} {css : List (List Value)}, DRs h ow B top p i l css → DRs h ow B true q i (cps p i l) css
 | [], top, p, q, i, css, e => by unfold cps; unfold DRs at *; exact e
 | d :: l, top, p, q, i, css, e => by
  unfold cps; unfold DRs at e ⊢
  obtain ⟨c, r, h1, h2, h3⟩ := e
  exact ⟨c, r, h1, DR.cp h2, DRs.cp h3⟩
end
mutual
theorem cp_noOwn : ∀ (p : Pt) (d : DV), noOwn (cp p d) = true
 | p, .own z l => by unfold cp noOwn; rfl
 | p, .box d => by unfold cp noOwn; rfl
 | p, .agg l => by unfold cp noOwn; exact cps_noOwn p 0 l
 | p, .tup _ => by unfold cp noOwn; rfl
 | p, .fv _ => by unfold cp noOwn; rfl
 | p, .hdr _ _ _ => by unfold cp noOwn; rfl
 | p, .ptr _ _ _ => by unfold cp noOwn; rfl
 | p, .junk _ => by unfold cp noOwn; rfl
theorem cps_noOwn : ∀ (p : Pt) (i : Nat) (l : List DV), noOwns (cps p i l) = true
 | p, i, [] => by unfold cps noOwns; rfl
 | p, i, d :: l => by unfold cps noOwns; rw [cp_noOwn, cps_noOwn]; rfl
end
theorem VR2.cp {p q : Pt} {d : DV} {v : Value} (e : VR2 h ow B p d v) : VRc h ow B q (cp p d) v := by
 rcases e with ⟨l, vs, rfl, _, _⟩ | ⟨k, rfl⟩ | ⟨cs, h1, h2⟩
 ·left; exact ⟨1, by unfold Go.Proofs.YtonpnjfclelpiaaGreatM.cp; rfl⟩
 ·left; exact ⟨k, by unfold Go.Proofs.YtonpnjfclelpiaaGreatM.cp; rfl⟩
 ·right; exact ⟨cs, h1.cp, by rw [cp_agg]; exact h2⟩
theorem ofV_ok (p : Pt) (v : Value) : VRc h ow B p (ofV v) v := by
 unfold ofV
 split
 ·right; exact ⟨[.int _ _], by unfold DR FR; rfl, rfl⟩
 ·right; exact ⟨[.bool _], by unfold DR FR; rfl, rfl⟩
 ·right; exact ⟨[.string _], by unfold DR FR; rfl, rfl⟩
 ·right; exact ⟨[.slice none 0 0], by unfold DR FR; rfl, rfl⟩
 ·left; exact ⟨1, rfl⟩
theorem ofV_noOwn (v : Value) : noOwn (ofV v) = true := by unfold ofV; split <;> (unfold noOwn; rfl)
theorem ev2_ok {s : S} {G : Nat → Value} (C : Core (vl s G) h ow B st) (x : Operand) (p : Pt) : VRc h ow B p (ev2 st x) (s.ev x) ∧ noOwn (ev2 st x) = true := by
 cases x with
 | tmp t =>
  have e0 : ev2 st (.tmp t) = if t < LB then cpO t (get st t) else .junk 1 := rfl
  rw [e0]
  by_cases ht : t < LB
  ·rw [if_pos ht]
   cases hg : get st t with
   | none => exact ⟨.inl ⟨1, rfl⟩, by unfold cpO noOwn; rfl⟩
   | some d =>
    have := (C.regs t d hg).cp (q := p)
    unfold vl at this
    rw [if_pos ht] at this
    exact ⟨this, cp_noOwn _ _⟩
  ·rw [if_neg ht]; exact ⟨.inl ⟨1, rfl⟩, by unfold noOwn; rfl⟩
 | const v => exact ⟨ofV_ok p v, ofV_noOwn v⟩
 | func f =>
  refine ⟨.inr ⟨[.func (.func f) #[] #[]], ?_, rfl⟩, by unfold ev2 noOwn; rfl⟩
  unfold ev2 DR FR
  exact ⟨[], [], rfl, by unfold FRs; rfl, by unfold FRs; rfl⟩
 | global g => exact ⟨.inl ⟨1, rfl⟩, by unfold ev2 noOwn; rfl⟩
def svL : List FV → Option (List Value)
 | [] => some []
 | .int k n :: l => (svL l).map fun r => .int k n :: r
 | _ => none
def sv : DV → Option Value
 | .fv (.int k n) => some (.int k n)
 | .fv (.bool b) => some (.bool b)
 | .fv (.str s) => some (.string s)
 | .fv .nil => some (.slice none 0 0)
 | .fv (.agg l) => (svL l).map fun cs => .agg cs.toArray
 | _ => none
theorem svL_ok : ∀ {l : List FV} {cs : List Value} {css : List (List Value)}, svL l = some cs → FRs h ow B l css → css.flatten = cs
 | [], cs, css, hl, e => by unfold svL at hl; injection hl with hl; subst hl; unfold FRs at e; subst e; rfl
 | .int k n :: l, cs, css, hl, e => by
  simp only [svL] at hl
  obtain ⟨r, h1, rfl⟩ := Option.map_eq_some_iff.1 hl
  unfold FRs at e
  obtain ⟨c, r2, rfl, h2, h3⟩ := e
  unfold FR at h2; subst h2
  simp [svL_ok h1 h3]
 | .bool _ :: l, cs, css, hl, e => by simp [svL] at hl
 | .str _ :: l, cs, css, hl, e => by simp [svL] at hl
 | .nil :: l, cs, css, hl, e => by simp [svL] at hl
 | .nilp :: l, cs, css, hl, e => by simp [svL] at hl
 | .row _ _ :: l, cs, css, hl, e => by simp [svL] at hl
 | .agg _ :: l, cs, css, hl, e => by simp [svL] at hl
 | .fp _ :: l, cs, css, hl, e => by simp [svL] at hl
 | .fn _ _ _ :: l, cs, css, hl, e => by simp [svL] at hl
theorem sv_ok {d : DV} {x v : Value} {p : Pt} (hs : sv d = some x) (e : VRc h ow B p d v) : v = x := by
 unfold sv at hs
 split at hs
 ·injection hs with hs; subst hs
  rcases e with ⟨k, hk⟩ | ⟨cs, h1, h2⟩
  ·cases hk
  ·unfold DR FR at h1; subst h1; exact h2
 ·injection hs with hs; subst hs
  rcases e with ⟨k, hk⟩ | ⟨cs, h1, h2⟩
  ·cases hk
  ·unfold DR FR at h1; subst h1; exact h2
 ·injection hs with hs; subst hs
  rcases e with ⟨k, hk⟩ | ⟨cs, h1, h2⟩
  ·cases hk
  ·unfold DR FR at h1; subst h1; exact h2
 ·injection hs with hs; subst hs
  rcases e with ⟨k, hk⟩ | ⟨cs, h1, h2⟩
  ·cases hk
  ·unfold DR FR at h1; subst h1; exact h2
 ·obtain ⟨c, h3, rfl⟩ := Option.map_eq_some_iff.1 hs
  rcases e with ⟨k, hk⟩ | ⟨cs, h1, h2⟩
  ·cases hk
  ·unfold DR FR at h1
   obtain ⟨css, rfl, h4⟩ := h1
   rw [h2, svL_ok h3 h4]; rfl
 ·cases hs
def isNil : DV → Option Bool
 | .fv .nil => some true
 | .fv (.row _ l) => if l.isEmpty = true then none else some false
 | .hdr _ _ _ => some false
 | _ => none
def nilC (Γ : TypeId → Option TI) (op : BinOp) (t : TypeId) (b : DV) : Option Bool := match op, b with
 | .eql, .fv .nil => match Γ t with | some ⟨.slice _, _, _, _⟩ => some true | _ => none
 | .neq, .fv .nil => match Γ t with | some ⟨.slice _, _, _, _⟩ => some false | _ => none
 | _, _ => none
def bin2 (Γ : TypeId → Option TI) (E : TypeId → Nat) (op : BinOp) (t : TypeId) (a b : DV) : Option DV := match nilC Γ op t b with
 | some w => (isNil a).map fun x => .fv (.bool (x == w))
 | none => (sv a).bind fun x => (sv b).bind fun y => (binV Γ E op t x y).map ofV
theorem isNil_ok {d : DV} {v : Value} {p : Pt} {x : Bool} (hn : isNil d = some x) (e : VRc h ow B p d v) : ∃ a n c, v = .slice a n c ∧ a.isNone = x := by
 unfold isNil at hn
 split at hn
 ·injection hn with hn; subst hn
  rcases e with ⟨k, hk⟩ | ⟨cs, h1, h2⟩
  ·cases hk
  ·unfold DR FR at h1; subst h1; exact ⟨none, 0, 0, h2, rfl⟩
 ·split at hn
  ·cases hn
  ·rename_i hl
   injection hn with hn; subst hn
   rcases e with ⟨k, hk⟩ | ⟨cs, h1, h2⟩
   ·cases hk
   ·unfold DR FR at h1
    rcases h1 with ⟨h1, _⟩ | ⟨n, o, c, _, rfl, _⟩
    ·subst h1; exact absurd rfl hl
    ·exact ⟨_, _, _, h2, rfl⟩
 ·injection hn with hn; subst hn
  rcases e with ⟨k, hk⟩ | ⟨cs, h1, h2⟩
  ·cases hk
  ·unfold DR at h1; obtain ⟨_, n, _, _, rfl⟩ := h1; exact ⟨_, _, _, h2, rfl⟩
 ·cases hn
theorem bin2_ok {Γ : TypeId → Option TI} {E : TypeId → Nat} {op : BinOp} {t : TypeId} {a b d : DV} {x y : Value} {p : Pt} (hb : bin2 Γ E op t a b = some d) (ea : VRc h ow B p a x) (eb : VRc h ow B p b y) : ∃ v, binV Γ E op t x y = some v ∧ VRc h ow B p d v ∧ noOwn d = true := by
 unfold bin2 at hb
 split at hb
 ·rename_i w hw
  obtain ⟨u, h1, rfl⟩ := Option.map_eq_some_iff.1 hb
  obtain ⟨a', n, c, rfl, h2⟩ := isNil_ok h1 ea
  unfold nilC at hw
  split at hw
  ·have hy : y = .slice none 0 0 := sv_ok (d := .fv .nil) rfl eb
   subst hy
   split at hw
   ·rename_i hg
    injection hw with hw; subst hw
    refine ⟨.bool u, ?_, ofV_ok p (.bool (u == true)) |> fun h => by simpa [ofV] using h, by unfold noOwn; rfl⟩
    simp only [binV, hg, h2]
   ·cases hw
  ·have hy : y = .slice none 0 0 := sv_ok (d := .fv .nil) rfl eb
   subst hy
   split at hw
   ·rename_i hg
    injection hw with hw; subst hw
    refine ⟨.bool (!u), ?_, ofV_ok p (.bool (u == false)) |> fun h => by simpa [ofV] using h, by unfold noOwn; rfl⟩
    simp only [binV, hg, h2]
   ·cases hw
  ·cases hw
 ·obtain ⟨x', h1, hb⟩ := Option.bind_eq_some_iff.1 hb
  obtain ⟨y', h2, hb⟩ := Option.bind_eq_some_iff.1 hb
  obtain ⟨v, h3, rfl⟩ := Option.map_eq_some_iff.1 hb
  rw [sv_ok h1 ea, sv_ok h2 eb]
  exact ⟨v, h3, ofV_ok p v, ofV_noOwn v⟩
def pk (c a b : DV) : Option DV := match c with
 | .fv (.bool t) => some (if t = true then a else b)
 | _ => none
def nil2 : DV → Option DV
 | .ptr q w o => some (.ptr q w o)
 | .fv (.fp d) => some (.fv (.fp d))
 | .fv (.fn f a b) => some (.fv (.fn f a b))
 | _ => none
def cv2 (Γ : TypeId → Option TI) (s d : TypeId) (a : DV) : Option DV := match Γ s, Γ d, a with
 | some ⟨.int _, _, _, _⟩, some ⟨.int k, _, _, _⟩, .fv (.int _ n) => some (.fv (.int k (k.wrap n)))
 | some ⟨.str, _, _, _⟩, some ⟨.str, _, _, _⟩, .fv (.str b) => some (.fv (.str b))
 | _, _, _ => none
def fa2 (Γ : TypeId → Option TI) (t : TypeId) (f : Nat) (a : DV) : Option DV := match Γ t with
 | some ⟨.struct fs, _, _, _⟩ => (fs[f]?).bind fun p => (Γ p.2).bind fun i => if i.size = 0 then none else match a with
  | .ptr q w o => some (.ptr q (w ++ [f]) (o + p.1))
  | .fv (.fp (.agg l)) => (l[f]?).bind fun d => if szFs (l.take f) = p.1 then some (.fv (.fp d)) else none
  | _ => none
 | _ => none
def fd2 (Γ : TypeId → Option TI) (t : TypeId) (f : Nat) (a : DV) : Option DV := match Γ t with
 | some ⟨.struct fs, _, _, _⟩ => (fs[f]?).bind fun p => (Γ p.2).bind fun i => match a with
  | .fv (.agg l) => (l[f]?).bind fun d => if szFs (l.take f) = p.1 ∧ i.sh.agg = isAggF d ∧ i.size = szF d ∧ (i.size = 1 ∨ i.sh.agg = true) then some (.fv d) else none
  | .agg l => (l[f]?).bind fun d => if szDs (l.take f) = p.1 ∧ i.sh.agg = isAgg d ∧ i.size = szD d ∧ (i.size = 1 ∨ i.sh.agg = true) then some d else none
  | _ => none
 | _ => none
def ia2 (Γ : TypeId → Option TI) (t : TypeId) (a i : DV) : Option DV := match es Γ t, i with
 | some z, .fv (.int _ j) => match a with
  | .hdr q z' k => if z' = z ∧ 0 ≤ j ∧ j < k then some (.ptr q [j.toNat] (j.toNat * z)) else none
  | .fv (.row z' l) => if z' = z ∧ 0 ≤ j then (l[j.toNat]?).map fun d => .fv (.fp d) else none
  | _ => none
 | _, _ => none
def ix2 (Γ : TypeId → Option TI) (t : TypeId) (a i : DV) : Option DV := match Γ t, a, i with
 | some ⟨.str, _, _, _⟩, .fv (.str s), .fv (.int _ j) => if 0 ≤ j then (s[j.toNat]?).map fun b => .fv (.int .u8 b.toNat) else none
 | _, _, _ => none
def len2 (Γ : TypeId → Option TI) (t : TypeId) (a : DV) : Option DV := match isStr Γ t, a with
 | some true, .fv (.str s) => some (.fv (.int .i64 s.size))
 | some false, .fv .nil => some (.fv (.int .i64 0))
 | some false, .fv (.row _ l) => some (.fv (.int .i64 l.length))
 | some false, .hdr _ _ k => some (.fv (.int .i64 k))
 | _, _ => none
def mm2 (w : Bool) : DV → DV → Option DV
 | .fv (.int k a), .fv (.int _ b) => some (.fv (.int k (if w = true then (if b < a then b else a) else (if b > a then b else a))))
 | _, _ => none
end
end Go.Proofs.YtonpnjfclelpiaaGreatM
