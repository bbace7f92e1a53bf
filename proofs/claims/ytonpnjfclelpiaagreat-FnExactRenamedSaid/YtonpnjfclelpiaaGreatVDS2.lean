import Derived.Test.YtonpnjfclelpiaaGreatVDS1
import Derived.Test.YtonpnjfclelpiaaGreatVDMvm
namespace Go.Proofs.YtonpnjfclelpiaaGreatM
open Go
set_option linter.unusedVariables false
set_option linter.unusedSimpArgs false
set_option maxRecDepth 100000
set_option maxHeartbeats 4000000
attribute [local irreducible] PW CK EK C2 PXM XK LX axK rdK thK blK FK SK LK AK GK CD unK TT keK
def leB (a b : List Bool) : Prop := a.length = b.length ∧ ∀ i : Nat, a[i]? = some true → b[i]? = some true
theorem leB_refl (a : List Bool) : leB a a := ⟨rfl, fun _ h => h⟩
theorem leB_trans {a b c : List Bool} (h : leB a b) (g : leB b c) : leB a c := ⟨h.1.trans g.1, fun i x => g.2 i (h.2 i x)⟩
theorem leB_set {a b : List Bool} (h : leB a b) (i : Nat) (v : Bool) : leB (a.set i v) (b.set i v) := by
 refine ⟨by simp [h.1], fun j hj => ?_⟩
 rw [List.getElem?_set] at hj ⊢
 split at hj
 ·rename_i hij
  rw [if_pos hij]
  split at hj
  ·rename_i hl; rw [if_pos (by have := h.1; omega)]; exact hj
  ·cases hj
 ·rename_i hij
  rw [if_neg hij]; exact h.2 j hj
theorem leB_fold {us : List Int} : ∀ {a b : List Bool}, leB a b → leB (us.foldl (fun o u => o.set u.toNat true) a) (us.foldl (fun o u => o.set u.toNat true) b) := by
 induction us with
 | nil => exact fun h => h
 | cons u us ih => exact fun h => ih (leB_set h _ _)
theorem leB_back (x : StepD) {a b : List Bool} (h : leB a b) : leB (backB x a) (backB x b) := by
 unfold backB
 split
 ·exact leB_fold (leB_set h _ _)
 ·exact leB_fold h
theorem leB_backs : ∀ (l : List StepD) {a b : List Bool}, leB a b → leB (l.foldr backB a) (l.foldr backB b)
 | [], _, _, h => h
 | x :: l, _, _, h => leB_back x (leB_backs l h)
theorem leB_or {a b s t : List Bool} (h : leB a b) (g : leB s t) : leB (orB a s) (orB b t) := by
 unfold orB
 refine ⟨by rw [List.length_zipWith, List.length_zipWith, h.1, g.1], fun i hi => ?_⟩
 rw [List.getElem?_zipWith] at hi ⊢
 cases ha : a[i]? with
 | none => rw [ha] at hi; cases hi
 | some x =>
  cases hs : s[i]? with
  | none => rw [ha, hs] at hi; cases hi
  | some y =>
   rw [ha, hs] at hi
   simp only [Option.some.injEq] at hi
   have hb : i < b.length := by have := (List.getElem?_eq_some_iff.1 ha).1; have := h.1; omega
   have ht : i < t.length := by have := (List.getElem?_eq_some_iff.1 hs).1; have := g.1; omega
   rw [List.getElem?_eq_getElem hb, List.getElem?_eq_getElem ht]
   simp only [Option.some.injEq]
   cases x with
   | true =>
    have := h.2 i ha
    rw [List.getElem?_eq_getElem hb] at this
    injection this with this
    rw [this]; rfl
   | false =>
    simp only [Bool.false_or] at hi
    subst hi
    have := g.2 i hs
    rw [List.getElem?_eq_getElem ht] at this
    injection this with this
    rw [this]; simp
def leI (a b : List (List Bool)) : Prop := a.length = b.length ∧ ∀ (i : Nat) (s t : List Bool), a[i]? = some s → b[i]? = some t → leB s t
theorem leI_getD {a b : List (List Bool)} (h : leI a b) (k : Nat) : leB ((a[k]?).getD []) ((b[k]?).getD []) := by
 cases ha : a[k]? with
 | none =>
  have : b[k]? = none := by rw [List.getElem?_eq_none_iff] at ha ⊢; have := h.1; omega
  rw [this]; exact leB_refl _
 | some s =>
  have hk := (List.getElem?_eq_some_iff.1 ha).1
  have hk2 : k < b.length := by have := h.1; omega
  have hb := List.getElem?_eq_getElem hk2
  rw [hb]
  exact h.2 k s _ ha hb
theorem leB_out {t : TermD} {V : Nat} {a b : List (List Bool)} (h : leI a b) : leB (outB t V a) (outB t V b) := by
 unfold outB
 have : ∀ (ks : List Int) {o p : List Bool}, leB o p → leB (ks.foldl (fun o k => orB o ((a[k.toNat]?).getD [])) o) (ks.foldl (fun o k => orB o ((b[k.toNat]?).getD [])) p) := by
  intro ks
  induction ks with
  | nil => exact fun h => h
  | cons k ks ih => exact fun hop => ih (leB_or hop (leI_getD h _))
 exact this _ (leB_refl _)
theorem leB_before {b : BlockD} {at_ V : Nat} {i j : List (List Bool)} (h : leI i j) : leB (beforeB b at_ V i) (beforeB b at_ V j) := leB_backs _ (leB_fold (leB_out h))
def bAt (bs : List BlockD) (b : Nat) : BlockD := (bs[b]?).getD ⟨[], [], ⟨0, 0, 0, 0⟩⟩
def nowB (bs : List BlockD) (V b : Nat) (ins : List (List Bool)) : List Bool := beforeB (bAt bs b) 0 V ins
def updB (bs : List BlockD) (V b : Nat) (ins : List (List Bool)) : List (List Bool) := ins.set b (nowB bs V b ins)
def sweepN (bs : List BlockD) (V : Nat) : Nat → List (List Bool) → List (List Bool)
 | 0, ins => ins
 | k + 1, ins => sweepN bs V k (updB bs V k ins)
def chgN (bs : List BlockD) (V : Nat) : Nat → List (List Bool) → Bool
 | 0, _ => false
 | k + 1, ins => !decide (ins[k]? = some (nowB bs V k ins)) || chgN bs V k (updB bs V k ins)
structure Grow (bs : List BlockD) (V : Nat) (ins : List (List Bool)) : Prop where
 ok : InsOk V bs.length ins
 blk : ∀ (b : Nat) (h : b < bs.length), BlkIn bs[b] V bs.length
 le : ∀ (b : Nat) (s : List Bool), ins[b]? = some s → leB s (nowB bs V b ins)
theorem before_len {b : BlockD} {at_ V n : Nat} {ins : List (List Bool)} (hi : InsOk V n ins) (hk : BlkIn b V n) : (beforeB b at_ V ins).length = V := by
 unfold beforeB; rw [foldr_back_len, endB_len hi hk.succ]
theorem bAt_lt {bs : List BlockD} {b : Nat} (h : b < bs.length) : bAt bs b = bs[b] := by unfold bAt; rw [List.getElem?_eq_getElem h]; rfl
theorem upd_le {bs : List BlockD} {V b : Nat} {ins : List (List Bool)} (g : Grow bs V ins) (hb : b < bs.length) : leI ins (updB bs V b ins) := by
 unfold updB
 refine ⟨by simp, fun i s t hs ht => ?_⟩
 rw [List.getElem?_set] at ht
 split at ht
 ·rename_i hbi
  split at ht
  ·injection ht with ht; subst ht; subst hbi
   exact g.le b s hs
  ·cases ht
 ·rw [hs] at ht; injection ht with ht; subst ht; exact leB_refl _
theorem upd_grow {bs : List BlockD} {V b : Nat} {ins : List (List Bool)} (g : Grow bs V ins) (hb : b < bs.length) : Grow bs V (updB bs V b ins) := by
 have hle := upd_le g hb
 refine ⟨⟨by unfold updB; rw [List.length_set]; exact g.ok.len, fun s hs => ?_, g.ok.small⟩, g.blk, fun i s hs => ?_⟩
 ·unfold updB at hs
  rcases List.mem_or_eq_of_mem_set hs with h | rfl
  ·exact g.ok.row s h
  ·unfold nowB; rw [bAt_lt hb]; exact before_len g.ok (g.blk b hb)
 ·have hmono : leB (nowB bs V i ins) (nowB bs V i (updB bs V b ins)) := leB_before hle
  unfold updB at hs
  rw [List.getElem?_set] at hs
  split at hs
  ·rename_i hbi
   split at hs
   ·injection hs with hs; subst hs; subst hbi; exact hmono
   ·cases hs
  ·exact leB_trans (g.le i s hs) hmono
def cntF (ins : List (List Bool)) : Nat := (ins.map fun s => s.count false).sum
theorem leB_cnt : ∀ {a b : List Bool}, leB a b → b.count false ≤ a.count false ∧ (a ≠ b → b.count false < a.count false)
 | [], b, h => by
  have : b = [] := List.eq_nil_of_length_eq_zero h.1.symm
  subst this; exact ⟨Nat.le_refl _, fun hh => absurd rfl hh⟩
 | x :: a, [], h => by have := h.1; simp at this
 | x :: a, y :: b, h => by
  have ht : leB a b := ⟨by have := h.1; simpa using this, fun i hi => by have := h.2 (i + 1) (by simpa using hi); simpa using this⟩
  obtain ⟨i1, i2⟩ := leB_cnt ht
  have h0 : x = true → y = true := fun hx => by
   have := h.2 0 (by simp [hx]); simpa using this
  cases x with
  | true =>
   have := h0 rfl; subst this
   simp only [List.count_cons, beq_iff_eq, Bool.true_eq_false, if_false, Nat.add_zero]
   exact ⟨i1, fun hh => i2 (fun e => hh (by rw [e]))⟩
  | false =>
   cases y with
   | true =>
    simp only [List.count_cons, beq_iff_eq, Bool.true_eq_false, if_false, Nat.add_zero, beq_self_eq_true, if_true]
    exact ⟨by omega, fun _ => by omega⟩
   | false =>
    simp only [List.count_cons, beq_self_eq_true, if_true]
    exact ⟨by omega, fun hh => by have := i2 (fun e => hh (by rw [e])); omega⟩
theorem sum_set {l : List (List Bool)} : ∀ {b : Nat} {s t : List Bool}, l[b]? = some s → ((l.set b t).map fun s => s.count false).sum + s.count false = (l.map fun s => s.count false).sum + t.count false := by
 induction l with
 | nil => intro b s t h; simp at h
 | cons a l ih =>
  intro b s t h
  cases b with
  | zero =>
   simp only [List.getElem?_cons_zero, Option.some.injEq] at h
   subst h
   simp only [List.set_cons_zero, List.map_cons, List.sum_cons]
   omega
  | succ b =>
   simp only [List.getElem?_cons_succ] at h
   have := ih (t := t) h
   simp only [List.set_cons_succ, List.map_cons, List.sum_cons]
   omega
theorem upd_cnt {bs : List BlockD} {V b : Nat} {ins : List (List Bool)} (g : Grow bs V ins) (hb : b < bs.length) : cntF (updB bs V b ins) ≤ cntF ins ∧ (ins[b]? ≠ some (nowB bs V b ins) → cntF (updB bs V b ins) < cntF ins) := by
 have hbi : b < ins.length := by rw [g.ok.len]; exact hb
 have hs := List.getElem?_eq_getElem hbi
 have h1 := sum_set (t := nowB bs V b ins) hs
 obtain ⟨c1, c2⟩ := leB_cnt (g.le b _ hs)
 unfold cntF updB
 refine ⟨by omega, fun hne => ?_⟩
 have := c2 (fun e => hne (by rw [hs, e]))
 omega
theorem sweep_grow {bs : List BlockD} {V : Nat} : ∀ (k : Nat) {ins : List (List Bool)}, k ≤ bs.length → Grow bs V ins → Grow bs V (sweepN bs V k ins) ∧ cntF (sweepN bs V k ins) ≤ cntF ins ∧ (chgN bs V k ins = true → cntF (sweepN bs V k ins) < cntF ins)
 | 0, ins, _, g => ⟨g, Nat.le_refl _, fun h => by cases h⟩
 | k + 1, ins, hk, g => by
  have g2 := upd_grow g (b := k) (by omega)
  obtain ⟨c1, c2⟩ := upd_cnt g (b := k) (by omega)
  obtain ⟨r1, r2, r3⟩ := sweep_grow k (by omega) g2
  refine ⟨r1, ?_, fun h => ?_⟩
  ·unfold sweepN; omega
  ·unfold sweepN
   unfold chgN at h
   rw [Bool.or_eq_true, Bool.not_eq_true', decide_eq_false_iff_not] at h
   rcases h with h | h
   ·have := c2 h; omega
   ·have := r3 h; omega
def fixN (bs : List BlockD) (V : Nat) : Nat → List (List Bool) → List (List Bool)
 | 0, ins => ins
 | k + 1, ins => if chgN bs V bs.length ins = true then fixN bs V k (sweepN bs V bs.length ins) else sweepN bs V bs.length ins
theorem fixN_more {bs : List BlockD} {V : Nat} : ∀ (k k' : Nat) {ins : List (List Bool)}, Grow bs V ins → cntF ins < k → cntF ins < k' → fixN bs V k ins = fixN bs V k' ins
 | 0, _, _, _, h, _ => by omega
 | _ + 1, 0, _, _, _, h => by omega
 | k + 1, k' + 1, ins, g, h1, h2 => by
  unfold fixN
  obtain ⟨r1, r2, r3⟩ := sweep_grow bs.length (Nat.le_refl _) g
  split
  ·rename_i hc
   have := r3 hc
   exact fixN_more k k' r1 (by omega) (by omega)
  ·rfl
def lfpB (bs : List BlockD) (V : Nat) (ins : List (List Bool)) : List (List Bool) := fixN bs V (cntF ins + 1) ins
theorem lfpB_eq {bs : List BlockD} {V : Nat} {ins : List (List Bool)} (g : Grow bs V ins) : lfpB bs V ins = if chgN bs V bs.length ins = true then lfpB bs V (sweepN bs V bs.length ins) else sweepN bs V bs.length ins := by
 conv => lhs; unfold lfpB fixN
 obtain ⟨r1, r2, r3⟩ := sweep_grow bs.length (Nat.le_refl _) g
 split
 ·rename_i hc
  have := r3 hc
  unfold lfpB
  exact fixN_more _ _ r1 (by omega) (by omega)
 ·rfl
theorem fixN_grow {bs : List BlockD} {V : Nat} : ∀ (k : Nat) {ins : List (List Bool)}, Grow bs V ins → Grow bs V (fixN bs V k ins)
 | 0, _, g => g
 | k + 1, ins, g => by
  unfold fixN
  obtain ⟨r1, _, _⟩ := sweep_grow bs.length (Nat.le_refl _) g
  split
  ·exact fixN_grow k r1
  ·exact r1
def emptyI (V n : Nat) : List (List Bool) := List.replicate n (List.replicate V false)
theorem leB_empty {V : Nat} {b : List Bool} (h : b.length = V) : leB (List.replicate V false) b := by
 refine ⟨by simp [h], fun i hi => ?_⟩
 rw [List.getElem?_replicate] at hi
 split at hi <;> cases hi
theorem empty_grow {bs : List BlockD} {V : Nat} (hV : V ≤ 1000) (hn : bs.length ≤ 1000) (hb : ∀ (b : Nat) (h : b < bs.length), BlkIn bs[b] V bs.length) : Grow bs V (emptyI V bs.length) := by
 have hok : InsOk V bs.length (emptyI V bs.length) := ⟨by unfold emptyI; simp, fun s hs => by unfold emptyI at hs; rw [List.mem_replicate] at hs; rw [hs.2]; simp, hV, hn⟩
 refine ⟨hok, hb, fun b s hs => ?_⟩
 unfold emptyI at hs
 rw [List.getElem?_replicate] at hs
 split at hs
 ·rename_i hlt
  injection hs with hs; subst hs
  exact leB_empty (by unfold nowB; rw [bAt_lt hlt]; exact before_len hok (hb b hlt))
 ·cases hs
def liveB (bs : List BlockD) (V : Nat) : List (List Bool) := lfpB bs V (emptyI V bs.length)
theorem live_grow {bs : List BlockD} {V : Nat} (hV : V ≤ 1000) (hn : bs.length ≤ 1000) (hb : ∀ (b : Nat) (h : b < bs.length), BlkIn bs[b] V bs.length) : Grow bs V (liveB bs V) := fixN_grow _ (empty_grow hV hn hb)
def insO (ins : List (List Bool)) : List DV := ins.map fun s => .own 1 (bools s)
@[go_sem] theorem insO_len {ins : List (List Bool)} : (insO ins).length = ins.length := by unfold insO; simp
@[go_sem] theorem nrs_insO {ins : List (List Bool)} : noRefs (insO ins) = true := by
 unfold insO
 induction ins with
 | nil => rfl
 | cons a l ih => rw [List.map_cons, nrs_cons, nr_own, nrs_bools, ih]; rfl
@[go_sem] theorem fzL_insO {ins : List (List Bool)} : fzL (insO ins) = some (ins.map setF) := by
 unfold insO
 induction ins with
 | nil => rfl
 | cons a l ih => rw [List.map_cons, fzL_cons, ih, fzD_own, fzL_bools]; rfl
@[go_sem] theorem fvs_ownc {z : Nat} {a l : List DV} : fvs (.own z a :: l) = false := nr rfl
@[go_sem] theorem emptyI_len {V j : Nat} : (emptyI V j).length = j := by unfold emptyI; simp
theorem insO_emp {V j : Nat} : insO (emptyI V j) ++ [.own 1 (List.replicate V (.fv (.bool false)))] = insO (emptyI V (j + 1)) := by
 unfold insO emptyI
 rw [List.replicate_succ', List.map_append, bools_rep]; rfl
theorem insO_get {ins : List (List Bool)} {i : Nat} (h : i < ins.length) : (insO ins)[i]? = some (.own 1 (bools ins[i])) := by unfold insO; simp [h]
theorem insO_set {ins : List (List Bool)} {i : Nat} {s : List Bool} : (insO ins).set i (.own 1 (bools s)) = insO (ins.set i s) := by unfold insO; rw [List.map_set]
def difU (a b : List Bool) (v : Nat) : Bool := !decide (a.take v = b.take v)
theorem difU_0 {a b : List Bool} : difU a b 0 = false := by unfold difU; simp
theorem difU_s {a b : List Bool} {v : Nat} (ha : v < a.length) (hb : v < b.length) : difU a b (v + 1) = (difU a b v || !(a[v] == b[v])) := by
 unfold difU
 rw [List.take_succ_eq_append_getElem ha, List.take_succ_eq_append_getElem hb, Bool.eq_iff_iff]
 simp only [Bool.not_eq_true', decide_eq_false_iff_not, Bool.or_eq_true, beq_eq_false_iff_ne, ne_eq]
 constructor
 ·intro h
  by_cases h1 : a.take v = b.take v
  ·right; intro h2; exact h (by rw [h1, h2])
  ·exact .inl h1
 ·rintro (h | h) h2
  ·exact h (List.append_inj_left' h2 rfl)
  ·have := List.append_inj_right' h2 rfl
   injection this with this; exact h this
theorem difU_n {a b : List Bool} {v : Nat} (ha : a.length ≤ v) (hb : b.length ≤ v) : difU a b v = !decide (a = b) := by
 unfold difU; rw [List.take_of_length_le ha, List.take_of_length_le hb]
theorem v_l11In (f : FnD) (V : Nat) (hV : f.values = (V : Int)) (hV2 : V ≤ 1000) (hf : f.blocks.length ≤ 1000) (hk : ∀ (b : Nat) (h : b < f.blocks.length), BlkIn f.blocks[b] V f.blocks.length) : C2 CC F_spec_l11In [.fv (fnF f)] (.own 1 (insO (liveB f.blocks V))) [] := by
 have hgr := empty_grow hV2 hf hk
 obtain ⟨blocks, values⟩ := f
 simp only at hV hf hk hgr
 subst hV
 have hmk : 0 ≤ (V : Int) ∧ (V : Int) < 4294967296 := ⟨by omega, by omega⟩
 refine cw (keepF Tryz.f72) Tryz.f72 false ?_
 repeat' first | refine pd3 42 [0, 1, 3, 3, 15, 31, 3, 3, 195, 451, 3, 1987, 4035, 8191, 16383, 32767] [0, 0, 0, 0, 0, 1, 0, 0, 0, 1, 0, 0, 1, 0, 0, 0] false ?_ | refine g0 ?_ | refine d0 ?_ | refine j0 (fun hg hgo => ?_) fun hg hgo => ?_ | refine ek_ret ?_ | refine ek_norm ?_ | refine ⟨by omega, ?_⟩ | rfl | trivial | intro _
 refine pw_loop (fun m st => ∃ j : Nat, j + m = blocks.length ∧ st = [(1, .box (.fv (fnF ⟨blocks, V⟩))), (3, .own 1 (insO (emptyI V j))), (4, iv j)]) blocks.length [(1, .box (.fv (fnF ⟨blocks, V⟩))), (3, .own 1 (insO (emptyI V 0))), (4, iv (0 : Nat))] (sub_of ?_) ⟨0, by omega, rfl⟩ ?_
 ·exact dn
 ·rintro m st ⟨j, hj, rfl⟩
  by_cases hlt : j < blocks.length
  ·have hd : decide ((j : Int) < (blocks.length : Int)) = true := by rw [decide_eq_true_eq]; omega
   repeat' first | refine g5 @hd @hmk @insO_emp @insO_len @emptyI_len ?_ | refine d5 @hd @hmk @insO_emp @insO_len @emptyI_len ?_ | refine j5 @hd @hmk @insO_emp @insO_len @emptyI_len (fun hg hgo => ?_) fun hg hgo => ?_ | refine ek_ret ?_ | refine ek_norm ?_ | refine ⟨by omega, ?_⟩ | rfl | trivial | intro _
   refine rd_norm [(1, .box (.fv (fnF ⟨blocks, V⟩))), (3, .own 1 (insO (emptyI V (j + 1)))), (4, iv (j + 1 : Nat))] (sub_of ?_) (m - 1) (by omega) ⟨j + 1, by omega, rfl⟩
   exact dn
  ·have hd : decide ((j : Int) < (blocks.length : Int)) = false := by rw [decide_eq_false_iff_not]; omega
   have hjn : j = blocks.length := by omega
   subst hjn
   repeat' first | refine g1 @hd ?_ | refine d1 @hd ?_ | refine j1 @hd (fun hg hgo => ?_) fun hg hgo => ?_ | refine ek_ret ?_ | refine ek_norm ?_ | refine ⟨by omega, ?_⟩ | rfl | trivial | intro _
   unfold liveB
   generalize hL : lfpB blocks V (emptyI V blocks.length) = L
   refine pw_loop (fun m st => ∃ (ins : List (List Bool)) (more : Bool), Grow blocks V ins ∧ m = (if more = true then cntF ins + 1 else 0) ∧ (if more = true then lfpB blocks V ins = L else ins = L) ∧ st = [(1, .box (.fv (fnF ⟨blocks, V⟩))), (3, .own 1 (insO ins)), (5, bv more)]) (cntF (emptyI V blocks.length) + 1) [(1, .box (.fv (fnF ⟨blocks, V⟩))), (3, .own 1 (insO (emptyI V blocks.length))), (5, bv true)] (sub_of ?_) ⟨_, true, hgr, rfl, hL, rfl⟩ ?_
   ·exact dn
   ·rintro m2 st ⟨ins, more, hg, hm, hfix, rfl⟩
    cases more with
    | false =>
     simp only [Bool.false_eq_true, if_false] at hfix
     subst hfix
     exact dn
    | true =>
     simp only [if_true] at hm hfix
     have heq := lfpB_eq hg
     rw [hfix] at heq
     obtain ⟨w1, w2, w3⟩ := sweep_grow blocks.length (Nat.le_refl _) hg
     generalize hS : sweepN blocks V blocks.length ins = S at heq w1 w2 w3
     generalize hC : chgN blocks V blocks.length ins = c at heq w3
     repeat' first | refine g0 ?_ | refine d0 ?_ | refine j0 (fun hg hgo => ?_) fun hg hgo => ?_ | refine ek_ret ?_ | refine ek_norm ?_ | refine ⟨by omega, ?_⟩ | rfl | trivial | intro _
     refine pw_loop (fun m st => ∃ (cu : List (List Bool)) (mo : Bool), m ≤ blocks.length ∧ Grow blocks V cu ∧ sweepN blocks V m cu = S ∧ (mo || chgN blocks V m cu) = c ∧ st = [(1, .box (.fv (fnF ⟨blocks, V⟩))), (3, .own 1 (insO cu)), (5, bv mo), (6, iv ((m : Int) - 1))]) blocks.length [(1, .box (.fv (fnF ⟨blocks, V⟩))), (3, .own 1 (insO ins)), (5, bv false), (6, iv ((blocks.length : Int) - 1))] (sub_of ?_) ⟨ins, false, Nat.le_refl _, hg, hS, by rw [Bool.false_or]; exact hC, rfl⟩ ?_
     ·exact dn
     ·rintro k st ⟨cu, mo, hkn, hgc, hsw, hch, rfl⟩
      cases k with
      | zero =>
       have hdz : decide (((0 : Nat) : Int) - 1 ≥ 0) = false := by rw [decide_eq_false_iff_not]; omega
       rw [show ((0 : Nat) : Int) - 1 = -1 by omega]
       have hsw' : cu = S := hsw
       have hch' : mo = c := by have := hch; unfold chgN at this; rw [Bool.or_false] at this; exact this
       subst hsw'; subst hch'
       repeat' first | refine g0 ?_ | refine d0 ?_ | refine j0 (fun hg hgo => ?_) fun hg hgo => ?_ | refine ek_ret ?_ | refine ek_norm ?_ | refine ⟨by omega, ?_⟩ | rfl | trivial | intro _
       refine rd_norm [(1, .box (.fv (fnF ⟨blocks, V⟩))), (3, .own 1 (insO cu)), (5, bv mo)] (sub_of ?_) (if mo = true then cntF cu + 1 else 0) ?_ ⟨cu, mo, hgc, rfl, ?_, rfl⟩
       ·exact dn
       ·cases mo with
        | true => simp only [if_true]; have := w3 rfl; omega
        | false => simp only [Bool.false_eq_true, if_false]; omega
       ·rw [heq]; cases mo <;> rfl
      | succ k =>
       have hki : ((k + 1 : Nat) : Int) - 1 = (k : Int) := by omega
       rw [hki]
       have hge : decide ((k : Int) ≥ 0) = true := by rw [decide_eq_true_eq]; omega
       have hkl : k < blocks.length := by omega
       have hbk := hk k hkl
       have hbf0 := v_l11Before ⟨blocks, V⟩ V k 0 cu rfl hkl hf hgc.ok hbk (Nat.zero_le _)
       have hnow : beforeB blocks[k] 0 V cu = nowB blocks V k cu := by unfold nowB; rw [bAt_lt hkl]
       simp only at hbf0
       rw [hnow] at hbf0
       have hnl : (nowB blocks V k cu).length = V := by rw [← hnow]; exact before_len hgc.ok hbk
       have hgu := upd_grow hgc hkl
       have hcl : k < cu.length := by rw [hgc.ok.len]; exact hkl
       unfold sweepN at hsw
       unfold chgN at hch
       have hrl := hgc.ok.row _ (List.getElem_mem hcl)
       have hcs : (cu[k]? = some (nowB blocks V k cu)) ↔ nowB blocks V k cu = cu[k] := by rw [List.getElem?_eq_getElem hcl]; constructor <;> (intro h; first | (injection h with h; exact h.symm) | rw [h])
       have hup : updB blocks V k cu = cu.set k (nowB blocks V k cu) := rfl
       generalize nowB blocks V k cu = now at hbf0 hnl hch hcs hup
       repeat' first | refine ck_intro (by first | exact hbf0) ?_ ?_ | refine g1 @hge ?_ | refine d1 @hge ?_ | refine j1 @hge (fun hg hgo => ?_) fun hg hgo => ?_ | refine ek_ret ?_ | refine ek_norm ?_ | refine ⟨by omega, ?_⟩ | rfl | trivial | intro _
       have hgi := insO_get hcl
       refine pw_loop (fun m st => ∃ v : Nat, v + m = V ∧ st = [(1, .box (.fv (fnF ⟨blocks, V⟩))), (3, .own 1 (insO cu)), (5, bv (mo || difU now cu[k] v)), (6, iv k), (7, .own 1 (bools now)), (8, iv v)]) V [(1, .box (.fv (fnF ⟨blocks, V⟩))), (3, .own 1 (insO cu)), (5, bv (mo || difU now cu[k] 0)), (6, iv k), (7, .own 1 (bools now)), (8, iv (0 : Nat))] (sub_of ?_) ⟨0, by omega, rfl⟩ ?_
       ·rw [difU_0, Bool.or_false]
        exact dn
       ·rintro m3 st ⟨v, hv, rfl⟩
        by_cases hlv : v < V
        ·have hdv : decide ((v : Int) < (V : Int)) = true := by rw [decide_eq_true_eq]; omega
         have hvn : v < now.length := by omega
         have hvc : v < cu[k].length := by omega
         have hgn := bools_get hvn
         have hgv := bools_get hvc
         have hdf := difU_s hvn hvc
         have hst : (mo || difU now cu[k] (v + 1)) = ((mo || difU now cu[k] v) || !(now[v] == cu[k][v])) := by rw [hdf, Bool.or_assoc]
         generalize (mo || difU now cu[k] v) = mv at hst
         repeat' first | refine pd3 42 [0, 1, 3, 3, 15, 31, 3, 3, 195, 451, 3, 1987, 4035, 8191, 16383, 32767] [0, 0, 0, 0, 0, 1, 0, 0, 0, 1, 0, 0, 1, 0, 0, 0] false ?_ | refine g4 @hdv @hgn @hgi @hgv ?_ | refine d4 @hdv @hgn @hgi @hgv ?_ | refine j4 @hdv @hgn @hgi @hgv (fun hg hgo => ?_) fun hg hgo => ?_ | refine ek_ret ?_ | refine ek_norm ?_ | refine ⟨by omega, ?_⟩ | rfl | trivial | intro _
         ·refine rd_norm [(1, .box (.fv (fnF ⟨blocks, V⟩))), (3, .own 1 (insO cu)), (5, bv (mo || difU now cu[k] (v + 1))), (6, iv k), (7, .own 1 (bools now)), (8, iv (v + 1 : Nat))] (sub_of ?_) (m3 - 1) (by omega) ⟨v + 1, by omega, rfl⟩
          rw [hst, show mv = true by assumption, Bool.true_or]
          exact dn
         ·refine rd_norm [(1, .box (.fv (fnF ⟨blocks, V⟩))), (3, .own 1 (insO cu)), (5, bv (mo || difU now cu[k] (v + 1))), (6, iv k), (7, .own 1 (bools now)), (8, iv (v + 1 : Nat))] (sub_of ?_) (m3 - 1) (by omega) ⟨v + 1, by omega, rfl⟩
          rw [hst, show mv = false by assumption, Bool.false_or]
          exact dn
        ·have hdv : decide ((v : Int) < (V : Int)) = false := by rw [decide_eq_false_iff_not]; omega
         rw [difU_n (by omega) (by omega)]
         repeat' first | refine g4 @hdv @hgi @insO_set @insO_len ?_ | refine d4 @hdv @hgi @insO_set @insO_len ?_ | refine j4 @hdv @hgi @insO_set @insO_len (fun hg hgo => ?_) fun hg hgo => ?_ | refine ek_ret ?_ | refine ek_norm ?_ | refine ⟨by omega, ?_⟩ | rfl | trivial | intro _
         refine rd_norm [(1, .box (.fv (fnF ⟨blocks, V⟩))), (3, .own 1 (insO (updB blocks V k cu))), (5, bv (mo || !decide (now = cu[k]))), (6, iv ((k : Int) - 1))] (sub_of ?_) k (by omega) ⟨_, _, by omega, hgu, hsw, ?_, rfl⟩
         ·rw [hup]
          exact dn
         ·rw [← hch, Bool.or_assoc]
          congr 2
          rw [Bool.eq_iff_iff]; simp [hcs]
def set2 (out : List (List Bool)) (i j : Nat) : List (List Bool) := out.set i (((out[i]?).getD []).set j true)
theorem set2_eq {out : List (List Bool)} {i j : Nat} (h : i < out.length) : set2 out i j = out.set i (out[i].set j true) := by unfold set2; rw [List.getElem?_eq_getElem h]; rfl
def cndC (d : Int) (x : StepD) (lv : Bool) (v : Nat) : Bool := !decide ((v : Int) = d) && lv && (!decide (x.op = 25) || !decide ((v : Int) = x.a))
def markC (d : Int) (x : StepD) (live : List Bool) (out : List (List Bool)) (v : Nat) : List (List Bool) := if cndC d x ((live[v]?).getD false) v = true then set2 (set2 out d.toNat v) v d.toNat else out
def stpC (x : StepD) (live : List Bool) (V : Nat) (out : List (List Bool)) : List (List Bool) := if insDefI x ≥ 0 then (List.range V).foldl (markC (insDefI x) x live) out else out
def mrkC (x : StepD) (live : List Bool) (v : Nat) (out : List (List Bool)) : List (List Bool) := (List.range v).foldl (markC (insDefI x) x live) out
def insAt (l : List StepD) (k : Nat) : StepD := (l[k]?).getD ⟨0, 0, 0, 0, 0⟩
def blkC (b : BlockD) (V : Nat) (ins : List (List Bool)) (n : Nat) (out : List (List Bool)) : List (List Bool) := (List.range n).foldl (fun out k => stpC (insAt b.list k) (beforeB b (k + 1) V ins) V out) out
def clashN (bs : List BlockD) (V : Nat) (ins : List (List Bool)) (n : Nat) : List (List Bool) := (List.range n).foldl (fun out b => blkC (bAt bs b) V ins (bAt bs b).list.length out) (emptyI V V)
theorem set2_ok {V i j : Nat} {out : List (List Bool)} (h : InsOk V V out) : InsOk V V (set2 out i j) := by
 refine ⟨by unfold set2; rw [List.length_set]; exact h.len, fun s hs => ?_, h.small⟩
 unfold set2 at hs
 by_cases hi : i < out.length
 ·rcases List.mem_or_eq_of_mem_set hs with hs | rfl
  ·exact h.row s hs
  ·rw [List.getElem?_eq_getElem hi, Option.getD_some, List.length_set]; exact h.row _ (List.getElem_mem hi)
 ·rw [List.set_eq_of_length_le (by omega)] at hs; exact h.row s hs
theorem markC_ok {V : Nat} {d : Int} {x : StepD} {live : List Bool} {out : List (List Bool)} {v : Nat} (h : InsOk V V out) : InsOk V V (markC d x live out v) := by
 unfold markC; split
 ·exact set2_ok (set2_ok h)
 ·exact h
theorem foldl_ok {V : Nat} {f : List (List Bool) → Nat → List (List Bool)} (hf : ∀ o k, InsOk V V o → InsOk V V (f o k)) : ∀ (l : List Nat) {out : List (List Bool)}, InsOk V V out → InsOk V V (l.foldl f out)
 | [], _, h => h
 | k :: l, _, h => foldl_ok hf l (hf _ k h)
theorem mrkC_ok {V v : Nat} {x : StepD} {live : List Bool} {out : List (List Bool)} (h : InsOk V V out) : InsOk V V (mrkC x live v out) := foldl_ok (fun o k ho => markC_ok ho) _ h
theorem stpC_ok {V : Nat} {x : StepD} {live : List Bool} {out : List (List Bool)} (h : InsOk V V out) : InsOk V V (stpC x live V out) := by
 unfold stpC; split
 ·exact foldl_ok (fun o k ho => markC_ok ho) _ h
 ·exact h
theorem blkC_ok {V n : Nat} {b : BlockD} {ins out : List (List Bool)} (h : InsOk V V out) : InsOk V V (blkC b V ins n out) := foldl_ok (fun o k ho => stpC_ok ho) _ h
theorem empty_ok {V n : Nat} (hV : V ≤ 1000) (hn : n ≤ 1000) : InsOk V n (emptyI V n) := ⟨by unfold emptyI; simp, fun s hs => by unfold emptyI at hs; rw [List.mem_replicate] at hs; rw [hs.2]; simp, hV, hn⟩
theorem clashN_ok {V n : Nat} {bs : List BlockD} {ins : List (List Bool)} (hV : V ≤ 1000) : InsOk V V (clashN bs V ins n) := foldl_ok (fun o k ho => blkC_ok ho) _ (empty_ok hV hV)
theorem range_fold {α : Type} {f : α → Nat → α} {a : α} {n : Nat} : (List.range (n + 1)).foldl f a = f ((List.range n).foldl f a) n := by rw [List.range_succ, List.foldl_append]; rfl
theorem v_l12Clashes (f : FnD) (V : Nat) (hV : f.values = (V : Int)) (hV2 : V ≤ 1000) (hf : f.blocks.length ≤ 1000) (hk : ∀ (b : Nat) (h : b < f.blocks.length), BlkIn f.blocks[b] V f.blocks.length) : C2 CC F_spec_l12Clashes [.fv (fnF f)] (.own 1 (insO (clashN f.blocks V (liveB f.blocks V) f.blocks.length))) [] := by
 have h1 := v_l11In f V hV hV2 hf hk
 have hlg := live_grow hV2 hf hk
 obtain ⟨blocks, values⟩ := f
 simp only at hV hf hk h1 hlg
 subst hV
 have hlok := hlg.ok
 generalize liveB blocks V = ins at h1 hlok
 have hmk : 0 ≤ (V : Int) ∧ (V : Int) < 4294967296 := ⟨by omega, by omega⟩
 refine cw (keepF Tryz.f47) Tryz.f47 false ?_
 repeat' first | refine g0 ?_ | refine d0 ?_ | refine j0 (fun hg hgo => ?_) fun hg hgo => ?_ | refine ek_ret ?_ | refine ek_norm ?_ | refine ⟨by omega, ?_⟩ | rfl | trivial | intro _
 refine pw_loop (fun m st => ∃ j : Nat, j + m = V ∧ st = [(1, .box (.fv (fnF ⟨blocks, V⟩))), (3, .own 1 (insO (emptyI V j))), (4, iv j)]) V [(1, .box (.fv (fnF ⟨blocks, V⟩))), (3, .own 1 (insO (emptyI V 0))), (4, iv (0 : Nat))] (sub_of ?_) ⟨0, by omega, rfl⟩ ?_
 ·exact dn
 ·rintro m st ⟨j, hj, rfl⟩
  by_cases hlt : j < V
  ·have hd : decide ((j : Int) < (V : Int)) = true := by rw [decide_eq_true_eq]; omega
   repeat' first | refine g4 @hd @hmk @insO_emp @emptyI_len ?_ | refine d4 @hd @hmk @insO_emp @emptyI_len ?_ | refine j4 @hd @hmk @insO_emp @emptyI_len (fun hg hgo => ?_) fun hg hgo => ?_ | refine ek_ret ?_ | refine ek_norm ?_ | refine ⟨by omega, ?_⟩ | rfl | trivial | intro _
   refine rd_norm [(1, .box (.fv (fnF ⟨blocks, V⟩))), (3, .own 1 (insO (emptyI V (j + 1)))), (4, iv (j + 1 : Nat))] (sub_of ?_) (m - 1) (by omega) ⟨j + 1, by omega, rfl⟩
   exact dn
  ·have hd : decide ((j : Int) < (V : Int)) = false := by rw [decide_eq_false_iff_not]; omega
   have hjn : j = V := by omega
   subst hjn
   repeat' first | refine ck_intro (by first | exact h1) ?_ ?_ | refine g1 @hd ?_ | refine d1 @hd ?_ | refine j1 @hd (fun hg hgo => ?_) fun hg hgo => ?_ | refine ek_ret ?_ | refine ek_norm ?_ | refine ⟨by omega, ?_⟩ | rfl | trivial | intro _
   refine pw_loop (fun m st => ∃ b : Nat, b + m = blocks.length ∧ st = [(1, .box (.fv (fnF ⟨blocks, j⟩))), (3, .own 1 (insO (clashN blocks j ins b))), (5, .own 1 (insO ins)), (6, iv b)]) blocks.length [(1, .box (.fv (fnF ⟨blocks, j⟩))), (3, .own 1 (insO (clashN blocks j ins 0))), (5, .own 1 (insO ins)), (6, iv (0 : Nat))] (sub_of ?_) ⟨0, by omega, rfl⟩ ?_
   ·have h0 : clashN blocks j ins 0 = emptyI j j := rfl
    rw [h0]
    exact dn
   ·rintro m st ⟨b, hb, rfl⟩
    by_cases hlb : b < blocks.length
    ·have hdb : decide ((b : Int) < (blocks.length : Int)) = true := by rw [decide_eq_true_eq]; omega
     have hcn : clashN blocks j ins (b + 1) = blkC blocks[b] j ins blocks[b].list.length (clashN blocks j ins b) := by unfold clashN; rw [range_fold, bAt_lt hlb]
     have hco := clashN_ok (bs := blocks) (ins := ins) (n := b) hV2
     generalize clashN blocks j ins b = out0 at hcn hco
     have hml : b < (blocks.map blockF).length := by rw [List.length_map]; exact hlb
     have hbk := hk b hlb
     repeat' first | refine g1 @hdb ?_ | refine d1 @hdb ?_ | refine j1 @hdb (fun hg hgo => ?_) fun hg hgo => ?_ | refine ek_ret ?_ | refine ek_norm ?_ | refine ⟨by omega, ?_⟩ | rfl | trivial | intro _
     refine pw_loop (fun m st => ∃ k : Nat, k + m = blocks[b].list.length ∧ st = [(1, .box (.fv (fnF ⟨blocks, j⟩))), (3, .own 1 (insO (blkC blocks[b] j ins k out0))), (5, .own 1 (insO ins)), (6, iv b), (7, iv k)]) blocks[b].list.length [(1, .box (.fv (fnF ⟨blocks, j⟩))), (3, .own 1 (insO (blkC blocks[b] j ins 0 out0))), (5, .own 1 (insO ins)), (6, iv b), (7, iv (0 : Nat))] (sub_of ?_) ⟨0, by omega, rfl⟩ ?_
     ·have h0 : blkC blocks[b] j ins 0 out0 = out0 := rfl
      rw [h0]
      exact dn
     ·rintro m2 st ⟨k, hkm, rfl⟩
      by_cases hlk : k < blocks[b].list.length
      ·have hdk : decide ((k : Int) < (blocks[b].list.length : Int)) = true := by rw [decide_eq_true_eq]; omega
       have hbn : blkC blocks[b] j ins (k + 1) out0 = stpC blocks[b].list[k] (beforeB blocks[b] (k + 1) j ins) j (blkC blocks[b] j ins k out0) := by
        unfold blkC; rw [range_fold]
        unfold insAt; rw [List.getElem?_eq_getElem hlk, Option.getD_some]
       have hbo := blkC_ok (n := k) (b := blocks[b]) (ins := ins) hco
       generalize blkC blocks[b] j ins k out0 = out1 at hbn hbo
       have hmk2 : k < (blocks[b].list.map stF).length := by rw [List.length_map]; exact hlk
       have hid := v_InsDef_spec blocks[b].list[k]
       have hbf := v_l11Before ⟨blocks, j⟩ j b (k + 1) ins rfl hlb hf hlok hbk (by show k + 1 ≤ blocks[b].list.length; omega)
       simp only at hbf
       have hln := before_len (at_ := k + 1) hlok hbk
       generalize beforeB blocks[b] (k + 1) j ins = live at hbn hbf hln
       have hkc : ((k + 1 : Nat) : Int) = (k : Int) + 1 := by omega
       rw [hkc] at hbf
       have hblen := hbk.len
       have hxd : insDefI blocks[b].list[k] ≥ 0 → insDefI blocks[b].list[k] < (j : Int) := fun h => by
        have h2 := (hbk.list _ (List.getElem_mem hlk)).1; unfold insDefI at h ⊢; split at h <;> rename_i hm <;> simp only [hm, if_true, if_false, Bool.false_eq_true] <;> first | exact (h2 hm).2 | omega
       repeat' first | refine ck_intro (by first | exact hid | exact hbf) ?_ ?_ | refine g2 @hdk @hdb ?_ | refine d2 @hdk @hdb ?_ | refine j2 @hdk @hdb (fun hg hgo => ?_) fun hg hgo => ?_ | refine ek_ret ?_ | refine ek_norm ?_ | refine ⟨by omega, ?_⟩ | rfl | trivial | intro _
       generalize blocks[b].list[k] = x at hid hbn hxd
       refine pw_loop (fun m st => ∃ v : Nat, v + m = j ∧ v ≤ j ∧ (insDefI x < 0 → v = 0) ∧ st = [(1, .box (.fv (fnF ⟨blocks, j⟩))), (3, .own 1 (insO (mrkC x live v out1))), (5, .own 1 (insO ins)), (6, iv b), (7, iv k), (8, .box (sF x)), (9, iv (insDefI x)), (10, .own 1 (bools live)), (11, iv v)]) j [(1, .box (.fv (fnF ⟨blocks, j⟩))), (3, .own 1 (insO (mrkC x live 0 out1))), (5, .own 1 (insO ins)), (6, iv b), (7, iv k), (8, .box (sF x)), (9, iv (insDefI x)), (10, .own 1 (bools live)), (11, iv (0 : Nat))] (sub_of ?_) ⟨0, by omega, by omega, fun _ => rfl, rfl⟩ ?_
       ·have h0 : mrkC x live 0 out1 = out1 := rfl
        rw [h0]
        exact dn
       ·rintro m3 st ⟨v, hvm, hvj, hv0, rfl⟩
        by_cases hge : insDefI x ≥ 0
        ·have hdg : decide (insDefI x ≥ 0) = true := by rw [decide_eq_true_eq]; exact hge
         by_cases hlv : v < j
         ·have hdv : decide ((v : Int) < (j : Int)) = true := by rw [decide_eq_true_eq]; omega
          have hmn : mrkC x live (v + 1) out1 = markC (insDefI x) x live (mrkC x live v out1) v := range_fold
          have hmo := mrkC_ok (x := x) (live := live) (v := v) hbo
          generalize mrkC x live v out1 = out2 at hmn hmo
          obtain ⟨d, hdn⟩ := Int.eq_ofNat_of_zero_le hge
          have hdlt : d < j := by have := hxd hge; omega
          rw [hdn] at hmn ⊢
          have hlo := hmo.len
          have hdl : d < out2.length := by omega
          have hgd := insO_get hdl
          have hrd := hmo.row _ (List.getElem_mem hdl)
          have hlvl : v < live.length := by omega
          have hgl := bools_get hlvl
          unfold markC cndC at hmn
          rw [List.getElem?_eq_getElem hlvl, Option.getD_some] at hmn
          have hgv := bools_get (l := out2[d]) (i := v) (by omega)
          have hs3 : (insO out2).set d (.own 1 (bools (out2[d].set v true))) = insO (set2 out2 d v) := by rw [insO_set, set2_eq hdl]
          have hmo3 := set2_ok (i := d) (j := v) hmo
          have hdd : (d : Int).toNat = d := rfl
          rw [hdd] at hmn
          generalize set2 out2 d v = out3 at hs3 hmo3 hmn
          have hlo3 := hmo3.len
          have hvl : v < out3.length := by omega
          have hgd3 := insO_get hvl
          have hrd3 := hmo3.row _ (List.getElem_mem hvl)
          have hgv3 := bools_get (l := out3[v]) (i := d) (by omega)
          have hs4 : (insO out3).set v (.own 1 (bools (out3[v].set d true))) = insO (set2 out3 v d) := by rw [insO_set, set2_eq hvl]
          repeat' first | refine g10 @hdv @hdg @hgd @hgl @hgv @bools_set @hs3 @hgd3 @hgv3 @hs4 ?_ | refine d10 @hdv @hdg @hgd @hgl @hgv @bools_set @hs3 @hgd3 @hgv3 @hs4 ?_ | refine j10 @hdv @hdg @hgd @hgl @hgv @bools_set @hs3 @hgd3 @hgv3 @hs4 (fun hg hgo => ?_) fun hg hgo => ?_ | refine ek_ret ?_ | refine ek_norm ?_ | refine ⟨by omega, ?_⟩ | rfl | trivial | intro _
          all_goals first
           | (exfalso; omega)
           | (have hc : (!decide ((v : Int) = (d : Int)) && live[v] && (!decide (x.op = 25) || !decide ((v : Int) = x.a))) = true := by
                simp only [Bool.and_eq_true, Bool.or_eq_true, Bool.not_eq_true', decide_eq_false_iff_not]
                exact ⟨⟨by omega, by assumption⟩, by omega⟩
              rw [if_pos hc] at hmn
              refine rd_norm [(1, .box (.fv (fnF ⟨blocks, j⟩))), (3, .own 1 (insO (mrkC x live (v + 1) out1))), (5, .own 1 (insO ins)), (6, iv b), (7, iv k), (8, .box (sF x)), (9, iv (d : Int)), (10, .own 1 (bools live)), (11, iv (v + 1 : Nat))] (sub_of ?_) (m3 - 1) (by omega) ⟨v + 1, by omega, by omega, fun h => by omega, rfl⟩
              rw [hmn]
              exact dn)
           | (have hc : ¬ ((!decide ((v : Int) = (d : Int)) && live[v] && (!decide (x.op = 25) || !decide ((v : Int) = x.a))) = true) := by
                simp only [Bool.and_eq_true, Bool.or_eq_true, Bool.not_eq_true', decide_eq_false_iff_not]
                rintro ⟨⟨a1, a2⟩, a3⟩
                first | omega | cases a2.symm.trans ‹live[v] = false›
              rw [if_neg hc] at hmn
              refine rd_norm [(1, .box (.fv (fnF ⟨blocks, j⟩))), (3, .own 1 (insO (mrkC x live (v + 1) out1))), (5, .own 1 (insO ins)), (6, iv b), (7, iv k), (8, .box (sF x)), (9, iv (d : Int)), (10, .own 1 (bools live)), (11, iv (v + 1 : Nat))] (sub_of ?_) (m3 - 1) (by omega) ⟨v + 1, by omega, by omega, fun h => by omega, rfl⟩
              rw [hmn]
              exact dn)
         ·have hdv : decide ((v : Int) < (j : Int)) = false := by rw [decide_eq_false_iff_not]; omega
          have hvn : j = v := by omega
          subst hvn
          repeat' first | refine g1 @hdv ?_ | refine d1 @hdv ?_ | refine j1 @hdv (fun hg hgo => ?_) fun hg hgo => ?_ | refine ek_ret ?_ | refine ek_norm ?_ | refine ⟨by omega, ?_⟩ | rfl | trivial | intro _
          all_goals first
           | (exfalso; omega)
           | (refine rd_norm [(1, .box (.fv (fnF ⟨blocks, j⟩))), (3, .own 1 (insO (blkC blocks[b] j ins (k + 1) out0))), (5, .own 1 (insO ins)), (6, iv b), (7, iv (k + 1 : Nat))] (sub_of ?_) (m2 - 1) (by omega) ⟨k + 1, by omega, rfl⟩
              rw [hbn]
              rw [show stpC x live j out1 = mrkC x live j out1 from if_pos hge]
              exact dn)
        ·have hdg : decide (insDefI x ≥ 0) = false := by rw [decide_eq_false_iff_not]; exact hge
         have hv00 := hv0 (by omega)
         subst hv00
         by_cases hlv : 0 < j
         ·have hdv : decide (((0 : Nat) : Int) < (j : Int)) = true := by rw [decide_eq_true_eq]; omega
          rw [show mrkC x live 0 out1 = out1 from rfl]
          repeat' first | refine g2 @hdv @hdg ?_ | refine d2 @hdv @hdg ?_ | refine j2 @hdv @hdg (fun hg hgo => ?_) fun hg hgo => ?_ | refine ek_ret ?_ | refine ek_norm ?_ | refine ⟨by omega, ?_⟩ | rfl | trivial | intro _
          all_goals first
           | (exfalso; omega)
           | (refine rd_norm [(1, .box (.fv (fnF ⟨blocks, j⟩))), (3, .own 1 (insO (blkC blocks[b] j ins (k + 1) out0))), (5, .own 1 (insO ins)), (6, iv b), (7, iv (k + 1 : Nat))] (sub_of ?_) (m2 - 1) (by omega) ⟨k + 1, by omega, rfl⟩
              rw [hbn]
              rw [show stpC x live j out1 = out1 from if_neg hge]
              exact dn)
         ·have hdv : decide (((0 : Nat) : Int) < (j : Int)) = false := by rw [decide_eq_false_iff_not]; omega
          rw [show mrkC x live 0 out1 = out1 from rfl]
          repeat' first | refine g1 @hdv ?_ | refine d1 @hdv ?_ | refine j1 @hdv (fun hg hgo => ?_) fun hg hgo => ?_ | refine ek_ret ?_ | refine ek_norm ?_ | refine ⟨by omega, ?_⟩ | rfl | trivial | intro _
          all_goals first
           | (exfalso; omega)
           | (refine rd_norm [(1, .box (.fv (fnF ⟨blocks, j⟩))), (3, .own 1 (insO (blkC blocks[b] j ins (k + 1) out0))), (5, .own 1 (insO ins)), (6, iv b), (7, iv (k + 1 : Nat))] (sub_of ?_) (m2 - 1) (by omega) ⟨k + 1, by omega, rfl⟩
              rw [hbn]
              rw [show stpC x live j out1 = out1 from if_neg hge]
              exact dn)
      ·have hdk : decide ((k : Int) < (blocks[b].list.length : Int)) = false := by rw [decide_eq_false_iff_not]; omega
       have hkn : k = blocks[b].list.length := by omega
       subst hkn
       rw [← hcn]
       repeat' first | refine g1 @hdk ?_ | refine d1 @hdk ?_ | refine j1 @hdk (fun hg hgo => ?_) fun hg hgo => ?_ | refine ek_ret ?_ | refine ek_norm ?_ | refine ⟨by omega, ?_⟩ | rfl | trivial | intro _
       refine rd_norm [(1, .box (.fv (fnF ⟨blocks, j⟩))), (3, .own 1 (insO (clashN blocks j ins (b + 1)))), (5, .own 1 (insO ins)), (6, iv (b + 1 : Nat))] (sub_of ?_) (m - 1) (by omega) ⟨b + 1, by omega, rfl⟩
       exact dn
    ·have hdb : decide ((b : Int) < (blocks.length : Int)) = false := by rw [decide_eq_false_iff_not]; omega
     have hbn : b = blocks.length := by omega
     subst hbn
     repeat' first | refine g1 @hdb ?_ | refine d1 @hdb ?_ | refine j1 @hdb (fun hg hgo => ?_) fun hg hgo => ?_ | refine ek_ret ?_ | refine ek_norm ?_ | refine ⟨by omega, ?_⟩ | rfl | trivial | intro _
theorem v_Clone_bool (l : List Bool) (hl : l ≠ []) (hn : l.length ≤ 1000) : C2 CC F_slices_Clone_bool [.fv (setF l)] (.own 1 (bools l)) [] := by
 have he : (l.map FV.bool).isEmpty = false := by cases l <;> first | exact absurd rfl hl | rfl
 refine cw (keepF Tryz.f87) Tryz.f87 false ?_
 repeat' first | refine g1 @he ?_ | refine d1 @he ?_ | refine j1 @he (fun hg hgo => ?_) fun hg hgo => ?_ | refine ek_ret ?_ | refine ek_norm ?_ | refine ⟨by omega, ?_⟩ | rfl | trivial | intro _
theorem v_Clone_none : C2 CC F_slices_Clone_bool [.fv (setF [])] (.fv (setF [])) [] := by
 refine cwW (keepF Tryz.f87) Tryz.f87 true ?_
 repeat' first | refine g0 ?_ | refine d0 ?_ | refine j0 (fun hg hgo => ?_) fun hg hgo => ?_ | refine ek_ret ?_ | refine ek_norm ?_ | refine ⟨by omega, ?_⟩ | rfl | trivial | intro _
 ·exact .inr ⟨1, rfl, rfl⟩
 ·exact .inl rfl
theorem v_InsDef (x : StepD) : C2 CC F_impl_InsDef [sF x] (iv (insDefI x)) [] := by
 obtain ⟨op, r, a, b, n⟩ := x
 refine cw (keepF Tryz.f59) Tryz.f59 false ?_
 repeat' first | refine ck_intro (by first | exact v_hasD _) ?_ ?_ | refine g0 ?_ | refine d0 ?_ | refine j0 (fun hg hgo => ?_) fun hg hgo => ?_ | refine ek_ret ?_ | refine ek_norm ?_ | refine ⟨by omega, ?_⟩ | rfl | trivial | intro _
 all_goals first | rfl | (simp_all [beqD, insDefI]; done) | ((try simp only [insDefI]); (repeat' split) <;> first | omega | (simp_all [beqD]; done) | (simp_all [beqD]; omega)) | (simp_all [beqD, insDefI]; (repeat' split) <;> first | rfl | omega | (simp_all; done))
theorem v_TermUses (x : TermD) (h : trmUses x ≠ []) : C2 CC F_impl_TermUses [.fv (termF x)] (.own 1 (ints (trmUses x))) [] := by
 obtain ⟨k, a, to, els⟩ := x
 have hk : k = 2 ∨ k = 3 := by
  by_cases hk : k = 2 ∨ k = 3
  ·exact hk
  ·unfold trmUses at h; simp only at h; rw [if_neg hk] at h; exact absurd rfl h
 have ht : trmUses ⟨k, a, to, els⟩ = [a] := by unfold trmUses; simp only; rw [if_pos hk]
 rw [ht]
 rcases hk with rfl | rfl
 ·refine cw (keepF Tryz.f22) Tryz.f22 false ?_
  repeat' first | refine g0 ?_ | refine d0 ?_ | refine j0 (fun hg hgo => ?_) fun hg hgo => ?_ | refine ek_ret ?_ | refine ek_norm ?_ | refine ⟨by omega, ?_⟩ | rfl | trivial | intro _
 ·refine cw (keepF Tryz.f22) Tryz.f22 false ?_
  repeat' first | refine g0 ?_ | refine d0 ?_ | refine j0 (fun hg hgo => ?_) fun hg hgo => ?_ | refine ek_ret ?_ | refine ek_norm ?_ | refine ⟨by omega, ?_⟩ | rfl | trivial | intro _
theorem v_TermUses_none (x : TermD) (h : trmUses x = []) : C2 CC F_impl_TermUses [.fv (termF x)] (.fv .nil) [] := by
 obtain ⟨k, a, to, els⟩ := x
 have hk : ¬ k = 2 ∧ ¬ k = 3 := by
  by_cases hk : k = 2 ∨ k = 3
  ·unfold trmUses at h; simp only at h; rw [if_pos hk] at h; cases h
  ·exact not_or.1 hk
 have h2 : (k == 2) = false := by simp [hk.1]
 have h3 : (k == 3) = false := by simp [hk.2]
 refine cw (keepF Tryz.f22) Tryz.f22 false ?_
 repeat' first | refine g2 @h2 @h3 ?_ | refine d2 @h2 @h3 ?_ | refine j2 @h2 @h3 (fun hg hgo => ?_) fun hg hgo => ?_ | refine ek_ret ?_ | refine ek_norm ?_ | refine ⟨by omega, ?_⟩ | rfl | trivial | intro _
theorem v_InsUses_impl (x : StepD) : C2 CC F_impl_InsUses [sF x] (.own 1 (ints (usesL x))) [] := by
 have hu : usesL x = (if hasA x.op = true then [x.a] else []) ++ (if hasBb x.op = true then [x.b] else []) := by
  unfold usesL hasA hasBb
  cases wok x.op <;> cases (x.op == 22) <;> cases (x.op == 21) <;> cases (x.op == 23) <;> cases (x.op == 25) <;> rfl
 rw [hu]
 obtain ⟨op, r, a, b, n⟩ := x
 refine cw (keepF Tryz.f103) Tryz.f103 false ?_
 repeat' first | refine ck_intro (by first | exact v_hasA _ | exact v_hasB _) ?_ ?_ | refine g0 ?_ | refine d0 ?_ | refine j0 (fun hg hgo => ?_) fun hg hgo => ?_ | refine ek_ret ?_ | refine ek_norm ?_ | refine ⟨by omega, ?_⟩ | rfl | trivial | intro _
 all_goals (simp_all [ints]; done)
theorem v_succs (f : FnD) (b : Nat) (hb : b < f.blocks.length) (hf : f.blocks.length < 1073741824) (h : succL f.blocks[b].term ≠ []) : C2 CC F_impl_succs [.fv (fnF f), iv b] (.own 1 (ints (succL f.blocks[b].term))) [] := by
 have hml : b < (f.blocks.map blockF).length := by rw [List.length_map]; exact hb
 refine cw (keepF Tryz.f86) Tryz.f86 false ?_
 repeat' first | refine g0 ?_ | refine d0 ?_ | refine j0 (fun hg hgo => ?_) fun hg hgo => ?_ | refine ek_ret ?_ | refine ek_norm ?_ | refine ⟨by omega, ?_⟩ | rfl | trivial | intro _
 all_goals (simp_all [succL, ints]; done)
theorem v_succs_none (f : FnD) (b : Nat) (hb : b < f.blocks.length) (hf : f.blocks.length < 1073741824) (h : succL f.blocks[b].term = []) : C2 CC F_impl_succs [.fv (fnF f), iv b] (.fv .nil) [] := by
 have hml : b < (f.blocks.map blockF).length := by rw [List.length_map]; exact hb
 have hk : ¬ f.blocks[b].term.kind = 1 ∧ ¬ f.blocks[b].term.kind = 2 := by
  unfold succL at h
  by_cases h1 : f.blocks[b].term.kind = 1
  ·rw [if_pos h1] at h; cases h
  ·by_cases h2 : f.blocks[b].term.kind = 2
   ·rw [if_neg h1, if_pos h2] at h; split at h <;> cases h
   ·exact ⟨h1, h2⟩
 have h2 : (f.blocks[b].term.kind == 1) = false := by simp [hk.1]
 have h3 : (f.blocks[b].term.kind == 2) = false := by simp [hk.2]
 refine cw (keepF Tryz.f86) Tryz.f86 false ?_
 repeat' first | refine g2 @h2 @h3 ?_ | refine d2 @h2 @h3 ?_ | refine j2 @h2 @h3 (fun hg hgo => ?_) fun hg hgo => ?_ | refine ek_ret ?_ | refine ek_norm ?_ | refine ⟨by omega, ?_⟩ | rfl | trivial | intro _
theorem v_without (live : List Bool) (x : StepD) (hx : inU x live.length) (hl : live.length ≤ 1000) (hne : live ≠ []) : C2 CC F_impl_without [.fv (setF live), sF x] (.own 1 (bools (backB x live))) [] := by
 have h1 := v_InsDef x
 have h2 := v_InsUses_impl x
 have h3 := v_Clone_bool live hne hl
 unfold backB
 have hu := hx.2
 have hul : (usesL x).length ≤ 2 := by unfold usesL; split; simp; split <;> simp
 generalize usesL x = us at h2 hu hul
 cases hm : makesB x.op with
 | true =>
  obtain ⟨a1, a2⟩ := hx.1 hm
  have hd : insDefI x = x.r := by unfold insDefI; rw [if_pos hm]
  have hge : decide (x.r ≥ 0) = true := by rw [decide_eq_true_eq]; omega
  rw [hd, if_pos (by omega)]
  rw [hd] at h1
  have hlt : x.r.toNat < live.length := by omega
  have hg := bools_get hlt
  have hxr : 0 ≤ x.r ∧ x.r < (live.length : Int) := ⟨a1, a2⟩
  refine cw (keepF Tryz.f88) Tryz.f88 false ?_
  repeat' first | refine ck_intro (by first | exact h1 | exact h2 | exact h3) ?_ ?_ | refine g4 @hge @hg @hxr @bools_set ?_ | refine d4 @hge @hg @hxr @bools_set ?_ | refine j4 @hge @hg @hxr @bools_set (fun hg hgo => ?_) fun hg hgo => ?_ | refine ek_ret ?_ | refine ek_norm ?_ | refine ⟨by omega, ?_⟩ | rfl | trivial | intro _
  generalize ho : live.set x.r.toNat false = o
  have hol : o.length = live.length := by rw [← ho]; simp
  refine pw_loop (fun m st => ∃ j : Nat, j + m = us.length ∧ st = [(5, .own 1 (bools ((us.take j).foldl (fun o u => o.set u.toNat true) o))), (19, .own 1 (ints us)), (20, iv us.length), (21, iv j)]) us.length [(5, .own 1 (bools ((us.take 0).foldl (fun o u => o.set u.toNat true) o))), (19, .own 1 (ints us)), (20, iv us.length), (21, iv (0 : Nat))] (sub_of ?_) ⟨0, by omega, rfl⟩ ?_
  ·rw [List.take_zero, List.foldl_nil]
   repeat' first | refine g1 @ho ?_ | refine d1 @ho ?_ | refine j1 @ho (fun hg hgo => ?_) fun hg hgo => ?_ | refine ek_ret ?_ | refine ek_norm ?_ | refine ⟨by omega, ?_⟩ | rfl | trivial | intro _
  ·rintro m st ⟨j, hj, rfl⟩
   by_cases hlt : j < us.length
   ·have hd : decide ((j : Int) < (us.length : Int)) = true := by rw [decide_eq_true_eq]; omega
    have hgi := ints_get hlt
    have hul2 := hu us[j] (List.getElem_mem hlt)
    have hrow : ((us.take j).foldl (fun o u => o.set u.toNat true) o).length = live.length := by rw [foldset_len, hol]
    have hft := fold_take (o := o) hlt
    generalize (us.take j).foldl (fun o u => o.set u.toNat true) o = q at hrow hft
    have hltq : us[j].toNat < q.length := by omega
    have hgq := bools_get hltq
    have hb : 0 ≤ us[j] ∧ us[j] < (q.length : Int) := ⟨by omega, by omega⟩
    repeat' first | refine g5 @hd @hgi @hgq @hb @bools_set ?_ | refine d5 @hd @hgi @hgq @hb @bools_set ?_ | refine j5 @hd @hgi @hgq @hb @bools_set (fun hg hgo => ?_) fun hg hgo => ?_ | refine ek_ret ?_ | refine ek_norm ?_ | refine ⟨by omega, ?_⟩ | rfl | trivial | intro _
    refine rd_norm [(5, .own 1 (bools ((us.take (j + 1)).foldl (fun o u => o.set u.toNat true) o))), (19, .own 1 (ints us)), (20, iv us.length), (21, iv (j + 1 : Nat))] (sub_of ?_) (m - 1) (by omega) ⟨j + 1, by omega, rfl⟩
    rw [hft]
    exact dn
   ·have hd : decide ((j : Int) < (us.length : Int)) = false := by rw [decide_eq_false_iff_not]; omega
    rw [List.take_of_length_le (by omega)]
    repeat' first | refine g1 @hd ?_ | refine d1 @hd ?_ | refine j1 @hd (fun hg hgo => ?_) fun hg hgo => ?_ | refine ek_ret ?_ | refine ek_norm ?_ | refine ⟨by omega, ?_⟩ | rfl | trivial | intro _
 | false =>
  have hd : insDefI x = -1 := by unfold insDefI; rw [if_neg (by rw [hm]; simp)]
  rw [hd, if_neg (by omega)]
  rw [hd] at h1
  refine cw (keepF Tryz.f88) Tryz.f88 false ?_
  repeat' first | refine ck_intro (by first | exact h1 | exact h2 | exact h3) ?_ ?_ | refine g0 ?_ | refine d0 ?_ | refine j0 (fun hg hgo => ?_) fun hg hgo => ?_ | refine ek_ret ?_ | refine ek_norm ?_ | refine ⟨by omega, ?_⟩ | rfl | trivial | intro _
  generalize ho : live = o
  have hol : o.length = live.length := by rw [← ho]
  refine pw_loop (fun m st => ∃ j : Nat, j + m = us.length ∧ st = [(5, .own 1 (bools ((us.take j).foldl (fun o u => o.set u.toNat true) o))), (19, .own 1 (ints us)), (20, iv us.length), (21, iv j)]) us.length [(5, .own 1 (bools ((us.take 0).foldl (fun o u => o.set u.toNat true) o))), (19, .own 1 (ints us)), (20, iv us.length), (21, iv (0 : Nat))] (sub_of ?_) ⟨0, by omega, rfl⟩ ?_
  ·rw [List.take_zero, List.foldl_nil]
   repeat' first | refine g1 @ho ?_ | refine d1 @ho ?_ | refine j1 @ho (fun hg hgo => ?_) fun hg hgo => ?_ | refine ek_ret ?_ | refine ek_norm ?_ | refine ⟨by omega, ?_⟩ | rfl | trivial | intro _
  ·rintro m st ⟨j, hj, rfl⟩
   by_cases hlt : j < us.length
   ·have hd : decide ((j : Int) < (us.length : Int)) = true := by rw [decide_eq_true_eq]; omega
    have hgi := ints_get hlt
    have hul2 := hu us[j] (List.getElem_mem hlt)
    have hrow : ((us.take j).foldl (fun o u => o.set u.toNat true) o).length = live.length := by rw [foldset_len, hol]
    have hft := fold_take (o := o) hlt
    generalize (us.take j).foldl (fun o u => o.set u.toNat true) o = q at hrow hft
    have hltq : us[j].toNat < q.length := by omega
    have hgq := bools_get hltq
    have hb : 0 ≤ us[j] ∧ us[j] < (q.length : Int) := ⟨by omega, by omega⟩
    repeat' first | refine g5 @hd @hgi @hgq @hb @bools_set ?_ | refine d5 @hd @hgi @hgq @hb @bools_set ?_ | refine j5 @hd @hgi @hgq @hb @bools_set (fun hg hgo => ?_) fun hg hgo => ?_ | refine ek_ret ?_ | refine ek_norm ?_ | refine ⟨by omega, ?_⟩ | rfl | trivial | intro _
    refine rd_norm [(5, .own 1 (bools ((us.take (j + 1)).foldl (fun o u => o.set u.toNat true) o))), (19, .own 1 (ints us)), (20, iv us.length), (21, iv (j + 1 : Nat))] (sub_of ?_) (m - 1) (by omega) ⟨j + 1, by omega, rfl⟩
    rw [hft]
    exact dn
   ·have hd : decide ((j : Int) < (us.length : Int)) = false := by rw [decide_eq_false_iff_not]; omega
    rw [List.take_of_length_le (by omega)]
    repeat' first | refine g1 @hd ?_ | refine d1 @hd ?_ | refine j1 @hd (fun hg hgo => ?_) fun hg hgo => ?_ | refine ek_ret ?_ | refine ek_norm ?_ | refine ⟨by omega, ?_⟩ | rfl | trivial | intro _
theorem v_without_none (x : StepD) (hx : inU x 0) : C2 CC F_impl_without [.fv (setF []), sF x] (.fv (setF [])) [] := by
 have h1 := v_InsDef x
 have h2 := v_InsUses_impl x
 have h3 := v_Clone_none
 have hu : usesL x = [] := by
  cases h : usesL x with
  | nil => rfl
  | cons u us => have := hx.2 u (by rw [h]; simp); omega
 have hm : makesB x.op = false := by
  cases h : makesB x.op with
  | false => rfl
  | true => have := hx.1 h; omega
 have hd : insDefI x = -1 := by unfold insDefI; rw [if_neg (by rw [hm]; simp)]
 rw [hd] at h1
 rw [hu] at h2
 refine cw (keepF Tryz.f88) Tryz.f88 false ?_
 repeat' first | refine ck_intro (by first | exact h1 | exact h2 | exact h3) ?_ ?_ | refine pw_unroll ?_ | refine g1 @ints0 ?_ | refine d1 @ints0 ?_ | refine j1 @ints0 (fun hg hgo => ?_) fun hg hgo => ?_ | refine ek_ret ?_ | refine ek_norm ?_ | refine ⟨by omega, ?_⟩ | rfl | trivial | intro _
theorem v_atEnd (f : FnD) (V b : Nat) (ins : List (List Bool)) (hV : f.values = (V : Int)) (hb : b < f.blocks.length) (hf : f.blocks.length ≤ 1000) (hi : InsOk V f.blocks.length ins) (hs : ∀ k ∈ succL f.blocks[b].term, 0 ≤ k ∧ k < f.blocks.length) : C2 CC F_impl_atEnd [.fv (fnF f), iv b, .fv (insF ins)] (.own 1 (bools (outB f.blocks[b].term V ins))) [] := by
 have h1 := v_succs f b hb (by omega)
 have h1n := v_succs_none f b hb (by omega)
 obtain ⟨blocks, values⟩ := f
 simp only at hV hb hf hi hs h1 h1n
 subst hV
 obtain ⟨il, ir, iv1, in1⟩ := hi
 have hkl : (succL blocks[b].term).length ≤ 2 := by unfold succL; split; simp; split; split <;> simp; simp
 unfold outB
 generalize succL blocks[b].term = ks at h1 h1n hs hkl
 have hmk : 0 ≤ (V : Int) ∧ (V : Int) < 4294967296 := ⟨by omega, by omega⟩
 cases hks : ks with
 | nil =>
  have h2 := h1n hks
  refine cw (keepF Tryz.f58) Tryz.f58 false ?_
  repeat' first | refine ck_intro (by first | exact h2) ?_ ?_ | refine pw_unroll ?_ | refine g2 @hmk @bools_rep ?_ | refine d2 @hmk @bools_rep ?_ | refine j2 @hmk @bools_rep (fun hg hgo => ?_) fun hg hgo => ?_ | refine ek_ret ?_ | refine ek_norm ?_ | refine ⟨by omega, ?_⟩ | rfl | trivial | intro _
 | cons k0 ks0 =>
  rw [← hks]
  have h2 := h1 (by rw [hks]; simp)
  refine cw (keepF Tryz.f58) Tryz.f58 false ?_
  repeat' first | refine ck_intro (by first | exact h2) ?_ ?_ | refine g1 @hmk ?_ | refine d1 @hmk ?_ | refine j1 @hmk (fun hg hgo => ?_) fun hg hgo => ?_ | refine ek_ret ?_ | refine ek_norm ?_ | refine ⟨by omega, ?_⟩ | rfl | trivial | intro _
  generalize hg0 : List.replicate V false = o0
  have hl0 : o0.length = V := by rw [← hg0]; simp
  refine pw_loop (fun m st => ∃ j : Nat, j + m = ks.length ∧ st = [(2, .fv (insF ins)), (7, .own 1 (bools ((ks.take j).foldl (fun o k => orB o ((ins[k.toNat]?).getD [])) o0))), (17, .own 1 (ints ks)), (18, iv ks.length), (19, iv j)]) ks.length [(2, .fv (insF ins)), (7, .own 1 (bools ((ks.take 0).foldl (fun o k => orB o ((ins[k.toNat]?).getD [])) o0))), (17, .own 1 (ints ks)), (18, iv ks.length), (19, iv (0 : Nat))] (sub_of ?_) ⟨0, by omega, rfl⟩ ?_
  ·rw [List.take_zero, List.foldl_nil]
   repeat' first | refine g2 @bools_rep @hg0 ?_ | refine d2 @bools_rep @hg0 ?_ | refine j2 @bools_rep @hg0 (fun hg hgo => ?_) fun hg hgo => ?_ | refine ek_ret ?_ | refine ek_norm ?_ | refine ⟨by omega, ?_⟩ | rfl | trivial | intro _
  ·rintro m st ⟨j, hj, rfl⟩
   by_cases hlt : j < ks.length
   ·have hd : decide ((j : Int) < (ks.length : Int)) = true := by rw [decide_eq_true_eq]; omega
    have hgi := ints_get hlt
    have hk := hs ks[j] (List.getElem_mem hlt)
    have hki : ks[j].toNat < ins.length := by omega
    have hft : (ks.take (j + 1)).foldl (fun o k => orB o ((ins[k.toNat]?).getD [])) o0 = orB ((ks.take j).foldl (fun o k => orB o ((ins[k.toNat]?).getD [])) o0) ins[ks[j].toNat] := by
     rw [List.take_succ_eq_append_getElem hlt, List.foldl_append, List.foldl_cons, List.foldl_nil, List.getElem?_eq_getElem hki, Option.getD_some]
    have hol := fold_or_len ir (ks.take j) o0 hl0 (fun k hk2 => by have := hs k (List.mem_of_mem_take hk2); omega)
    generalize (ks.take j).foldl (fun o k => orB o ((ins[k.toNat]?).getD [])) o0 = o at hft hol
    have hsl := ir _ (List.getElem_mem hki)
    generalize hsd : ins[ks[j].toNat] = s at hft hsl
    have hos : o.length = s.length := by omega
    have hmi : ks[j].toNat < (ins.map setF).length := by rw [List.length_map]; exact hki
    have hkk : 0 ≤ ks[j] ∧ ks[j] < (ins.length : Int) := ⟨by omega, by omega⟩
    repeat' first | refine g4 @hd @hgi @hkk @hsd ?_ | refine d4 @hd @hgi @hkk @hsd ?_ | refine j4 @hd @hgi @hkk @hsd (fun hg hgo => ?_) fun hg hgo => ?_ | refine ek_ret ?_ | refine ek_norm ?_ | refine ⟨by omega, ?_⟩ | rfl | trivial | intro _
    refine pw_loop (fun m st => ∃ v : Nat, v + m = V ∧ st = [(2, .fv (insF ins)), (7, .own 1 (bools (orC o s v))), (17, .own 1 (ints ks)), (18, iv ks.length), (19, iv j), (26, .fv (setF s)), (27, iv s.length), (28, iv v)]) V [(2, .fv (insF ins)), (7, .own 1 (bools (orC o s 0))), (17, .own 1 (ints ks)), (18, iv ks.length), (19, iv j), (26, .fv (setF s)), (27, iv s.length), (28, iv (0 : Nat))] (sub_of ?_) ⟨0, by omega, rfl⟩ ?_
    ·rw [orC_0]
     exact dn
    ·rintro m2 st ⟨v, hv, rfl⟩
     by_cases hlv : v < V
     ·have hdv : decide ((v : Int) < (s.length : Int)) = true := by rw [decide_eq_true_eq]; omega
      have hvo : v < o.length := by omega
      have hvs : v < s.length := by omega
      have hcl := orC_len hos (v := v) (by omega)
      have hcv : v < (orC o s v).length := by omega
      have hgq := bools_get hcv
      rw [orC_get hos hvo hcv] at hgq
      have hst := orC_set hos hvo hvs
      generalize orC o s v = q at hcl hcv hgq hst
      have hms : v < (s.map FV.bool).length := by rw [List.length_map]; exact hvs
      repeat' first | refine g3 @hdv @hgq @bools_set ?_ | refine d3 @hdv @hgq @bools_set ?_ | refine j3 @hdv @hgq @bools_set (fun hg hgo => ?_) fun hg hgo => ?_ | refine ek_ret ?_ | refine ek_norm ?_ | refine ⟨by omega, ?_⟩ | rfl | trivial | intro _
      ·have e : (o[v] || s[v]) = true := by rw [hgo]; rfl
       rw [e] at hst
       refine rd_norm [(2, .fv (insF ins)), (7, .own 1 (bools (orC o s (v + 1)))), (17, .own 1 (ints ks)), (18, iv ks.length), (19, iv j), (26, .fv (setF s)), (27, iv s.length), (28, iv (v + 1 : Nat))] (sub_of ?_) (m2 - 1) (by omega) ⟨v + 1, by omega, rfl⟩
       rw [← hst]
       exact dn
      ·have e : (o[v] || s[v]) = s[v] := by rw [hgo]; rfl
       rw [e] at hst
       refine rd_norm [(2, .fv (insF ins)), (7, .own 1 (bools (orC o s (v + 1)))), (17, .own 1 (ints ks)), (18, iv ks.length), (19, iv j), (26, .fv (setF s)), (27, iv s.length), (28, iv (v + 1 : Nat))] (sub_of ?_) (m2 - 1) (by omega) ⟨v + 1, by omega, rfl⟩
       rw [← hst]
       exact dn
     ·have hdv : decide ((v : Int) < (s.length : Int)) = false := by rw [decide_eq_false_iff_not]; omega
      rw [orC_n hos (by omega)]
      repeat' first | refine g1 @hdv ?_ | refine d1 @hdv ?_ | refine j1 @hdv (fun hg hgo => ?_) fun hg hgo => ?_ | refine ek_ret ?_ | refine ek_norm ?_ | refine ⟨by omega, ?_⟩ | rfl | trivial | intro _
      refine rd_norm [(2, .fv (insF ins)), (7, .own 1 (bools ((ks.take (j + 1)).foldl (fun o k => orB o ((ins[k.toNat]?).getD [])) o0))), (17, .own 1 (ints ks)), (18, iv ks.length), (19, iv (j + 1 : Nat))] (sub_of ?_) (m - 1) (by omega) ⟨j + 1, by omega, rfl⟩
      rw [hft]
      exact dn
   ·have hd : decide ((j : Int) < (ks.length : Int)) = false := by rw [decide_eq_false_iff_not]; omega
    rw [List.take_of_length_le (by omega)]
    repeat' first | refine g1 @hd ?_ | refine d1 @hd ?_ | refine j1 @hd (fun hg hgo => ?_) fun hg hgo => ?_ | refine ek_ret ?_ | refine ek_norm ?_ | refine ⟨by omega, ?_⟩ | rfl | trivial | intro _
def backE (b : BlockD) (i : Nat) (e : List Bool) : List Bool := (b.list.drop i).foldr backB ((trmUses b.term).foldl (fun o u => o.set u.toNat true) e)
theorem v_back (f : FnD) (V b i : Nat) (e0 : List Bool) (hV : f.values = (V : Int)) (hb : b < f.blocks.length) (hf : f.blocks.length ≤ 1000) (hV1 : 0 < V) (hV2 : V ≤ 1000) (he0 : e0.length = V) (hk : BlkIn f.blocks[b] V f.blocks.length) (hi : i ≤ f.blocks[b].list.length) : C2 CC F_impl_back [.fv (fnF f), iv b, iv i, .fv (setF e0)] (.own 1 (bools (backE f.blocks[b] i e0))) [] := by
 have h1 := v_TermUses f.blocks[b].term
 have h1n := v_TermUses_none f.blocks[b].term
 have h2 := v_Clone_bool e0 (fun h => by rw [h] at he0; simp at he0; omega) (by omega)
 obtain ⟨blocks, values⟩ := f
 simp only at hV hb hf hk h1 h1n hi
 subst hV
 have hml : b < (blocks.map blockF).length := by rw [List.length_map]; exact hb
 have hu := hk.uses
 have hul : (trmUses blocks[b].term).length ≤ 2 := by unfold trmUses; split <;> simp
 have hln := hk.len
 unfold backE
 generalize trmUses blocks[b].term = us at h1 h1n hu hul
 cases hus : us with
 | nil =>
  have h3 := h1n hus
  rw [List.foldl_nil]
  obtain ⟨e, hee⟩ : ∃ e, e0 = e := ⟨_, rfl⟩
  rw [hee] at h2 ⊢
  have hel : e.length = V := by rw [← hee, he0]
  refine cw (keepF Tryz.f60) Tryz.f60 false ?_
  repeat' first | refine ck_intro (by first | exact h2 | exact h3) ?_ ?_ | refine g0 ?_ | refine d0 ?_ | refine j0 (fun hg hgo => ?_) fun hg hgo => ?_ | refine ek_ret ?_ | refine ek_norm ?_ | refine ⟨by omega, ?_⟩ | rfl | trivial | intro _
  refine pw_unroll ?_
  repeat' first | refine g0 ?_ | refine d0 ?_ | refine j0 (fun hg hgo => ?_) fun hg hgo => ?_ | refine ek_ret ?_ | refine ek_norm ?_ | refine ⟨by omega, ?_⟩ | rfl | trivial | intro _
  refine pw_loop (fun m st => i + m ≤ blocks[b].list.length ∧ st = [(2, iv i), (9, .own 1 (bools ((blocks[b].list.drop (i + m)).foldr backB e))), (12, .fv (.row 5 (blocks[b].list.map stF))), (13, iv ((i : Int) + (m : Int) - 1))]) (blocks[b].list.length - i) [(2, iv i), (9, .own 1 (bools ((blocks[b].list.drop (i + (blocks[b].list.length - i))).foldr backB e))), (12, .fv (.row 5 (blocks[b].list.map stF))), (13, iv ((i : Int) + ((blocks[b].list.length - i : Nat) : Int) - 1))] (sub_of ?_) ⟨by omega, rfl⟩ ?_
  ·rw [show i + (blocks[b].list.length - i) = blocks[b].list.length by omega, List.drop_length, List.foldr_nil, show (i : Int) + ((blocks[b].list.length - i : Nat) : Int) - 1 = (blocks[b].list.length : Int) - 1 by omega]
   repeat' first | refine g1 @hee ?_ | refine d1 @hee ?_ | refine j1 @hee (fun hg hgo => ?_) fun hg hgo => ?_ | refine ek_ret ?_ | refine ek_norm ?_ | refine ⟨by omega, ?_⟩ | rfl | trivial | intro _
  ·rintro m st ⟨hm, rfl⟩
   cases m with
   | succ m =>
    have hlt : i + m < blocks[b].list.length := by omega
    have hidx : (i : Int) + ((m + 1 : Nat) : Int) - 1 = ((i + m : Nat) : Int) := by omega
    have hms : i + m < (blocks[b].list.map stF).length := by rw [List.length_map]; exact hlt
    have hq : ((blocks[b].list.drop (i + (m + 1))).foldr backB e).length = V := by rw [foldr_back_len, hel]
    have hqn : (blocks[b].list.drop (i + (m + 1))).foldr backB e ≠ [] := fun h => by rw [h] at hq; simp at hq; omega
    have hbk := v_without ((blocks[b].list.drop (i + (m + 1))).foldr backB e) blocks[b].list[i + m] (by rw [hq]; exact hk.list _ (List.getElem_mem hlt)) (by omega) hqn
    have hdr : (blocks[b].list.drop (i + m)).foldr backB e = backB blocks[b].list[i + m] ((blocks[b].list.drop (i + (m + 1))).foldr backB e) := by
     rw [List.drop_eq_getElem_cons hlt, List.foldr_cons]; rfl
    generalize (blocks[b].list.drop (i + (m + 1))).foldr backB e = q at hq hbk hdr
    rw [hidx]
    have hge : decide (((i + m : Nat) : Int) ≥ (i : Int)) = true := by rw [decide_eq_true_eq]; omega
    repeat' first | refine ck_intro (by first | exact hbk) ?_ ?_ | refine g1 @hge ?_ | refine d1 @hge ?_ | refine j1 @hge (fun hg hgo => ?_) fun hg hgo => ?_ | refine ek_ret ?_ | refine ek_norm ?_ | refine ⟨by omega, ?_⟩ | rfl | trivial | intro _
    refine rd_norm [(2, iv i), (9, .own 1 (bools ((blocks[b].list.drop (i + m)).foldr backB e))), (12, .fv (.row 5 (blocks[b].list.map stF))), (13, iv ((i : Int) + (m : Int) - 1))] (sub_of ?_) m (by omega) ⟨by omega, rfl⟩
    rw [hdr, show (i : Int) + (m : Int) - 1 = ((i + m : Nat) : Int) - 1 by omega]
    exact dn
   | zero =>
    have hd : decide ((i : Int) + 0 - 1 ≥ (i : Int)) = false := by rw [decide_eq_false_iff_not]; omega
    repeat' first | refine g1 @hd ?_ | refine d1 @hd ?_ | refine j1 @hd (fun hg hgo => ?_) fun hg hgo => ?_ | refine ek_ret ?_ | refine ek_norm ?_ | refine ⟨by omega, ?_⟩ | rfl | trivial | intro _
 | cons u0 us0 =>
  rw [← hus]
  have h3 := h1 (by rw [hus]; simp)
  refine cw (keepF Tryz.f60) Tryz.f60 false ?_
  repeat' first | refine ck_intro (by first | exact h2 | exact h3) ?_ ?_ | refine g0 ?_ | refine d0 ?_ | refine j0 (fun hg hgo => ?_) fun hg hgo => ?_ | refine ek_ret ?_ | refine ek_norm ?_ | refine ⟨by omega, ?_⟩ | rfl | trivial | intro _
  refine pw_loop (fun m st => ∃ j : Nat, j + m = us.length ∧ st = [(1, iv b), (2, iv i), (4, .box (.fv (fnF ⟨blocks, V⟩))), (9, .own 1 (bools ((us.take j).foldl (fun o u => o.set u.toNat true) e0))), (22, .own 1 (ints us)), (23, iv us.length), (24, iv j)]) us.length [(1, iv b), (2, iv i), (4, .box (.fv (fnF ⟨blocks, V⟩))), (9, .own 1 (bools ((us.take 0).foldl (fun o u => o.set u.toNat true) e0))), (22, .own 1 (ints us)), (23, iv us.length), (24, iv (0 : Nat))] (sub_of ?_) ⟨0, by omega, rfl⟩ ?_
  ·rw [List.take_zero, List.foldl_nil]
   exact dn
  ·rintro m st ⟨j, hj, rfl⟩
   by_cases hlt : j < us.length
   ·have hd : decide ((j : Int) < (us.length : Int)) = true := by rw [decide_eq_true_eq]; omega
    have hgi := ints_get hlt
    have hul2 := hu us[j] (List.getElem_mem hlt)
    have hrow : ((us.take j).foldl (fun o u => o.set u.toNat true) e0).length = V := by rw [foldset_len, he0]
    have hft := fold_take (o := e0) hlt
    generalize (us.take j).foldl (fun o u => o.set u.toNat true) e0 = q at hrow hft
    have hltq : us[j].toNat < q.length := by omega
    have hgq := bools_get hltq
    have hb2 : 0 ≤ us[j] ∧ us[j] < (q.length : Int) := ⟨by omega, by omega⟩
    repeat' first | refine g5 @hd @hgi @hgq @hb2 @bools_set ?_ | refine d5 @hd @hgi @hgq @hb2 @bools_set ?_ | refine j5 @hd @hgi @hgq @hb2 @bools_set (fun hg hgo => ?_) fun hg hgo => ?_ | refine ek_ret ?_ | refine ek_norm ?_ | refine ⟨by omega, ?_⟩ | rfl | trivial | intro _
    refine rd_norm [(1, iv b), (2, iv i), (4, .box (.fv (fnF ⟨blocks, V⟩))), (9, .own 1 (bools ((us.take (j + 1)).foldl (fun o u => o.set u.toNat true) e0))), (22, .own 1 (ints us)), (23, iv us.length), (24, iv (j + 1 : Nat))] (sub_of ?_) (m - 1) (by omega) ⟨j + 1, by omega, rfl⟩
    rw [hft]
    exact dn
   ·have hd : decide ((j : Int) < (us.length : Int)) = false := by rw [decide_eq_false_iff_not]; omega
    rw [List.take_of_length_le (by omega)]
    generalize hee : us.foldl (fun o u => o.set u.toNat true) e0 = e
    have hel : e.length = V := by rw [← hee, foldset_len, he0]
    repeat' first | refine g1 @hd ?_ | refine d1 @hd ?_ | refine j1 @hd (fun hg hgo => ?_) fun hg hgo => ?_ | refine ek_ret ?_ | refine ek_norm ?_ | refine ⟨by omega, ?_⟩ | rfl | trivial | intro _
    refine pw_loop (fun m st => i + m ≤ blocks[b].list.length ∧ st = [(2, iv i), (9, .own 1 (bools ((blocks[b].list.drop (i + m)).foldr backB e))), (12, .fv (.row 5 (blocks[b].list.map stF))), (13, iv ((i : Int) + (m : Int) - 1))]) (blocks[b].list.length - i) [(2, iv i), (9, .own 1 (bools ((blocks[b].list.drop (i + (blocks[b].list.length - i))).foldr backB e))), (12, .fv (.row 5 (blocks[b].list.map stF))), (13, iv ((i : Int) + ((blocks[b].list.length - i : Nat) : Int) - 1))] (sub_of ?_) ⟨by omega, rfl⟩ ?_
    ·rw [show i + (blocks[b].list.length - i) = blocks[b].list.length by omega, List.drop_length, List.foldr_nil, show (i : Int) + ((blocks[b].list.length - i : Nat) : Int) - 1 = (blocks[b].list.length : Int) - 1 by omega]
     repeat' first | refine g1 @hee ?_ | refine d1 @hee ?_ | refine j1 @hee (fun hg hgo => ?_) fun hg hgo => ?_ | refine ek_ret ?_ | refine ek_norm ?_ | refine ⟨by omega, ?_⟩ | rfl | trivial | intro _
    ·rintro m st ⟨hm, rfl⟩
     cases m with
     | succ m =>
      have hlt : i + m < blocks[b].list.length := by omega
      have hidx : (i : Int) + ((m + 1 : Nat) : Int) - 1 = ((i + m : Nat) : Int) := by omega
      have hms : i + m < (blocks[b].list.map stF).length := by rw [List.length_map]; exact hlt
      have hq : ((blocks[b].list.drop (i + (m + 1))).foldr backB e).length = V := by rw [foldr_back_len, hel]
      have hqn : (blocks[b].list.drop (i + (m + 1))).foldr backB e ≠ [] := fun h => by rw [h] at hq; simp at hq; omega
      have hbk := v_without ((blocks[b].list.drop (i + (m + 1))).foldr backB e) blocks[b].list[i + m] (by rw [hq]; exact hk.list _ (List.getElem_mem hlt)) (by omega) hqn
      have hdr : (blocks[b].list.drop (i + m)).foldr backB e = backB blocks[b].list[i + m] ((blocks[b].list.drop (i + (m + 1))).foldr backB e) := by
       rw [List.drop_eq_getElem_cons hlt, List.foldr_cons]; rfl
      generalize (blocks[b].list.drop (i + (m + 1))).foldr backB e = q at hq hbk hdr
      rw [hidx]
      have hge : decide (((i + m : Nat) : Int) ≥ (i : Int)) = true := by rw [decide_eq_true_eq]; omega
      repeat' first | refine ck_intro (by first | exact hbk) ?_ ?_ | refine g1 @hge ?_ | refine d1 @hge ?_ | refine j1 @hge (fun hg hgo => ?_) fun hg hgo => ?_ | refine ek_ret ?_ | refine ek_norm ?_ | refine ⟨by omega, ?_⟩ | rfl | trivial | intro _
      refine rd_norm [(2, iv i), (9, .own 1 (bools ((blocks[b].list.drop (i + m)).foldr backB e))), (12, .fv (.row 5 (blocks[b].list.map stF))), (13, iv ((i : Int) + (m : Int) - 1))] (sub_of ?_) m (by omega) ⟨by omega, rfl⟩
      rw [hdr, show (i : Int) + (m : Int) - 1 = ((i + m : Nat) : Int) - 1 by omega]
      exact dn
     | zero =>
      have hd : decide ((i : Int) + 0 - 1 ≥ (i : Int)) = false := by rw [decide_eq_false_iff_not]; omega
      repeat' first | refine g1 @hd ?_ | refine d1 @hd ?_ | refine j1 @hd (fun hg hgo => ?_) fun hg hgo => ?_ | refine ek_ret ?_ | refine ek_norm ?_ | refine ⟨by omega, ?_⟩ | rfl | trivial | intro _
theorem v_back_none (f : FnD) (b i : Nat) (hV : f.values = 0) (hb : b < f.blocks.length) (hf : f.blocks.length ≤ 1000) (hk : BlkIn f.blocks[b] 0 f.blocks.length) (hi : i ≤ f.blocks[b].list.length) : C2 CC F_impl_back [.fv (fnF f), iv b, iv i, .fv (setF [])] (.fv (setF [])) [] := by
 have h1n := v_TermUses_none f.blocks[b].term (by
  cases h : trmUses f.blocks[b].term with
  | nil => rfl
  | cons u us => have := hk.uses u (by rw [h]; simp); omega)
 have h2 := v_Clone_none
 obtain ⟨blocks, values⟩ := f
 simp only at hV hb hf hk h1n hi
 subst hV
 have hml : b < (blocks.map blockF).length := by rw [List.length_map]; exact hb
 have hln := hk.len
 refine cw (keepF Tryz.f60) Tryz.f60 false ?_
 repeat' first | refine ck_intro (by first | exact h2 | exact h1n) ?_ ?_ | refine g0 ?_ | refine d0 ?_ | refine j0 (fun hg hgo => ?_) fun hg hgo => ?_ | refine ek_ret ?_ | refine ek_norm ?_ | refine ⟨by omega, ?_⟩ | rfl | trivial | intro _
 refine pw_unroll ?_
 repeat' first | refine g0 ?_ | refine d0 ?_ | refine j0 (fun hg hgo => ?_) fun hg hgo => ?_ | refine ek_ret ?_ | refine ek_norm ?_ | refine ⟨by omega, ?_⟩ | rfl | trivial | intro _
 refine pw_loop (fun m st => i + m ≤ blocks[b].list.length ∧ st = [(2, iv i), (9, .fv (setF [])), (12, .fv (.row 5 (blocks[b].list.map stF))), (13, iv ((i : Int) + (m : Int) - 1))]) (blocks[b].list.length - i) [(2, iv i), (9, .fv (setF [])), (12, .fv (.row 5 (blocks[b].list.map stF))), (13, iv ((i : Int) + ((blocks[b].list.length - i : Nat) : Int) - 1))] (sub_of ?_) ⟨by omega, rfl⟩ ?_
 ·rw [show (i : Int) + ((blocks[b].list.length - i : Nat) : Int) - 1 = (blocks[b].list.length : Int) - 1 by omega]
  exact dn
 ·rintro m st ⟨hm, rfl⟩
  cases m with
  | succ m =>
   have hlt : i + m < blocks[b].list.length := by omega
   have hidx : (i : Int) + ((m + 1 : Nat) : Int) - 1 = ((i + m : Nat) : Int) := by omega
   have hms : i + m < (blocks[b].list.map stF).length := by rw [List.length_map]; exact hlt
   have hbk := v_without_none blocks[b].list[i + m] (hk.list _ (List.getElem_mem hlt))
   rw [hidx]
   have hge : decide (((i + m : Nat) : Int) ≥ (i : Int)) = true := by rw [decide_eq_true_eq]; omega
   repeat' first | refine ck_intro (by first | exact hbk) ?_ ?_ | refine g1 @hge ?_ | refine d1 @hge ?_ | refine j1 @hge (fun hg hgo => ?_) fun hg hgo => ?_ | refine ek_ret ?_ | refine ek_norm ?_ | refine ⟨by omega, ?_⟩ | rfl | trivial | intro _
   refine rd_norm [(2, iv i), (9, .fv (setF [])), (12, .fv (.row 5 (blocks[b].list.map stF))), (13, iv ((i : Int) + (m : Int) - 1))] (sub_of ?_) m (by omega) ⟨by omega, rfl⟩
   rw [show (i : Int) + (m : Int) - 1 = ((i + m : Nat) : Int) - 1 by omega]
   exact dn
  | zero =>
   have hd : decide ((i : Int) + 0 - 1 ≥ (i : Int)) = false := by rw [decide_eq_false_iff_not]; omega
   repeat' first | refine g1 @hd ?_ | refine d1 @hd ?_ | refine j1 @hd (fun hg hgo => ?_) fun hg hgo => ?_ | refine ek_ret ?_ | refine ek_norm ?_ | refine ⟨by omega, ?_⟩ | rfl | trivial | intro _
theorem v_Equal_bool (l1 l2 : List Bool) (hn1 : l1.length ≤ 1000) (hn2 : l2.length ≤ 1000) : C2 CC F_slices_Equal_bool [.fv (setF l1), .fv (setF l2)] (bv (decide (l1 = l2))) [] := by
 refine cw (keepF Tryz.f85) Tryz.f85 false ?_
 repeat' first | refine pd3 16 [0, 0, 3, 7, 0, 0, 48, 112, 255] [0, 0, 0, 1, 0, 0, 0, 1, 0] false ?_ | refine g0 ?_ | refine d0 ?_ | refine j0 (fun hg hgo => ?_) fun hg hgo => ?_ | refine ek_ret ?_ | refine ek_norm ?_ | refine ⟨by omega, ?_⟩ | rfl | trivial | intro _
 ·have : l1 ≠ l2 := fun e => by subst e; simp at hg
  simp [this]
 ·have hlen : l1.length = l2.length := by have := hg; simp at this; omega
  refine pw_loop (fun m st => ∃ j : Nat, j + m = l1.length ∧ (∀ i (h1 : i < l1.length) (h2 : i < l2.length), i < j → l1[i] = l2[i]) ∧ st = [(0, .fv (setF l1)), (1, .fv (setF l2)), (12, iv l1.length), (13, iv j)]) l1.length [(0, .fv (setF l1)), (1, .fv (setF l2)), (12, iv l1.length), (13, iv (0 : Nat))] (sub_of ?_) ⟨0, by omega, fun i _ _ hi => by omega, rfl⟩ ?_
  ·exact dn
  ·rintro m st ⟨j, hj, hb, rfl⟩
   by_cases hlt : j < l1.length
   ·have hd : decide ((j : Int) < (l1.length : Int)) = true := by rw [decide_eq_true_eq]; omega
    have hlt2 : j < l2.length := by omega
    have hm1 : j < (l1.map FV.bool).length := by rw [List.length_map]; exact hlt
    have hm2 : j < (l2.map FV.bool).length := by rw [List.length_map]; exact hlt2
    replace hb : True → _ := fun _ => hb
    repeat' first | refine pd3 16 [0, 0, 3, 7, 0, 0, 48, 112, 255] [0, 0, 0, 1, 0, 0, 0, 1, 0] false ?_ | refine g1 @hd ?_ | refine d1 @hd ?_ | refine j1 @hd (fun hg hgo => ?_) fun hg hgo => ?_ | refine ek_ret ?_ | refine ek_norm ?_ | refine ⟨by omega, ?_⟩ | rfl | trivial | intro _
    ·have : l1[j] ≠ l2[j] := by simpa using hg
     have : l1 ≠ l2 := fun e => by subst e; exact this rfl
     simp [this]
    ·refine rd_norm [(0, .fv (setF l1)), (1, .fv (setF l2)), (12, iv l1.length), (13, iv (j + 1 : Nat))] (sub_of ?_) (m - 1) (by omega) ⟨j + 1, by omega, fun i q1 q2 hi => ?_, rfl⟩
     ·exact dn
     ·by_cases hij : i = j
      ·subst hij; simpa using hg
      ·exact hb trivial i q1 q2 (by omega)
   ·have hd : decide ((j : Int) < (l1.length : Int)) = false := by rw [decide_eq_false_iff_not]; omega
    have hq : decide (l1 = l2) = true := by rw [decide_eq_true_eq]; exact List.ext_getElem hlen fun i q1 q2 => hb i q1 q2 (by omega)
    repeat' first | refine g2 @hd @hq ?_ | refine d2 @hd @hq ?_ | refine j2 @hd @hq (fun hg hgo => ?_) fun hg hgo => ?_ | refine ek_ret ?_ | refine ek_norm ?_ | refine ⟨by omega, ?_⟩ | rfl | trivial | intro _
theorem live_none {bs : List BlockD} (hn : bs.length ≤ 1000) (hb : ∀ (b : Nat) (h : b < bs.length), BlkIn bs[b] 0 bs.length) : liveB bs 0 = emptyI 0 bs.length := by
 have g := live_grow (by omega : 0 ≤ 1000) hn hb
 refine List.ext_getElem (by rw [g.ok.len, emptyI_len]) fun i h1 h2 => ?_
 have := g.ok.row _ (List.getElem_mem h1)
 rw [List.eq_nil_of_length_eq_zero this]
 unfold emptyI
 simp
theorem v_liveIns (f : FnD) (V : Nat) (hV : f.values = (V : Int)) (hV1 : 0 < V) (hV2 : V ≤ 1000) (hf : f.blocks.length ≤ 1000) (hk : ∀ (b : Nat) (h : b < f.blocks.length), BlkIn f.blocks[b] V f.blocks.length) : C2 CC F_impl_liveIns [.fv (fnF f)] (.own 1 (insO (liveB f.blocks V))) [] := by
 have hgr := empty_grow hV2 hf hk
 obtain ⟨blocks, values⟩ := f
 simp only at hV hf hk hgr
 subst hV
 have hmk : 0 ≤ (V : Int) ∧ (V : Int) < 4294967296 := ⟨by omega, by omega⟩
 refine cw (keepF Tryz.f57) Tryz.f57 false ?_
 repeat' first | refine pdx 29 [0, 0, 0, 0, 0, 28, 63, 127] [2, 0, 1, 0, 0, 6, 5, 0] ?_ | refine g0 ?_ | refine d0 ?_ | refine j0 (fun hg hgo => ?_) fun hg hgo => ?_ | refine ek_ret ?_ | refine ek_norm ?_ | refine ⟨by omega, ?_⟩ | rfl | trivial | intro _
 refine pw_loop (fun m st => ∃ j : Nat, j + m = blocks.length ∧ st = [(1, .box (.fv (fnF ⟨blocks, V⟩))), (3, .own 1 (insO (emptyI V j))), (10, iv blocks.length), (11, iv j)]) blocks.length [(1, .box (.fv (fnF ⟨blocks, V⟩))), (3, .own 1 (insO (emptyI V 0))), (10, iv blocks.length), (11, iv (0 : Nat))] (sub_of ?_) ⟨0, by omega, rfl⟩ ?_
 ·exact dn
 ·rintro m st ⟨j, hj, rfl⟩
  by_cases hlt : j < blocks.length
  ·have hd : decide ((j : Int) < (blocks.length : Int)) = true := by rw [decide_eq_true_eq]; omega
   repeat' first | refine g4 @hd @hmk @insO_emp @emptyI_len ?_ | refine d4 @hd @hmk @insO_emp @emptyI_len ?_ | refine j4 @hd @hmk @insO_emp @emptyI_len (fun hg hgo => ?_) fun hg hgo => ?_ | refine ek_ret ?_ | refine ek_norm ?_ | refine ⟨by omega, ?_⟩ | rfl | trivial | intro _
   refine rd_norm [(1, .box (.fv (fnF ⟨blocks, V⟩))), (3, .own 1 (insO (emptyI V (j + 1)))), (10, iv blocks.length), (11, iv (j + 1 : Nat))] (sub_of ?_) (m - 1) (by omega) ⟨j + 1, by omega, rfl⟩
   exact dn
  ·have hd : decide ((j : Int) < (blocks.length : Int)) = false := by rw [decide_eq_false_iff_not]; omega
   have hjn : j = blocks.length := by omega
   subst hjn
   repeat' first | refine g1 @hd ?_ | refine d1 @hd ?_ | refine j1 @hd (fun hg hgo => ?_) fun hg hgo => ?_ | refine ek_ret ?_ | refine ek_norm ?_ | refine ⟨by omega, ?_⟩ | rfl | trivial | intro _
   unfold liveB
   generalize hL : lfpB blocks V (emptyI V blocks.length) = L
   refine pw_loop (fun m st => ∃ (ins : List (List Bool)) (more : Bool), Grow blocks V ins ∧ m = (if more = true then cntF ins + 1 else 0) ∧ (if more = true then lfpB blocks V ins = L else ins = L) ∧ st = [(1, .box (.fv (fnF ⟨blocks, V⟩))), (3, .own 1 (insO ins)), (4, bv more)]) (cntF (emptyI V blocks.length) + 1) [(1, .box (.fv (fnF ⟨blocks, V⟩))), (3, .own 1 (insO (emptyI V blocks.length))), (4, bv true)] (sub_of ?_) ⟨_, true, hgr, rfl, hL, rfl⟩ ?_
   ·exact dn
   ·rintro m2 st ⟨ins, more, hg, hm, hfix, rfl⟩
    cases more with
    | false =>
     simp only [Bool.false_eq_true, if_false] at hfix
     subst hfix
     exact dn
    | true =>
     simp only [if_true] at hm hfix
     have heq := lfpB_eq hg
     rw [hfix] at heq
     obtain ⟨w1, w2, w3⟩ := sweep_grow blocks.length (Nat.le_refl _) hg
     generalize hS : sweepN blocks V blocks.length ins = S at heq w1 w2 w3
     generalize hC : chgN blocks V blocks.length ins = c at heq w3
     repeat' first | refine g0 ?_ | refine d0 ?_ | refine j0 (fun hg hgo => ?_) fun hg hgo => ?_ | refine ek_ret ?_ | refine ek_norm ?_ | refine ⟨by omega, ?_⟩ | rfl | trivial | intro _
     refine pw_loop (fun m st => ∃ (cu : List (List Bool)) (mo : Bool), m ≤ blocks.length ∧ Grow blocks V cu ∧ sweepN blocks V m cu = S ∧ (mo || chgN blocks V m cu) = c ∧ st = [(1, .box (.fv (fnF ⟨blocks, V⟩))), (3, .own 1 (insO cu)), (4, bv mo), (5, iv ((m : Int) - 1))]) blocks.length [(1, .box (.fv (fnF ⟨blocks, V⟩))), (3, .own 1 (insO ins)), (4, bv false), (5, iv ((blocks.length : Int) - 1))] (sub_of ?_) ⟨ins, false, Nat.le_refl _, hg, hS, by rw [Bool.false_or]; exact hC, rfl⟩ ?_
     ·exact dn
     ·rintro k st ⟨cu, mo, hkn, hgc, hsw, hch, rfl⟩
      cases k with
      | zero =>
       have hdz : decide (((0 : Nat) : Int) - 1 ≥ 0) = false := by rw [decide_eq_false_iff_not]; omega
       rw [show ((0 : Nat) : Int) - 1 = -1 by omega]
       have hsw' : cu = S := hsw
       have hch' : mo = c := by have := hch; unfold chgN at this; rw [Bool.or_false] at this; exact this
       subst hsw'; subst hch'
       repeat' first | refine g0 ?_ | refine d0 ?_ | refine j0 (fun hg hgo => ?_) fun hg hgo => ?_ | refine ek_ret ?_ | refine ek_norm ?_ | refine ⟨by omega, ?_⟩ | rfl | trivial | intro _
       refine rd_norm [(1, .box (.fv (fnF ⟨blocks, V⟩))), (3, .own 1 (insO cu)), (4, bv mo)] (sub_of ?_) (if mo = true then cntF cu + 1 else 0) ?_ ⟨cu, mo, hgc, rfl, ?_, rfl⟩
       ·exact dn
       ·cases mo with
        | true => simp only [if_true]; have := w3 rfl; omega
        | false => simp only [Bool.false_eq_true, if_false]; omega
       ·rw [heq]; cases mo <;> rfl
      | succ k =>
       have hki : ((k + 1 : Nat) : Int) - 1 = (k : Int) := by omega
       rw [hki]
       have hge : decide ((k : Int) ≥ 0) = true := by rw [decide_eq_true_eq]; omega
       have hkl : k < blocks.length := by omega
       have hbk := hk k hkl
       have hae := v_atEnd ⟨blocks, V⟩ V k cu rfl hkl hf hgc.ok hbk.succ
       have hol := outB_len hgc.ok hbk.succ
       have hba := v_back ⟨blocks, V⟩ V k 0 (outB blocks[k].term V cu) rfl hkl hf hV1 hV2 hol hbk (Nat.zero_le _)
       have hnow : backE blocks[k] 0 (outB blocks[k].term V cu) = nowB blocks V k cu := by unfold nowB; rw [bAt_lt hkl]; rfl
       simp only at hae hba
       rw [hnow] at hba
       generalize outB blocks[k].term V cu = oe at hae hba hol
       have hnl : (nowB blocks V k cu).length = V := by unfold nowB; rw [bAt_lt hkl]; exact before_len hgc.ok hbk
       have hgu := upd_grow hgc hkl
       have hcl : k < cu.length := by rw [hgc.ok.len]; exact hkl
       unfold sweepN at hsw
       unfold chgN at hch
       have hrl := hgc.ok.row _ (List.getElem_mem hcl)
       have hcs : (cu[k]? = some (nowB blocks V k cu)) ↔ nowB blocks V k cu = cu[k] := by rw [List.getElem?_eq_getElem hcl]; constructor <;> (intro h; first | (injection h with h; exact h.symm) | rw [h])
       have hup : updB blocks V k cu = cu.set k (nowB blocks V k cu) := rfl
       generalize nowB blocks V k cu = now at hba hnl hch hcs hup
       have hgi := insO_get hcl
       have heqb := v_Equal_bool now cu[k] (by omega) (by omega)
       repeat' first | refine ck_intro (by first | exact hae | exact hba | exact heqb) ?_ ?_ | refine pdx 29 [0, 0, 0, 0, 0, 28, 63, 127] [2, 0, 1, 0, 0, 6, 5, 0] ?_ | refine g3 @hge @hgi @insO_set ?_ | refine d3 @hge @hgi @insO_set ?_ | refine j3 @hge @hgi @insO_set (fun hg hgo => ?_) fun hg hgo => ?_ | refine ek_ret ?_ | refine ek_norm ?_ | refine ⟨by omega, ?_⟩ | rfl | trivial | intro _
       ·have hne : now ≠ cu[k] := by simpa using hg
        have hnd : decide (cu[k]? = some now) = false := by rw [decide_eq_false_iff_not]; exact fun h => hne (hcs.1 h)
        refine rd_norm [(1, .box (.fv (fnF ⟨blocks, V⟩))), (3, .own 1 (insO (updB blocks V k cu))), (4, bv true), (5, iv ((k : Int) - 1))] (sub_of ?_) k (by omega) ⟨_, _, by omega, hgu, hsw, ?_, rfl⟩
        ·rw [hup]
         exact dn
        ·rw [← hch, hnd]; simp
       ·have heq2 : now = cu[k] := by simpa using hg
        have hnd : decide (cu[k]? = some now) = true := by rw [decide_eq_true_eq]; exact hcs.2 heq2
        have hsame : updB blocks V k cu = cu := by rw [hup, heq2]; exact List.set_getElem_self hcl
        rw [hsame] at hgu hsw hch
        refine rd_norm [(1, .box (.fv (fnF ⟨blocks, V⟩))), (3, .own 1 (insO cu)), (4, bv mo), (5, iv ((k : Int) - 1))] (sub_of ?_) k (by omega) ⟨_, _, by omega, hgu, hsw, ?_, rfl⟩
        ·exact dn
        ·rw [← hch, hnd]; simp
theorem v_liveIns_none (f : FnD) (hV : f.values = 0) (hf : f.blocks.length ≤ 1000) (hk : ∀ (b : Nat) (h : b < f.blocks.length), BlkIn f.blocks[b] 0 f.blocks.length) : C2 CC F_impl_liveIns [.fv (fnF f)] (.own 1 (insO (liveB f.blocks 0))) [] := by
 rw [live_none hf hk]
 have hgr := (empty_grow (by omega : 0 ≤ 1000) hf hk).ok
 obtain ⟨blocks, values⟩ := f
 simp only at hV hf hk hgr
 subst hV
 refine cw (keepF Tryz.f57) Tryz.f57 false ?_
 repeat' first | refine pdx 29 [0, 0, 0, 0, 0, 28, 63, 127] [2, 0, 1, 0, 0, 6, 5, 0] ?_ | refine g0 ?_ | refine d0 ?_ | refine j0 (fun hg hgo => ?_) fun hg hgo => ?_ | refine ek_ret ?_ | refine ek_norm ?_ | refine ⟨by omega, ?_⟩ | rfl | trivial | intro _
 refine pw_loop (fun m st => ∃ j : Nat, j + m = blocks.length ∧ st = [(1, .box (.fv (fnF ⟨blocks, 0⟩))), (3, .own 1 (insO (emptyI 0 j))), (10, iv blocks.length), (11, iv j)]) blocks.length [(1, .box (.fv (fnF ⟨blocks, 0⟩))), (3, .own 1 (insO (emptyI 0 0))), (10, iv blocks.length), (11, iv (0 : Nat))] (sub_of ?_) ⟨0, by omega, rfl⟩ ?_
 ·exact dn
 ·rintro m st ⟨j, hj, rfl⟩
  by_cases hlt : j < blocks.length
  ·have hd : decide ((j : Int) < (blocks.length : Int)) = true := by rw [decide_eq_true_eq]; omega
   have hemp : insO (emptyI 0 j) ++ [.own 1 []] = insO (emptyI 0 (j + 1)) := insO_emp (V := 0)
   repeat' first | refine g4 @hd @List.replicate_zero.{0} @hemp @emptyI_len ?_ | refine d4 @hd @List.replicate_zero.{0} @hemp @emptyI_len ?_ | refine j4 @hd @List.replicate_zero.{0} @hemp @emptyI_len (fun hg hgo => ?_) fun hg hgo => ?_ | refine ek_ret ?_ | refine ek_norm ?_ | refine ⟨by omega, ?_⟩ | rfl | trivial | intro _
   refine rd_norm [(1, .box (.fv (fnF ⟨blocks, 0⟩))), (3, .own 1 (insO (emptyI 0 (j + 1)))), (10, iv blocks.length), (11, iv (j + 1 : Nat))] (sub_of ?_) (m - 1) (by omega) ⟨j + 1, by omega, rfl⟩
   exact dn
  ·have hd : decide ((j : Int) < (blocks.length : Int)) = false := by rw [decide_eq_false_iff_not]; omega
   have hjn : j = blocks.length := by omega
   subst hjn
   repeat' first | refine g1 @hd ?_ | refine d1 @hd ?_ | refine j1 @hd (fun hg hgo => ?_) fun hg hgo => ?_ | refine ek_ret ?_ | refine ek_norm ?_ | refine ⟨by omega, ?_⟩ | rfl | trivial | intro _
   generalize hI : emptyI 0 blocks.length = cu at hgr
   refine pw_loop (fun m st => ∃ more : Bool, m = (if more = true then 1 else 0) ∧ st = [(1, .box (.fv (fnF ⟨blocks, 0⟩))), (3, .own 1 (insO cu)), (4, bv more)]) 1 [(1, .box (.fv (fnF ⟨blocks, 0⟩))), (3, .own 1 (insO cu)), (4, bv true)] (sub_of ?_) ⟨true, rfl, rfl⟩ ?_
   ·exact dn
   ·rintro m2 st ⟨more, hm, rfl⟩
    cases more with
    | false => exact dn
    | true =>
     simp only [if_true] at hm
     subst hm
     repeat' first | refine g0 ?_ | refine d0 ?_ | refine j0 (fun hg hgo => ?_) fun hg hgo => ?_ | refine ek_ret ?_ | refine ek_norm ?_ | refine ⟨by omega, ?_⟩ | rfl | trivial | intro _
     refine pw_loop (fun m st => m ≤ blocks.length ∧ st = [(1, .box (.fv (fnF ⟨blocks, 0⟩))), (3, .own 1 (insO cu)), (4, bv false), (5, iv ((m : Int) - 1))]) blocks.length [(1, .box (.fv (fnF ⟨blocks, 0⟩))), (3, .own 1 (insO cu)), (4, bv false), (5, iv ((blocks.length : Int) - 1))] (sub_of ?_) ⟨Nat.le_refl _, rfl⟩ ?_
     ·exact dn
     ·rintro k st ⟨hkn, rfl⟩
      cases k with
      | zero =>
       rw [show ((0 : Nat) : Int) - 1 = -1 by omega]
       repeat' first | refine g0 ?_ | refine d0 ?_ | refine j0 (fun hg hgo => ?_) fun hg hgo => ?_ | refine ek_ret ?_ | refine ek_norm ?_ | refine ⟨by omega, ?_⟩ | rfl | trivial | intro _
       refine rd_norm [(1, .box (.fv (fnF ⟨blocks, 0⟩))), (3, .own 1 (insO cu)), (4, bv false)] (sub_of ?_) 0 (by omega) ⟨false, rfl, rfl⟩
       exact dn
      | succ k =>
       have hki : ((k + 1 : Nat) : Int) - 1 = (k : Int) := by omega
       rw [hki]
       have hge : decide ((k : Int) ≥ 0) = true := by rw [decide_eq_true_eq]; omega
       have hkl : k < blocks.length := by omega
       have hbk := hk k hkl
       have hae := v_atEnd ⟨blocks, 0⟩ 0 k cu rfl hkl hf hgr hbk.succ
       have hol := outB_len hgr hbk.succ
       have hoe : outB blocks[k].term 0 cu = [] := List.eq_nil_of_length_eq_zero hol
       simp only at hae
       rw [hoe] at hae
       have hbools : bools [] = [] := rfl
       rw [hbools] at hae
       have hba := v_back_none ⟨blocks, 0⟩ k 0 rfl hkl hf hbk (Nat.zero_le _)
       have hcl : k < cu.length := by rw [hgr.len]; exact hkl
       have hgi := insO_get hcl
       have hce : cu[k] = [] := List.eq_nil_of_length_eq_zero (hgr.row _ (List.getElem_mem hcl))
       rw [hce, hbools] at hgi
       have heqb := v_Equal_bool [] [] (by simp) (by simp)
       have hmn : List.map FV.bool [] = [] := rfl
       have hdd : decide (([] : List Bool) = []) = true := rfl
       rw [hdd] at heqb
       repeat' first | refine ck_intro (by first | exact hae | exact hba | exact heqb) ?_ ?_ | refine pdx 29 [0, 0, 0, 0, 0, 28, 63, 127] [2, 0, 1, 0, 0, 6, 5, 0] ?_ | refine g3 @hge @hgi @hmn ?_ | refine d3 @hge @hgi @hmn ?_ | refine j3 @hge @hgi @hmn (fun hg hgo => ?_) fun hg hgo => ?_ | refine ek_ret ?_ | refine ek_norm ?_ | refine ⟨by omega, ?_⟩ | rfl | trivial | intro _
       refine rd_norm [(1, .box (.fv (fnF ⟨blocks, 0⟩))), (3, .own 1 (insO cu)), (4, bv false), (5, iv ((k : Int) - 1))] (sub_of ?_) k (by omega) ⟨by omega, rfl⟩
       exact dn
theorem armsB_split (blocks values : Int) : ∀ (l : List ArmD) (pre : List ArmD) (j : Nat), (∀ i (h : i < l.length), i < j → armB (pre ++ l.take i) l[i] blocks values = true) → armsB blocks values pre l = armsB blocks values (pre ++ l.take j) (l.drop j)
 | l, pre, 0, h => by simp
 | [], pre, j + 1, h => by simp [armsB]
 | a :: l, pre, j + 1, h => by
  have h0 := h 0 (by simp) (by omega)
  simp only [List.take_zero, List.append_nil, List.getElem_cons_zero] at h0
  rw [armsB, h0, Bool.true_and, List.drop_succ_cons, List.take_succ_cons, armsB_split blocks values l (pre ++ [a]) j (fun i hi hij => by
   have := h (i + 1) (by simpa using hi) (by omega)
   simpa using this)]
  simp
theorem v_l2Phi (x : PhiD) (blocks values : Int) (hb : 0 ≤ blocks ∧ blocks ≤ 1000000000) (hx : x.ok) : C2 CC F_spec_l2Phi [.fv (phiF x), iv blocks, iv values] (bv (phiB x blocks values)) [] := by
 obtain ⟨d, arms⟩ := x
 replace hx : arms.length < 1073741824 := hx
 unfold phiB
 refine cw (keepF Tryz.f70) Tryz.f70 false ?_
 repeat' first | refine ck_intro (by first | exact v_l2Value _ _ | exact v_l1In _ _ _) ?_ ?_ | refine pd3 53 [0, 1, 0, 7, 15, 31, 0, 64, 0, 448, 960, 1984, 4095] [0, 1, 0, 0, 0, 1, 0, 1, 0, 0, 0, 1, 0] false ?_ | refine g0 ?_ | refine d0 ?_ | refine j0 (fun hg hgo => ?_) fun hg hgo => ?_ | refine ek_ret ?_ | refine ek_norm ?_ | refine ⟨by omega, ?_⟩ | rfl | trivial | intro _
 ·simp [hgo]
 ·simp; intro _ h; omega
 ·rw [show (valB d values && decide (arms.length ≤ 16) && armsB blocks values [] arms) = armsB blocks values [] arms by rw [(by assumption : valB d values = true)]; simp; intro h; omega]
  refine pw_loop (fun m st => ∃ j : Nat, j + m = arms.length ∧ (∀ i (h : i < arms.length), i < j → armB ([] ++ arms.take i) arms[i] blocks values = true) ∧ st = [(1, iv blocks), (2, iv values), (3, .box (.fv (phiF ⟨d, arms⟩))), (7, iv j)]) arms.length [(1, iv blocks), (2, iv values), (3, .box (.fv (phiF ⟨d, arms⟩))), (7, iv (0 : Nat))] (sub_of ?_) ⟨0, by omega, fun i _ hi => by omega, rfl⟩ ?_
  ·exact dn
  ·rintro m st ⟨j, hj, hb2, rfl⟩
   have hsp := armsB_split blocks values arms [] j hb2
   by_cases hlt : j < arms.length
   ·have hd : decide ((j : Int) < (arms.length : Int)) = true := by rw [decide_eq_true_eq]; omega
    have hml : j < (arms.map armF).length := by rw [List.length_map]; exact hlt
    rw [List.nil_append, List.drop_eq_getElem_cons hlt, armsB] at hsp
    rw [hsp]
    replace hb2 : True → _ := fun _ => hb2
    repeat' first | refine ck_intro (by first | exact v_l2Value _ _ | exact v_l1In _ _ _) ?_ ?_ | refine pd3 53 [0, 1, 0, 7, 15, 31, 0, 64, 0, 448, 960, 1984, 4095] [0, 1, 0, 0, 0, 1, 0, 1, 0, 0, 0, 1, 0] false ?_ | refine g1 @hd ?_ | refine d1 @hd ?_ | refine j1 @hd (fun hg hgo => ?_) fun hg hgo => ?_ | refine ek_ret ?_ | refine ek_norm ?_ | refine ⟨by omega, ?_⟩ | rfl | trivial | intro _
    ·have : armB (arms.take j) arms[j] blocks values = false := by
      unfold armB rgB
      rcases hgo with h | h
      ·simp [h]
      ·rw [decide_eq_false h]; simp
     rw [this]; rfl
    ·have : armB (arms.take j) arms[j] blocks values = false := by unfold armB; simp [hgo]
     rw [this]; rfl
    ·have hfr : rgB arms[j].fr 0 (blocks - 1) = true := by
      have hq : arms[j].fr ≥ 0 ∧ arms[j].fr ≤ blocks - 1 := by assumption
      unfold rgB; rw [decide_eq_true hq.1, decide_eq_true hq.2]; rfl
     refine pw_loop (fun m st => ∃ k : Nat, k + m = j ∧ (∀ i (h : i < arms.length), i < k → arms[i].fr ≠ arms[j].fr) ∧ st = [(1, iv blocks), (2, iv values), (3, .box (.fv (phiF ⟨d, arms⟩))), (7, iv j), (8, iv k)]) j [(1, iv blocks), (2, iv values), (3, .box (.fv (phiF ⟨d, arms⟩))), (7, iv j), (8, iv (0 : Nat))] (sub_of ?_) ⟨0, by omega, fun i _ hi => by omega, rfl⟩ ?_
     ·exact dn
     ·rintro m2 st ⟨k, hk, hb3, rfl⟩
      by_cases hlk : k < j
      ·have hd : decide ((k : Int) < (j : Int)) = true := by rw [decide_eq_true_eq]; omega
       have hmk : k < (arms.map armF).length := by rw [List.length_map]; omega
       have hka : k < arms.length := by omega
       replace hb3 : True → _ := fun _ => hb3
       repeat' first | refine pd3 53 [0, 1, 0, 7, 15, 31, 0, 64, 0, 448, 960, 1984, 4095] [0, 1, 0, 0, 0, 1, 0, 1, 0, 0, 0, 1, 0] false ?_ | refine g1 @hd ?_ | refine d1 @hd ?_ | refine j1 @hd (fun hg hgo => ?_) fun hg hgo => ?_ | refine ek_ret ?_ | refine ek_norm ?_ | refine ⟨by omega, ?_⟩ | rfl | trivial | intro _
       ·have : armB (arms.take j) arms[j] blocks values = false := by
         unfold armB
         have : ((arms.take j).all fun x => !decide (x.fr = arms[j].fr)) = false := by
          rw [List.all_eq_false]
          exact ⟨arms[k], List.mem_take_iff_getElem.2 ⟨k, by omega, rfl⟩, by simpa using hg⟩
         rw [this]; simp
        rw [this]; rfl
       ·refine rd_norm [(1, iv blocks), (2, iv values), (3, .box (.fv (phiF ⟨d, arms⟩))), (7, iv j), (8, iv (k + 1 : Nat))] (sub_of ?_) (m2 - 1) (by omega) ⟨k + 1, by omega, fun i hi h1 => ?_, rfl⟩
        ·exact dn
        ·by_cases h2 : i = k
         ·subst h2; simpa using hg
         ·exact hb3 trivial i hi (by omega)
      ·have hd : decide ((k : Int) < (j : Int)) = false := by rw [decide_eq_false_iff_not]; omega
       have harm : armB (arms.take j) arms[j] blocks values = true := by
        unfold armB
        have hv : valB arms[j].v values = true := by assumption
        rw [hfr, hv]
        simp only [Bool.true_and, List.all_eq_true, Bool.not_eq_true', decide_eq_false_iff_not]
        intro x hx
        obtain ⟨i, hi, rfl⟩ := List.mem_take_iff_getElem.1 hx
        exact hb3 i (by omega) (by omega)
       repeat' first | refine g1 @hd ?_ | refine d1 @hd ?_ | refine j1 @hd (fun hg hgo => ?_) fun hg hgo => ?_ | refine ek_ret ?_ | refine ek_norm ?_ | refine ⟨by omega, ?_⟩ | rfl | trivial | intro _
       refine rd_norm [(1, iv blocks), (2, iv values), (3, .box (.fv (phiF ⟨d, arms⟩))), (7, iv (j + 1 : Nat))] (sub_of ?_) (m - 1) (by omega) ⟨j + 1, by omega, fun i hi h1 => ?_, rfl⟩
       ·exact dn
       ·by_cases h2 : i = j
        ·subst h2; exact harm
        ·exact hb2 trivial i hi (by omega)
   ·have hd : decide ((j : Int) < (arms.length : Int)) = false := by rw [decide_eq_false_iff_not]; omega
    rw [hsp, List.drop_eq_nil_of_le (by omega), armsB]
    repeat' first | refine g1 @hd ?_ | refine d1 @hd ?_ | refine j1 @hd (fun hg hgo => ?_) fun hg hgo => ?_ | refine ek_ret ?_ | refine ek_norm ?_ | refine ⟨by omega, ?_⟩ | rfl | trivial | intro _
theorem shapeB_b (f : FnD) (h : rgB f.blocks.length 1 16 = true) (h2 : rgB f.values 0 80 = true) : shapeB f = f.blocks.all fun b => blockB b f.blocks.length f.values := by unfold shapeB; rw [h, h2]; rfl
theorem v_ShapeOk_spec (f : FnD) (hf : f.ok) : C2 CC F_spec_ShapeOk [.fv (fnF f)] (bv (shapeB f)) [] := by
 obtain ⟨blocks, values⟩ := f
 replace hf : blocks.length < 1073741824 ∧ ∀ b ∈ blocks, b.ok := hf
 refine cw (keepF Tryz.f46) Tryz.f46 false ?_
 repeat' first | refine ck_intro (by first | exact v_l1In _ _ _) ?_ ?_ | refine pd3 56 [0, 1, 0, 7, 15, 0, 0, 64, 255, 511] [0, 1, 0, 0, 1, 0, 0, 1, 5, 0] false ?_ | refine pd3 73 [0, 1, 0, 7, 15, 0, 32, 127, 255] [0, 1, 0, 0, 1, 0, 1, 5, 0] false ?_ | refine g0 ?_ | refine d0 ?_ | refine j0 (fun hg hgo => ?_) fun hg hgo => ?_ | refine ek_ret ?_ | refine ek_norm ?_ | refine ⟨by omega, ?_⟩ | rfl | trivial | intro _
 ·unfold shapeB rgB
  rcases hgo with h | h
  ·simp [h]
  ·rw [decide_eq_false h]; simp
 ·unfold shapeB rgB
  rcases hgo with h | h
  ·simp [h]
  ·rw [decide_eq_false h]; simp
 ·have h1 : rgB blocks.length 1 16 = true := by
   have hq : (blocks.length : Int) ≥ 1 ∧ (blocks.length : Int) ≤ 16 := by assumption
   unfold rgB; rw [decide_eq_true hq.1, decide_eq_true hq.2]; rfl
  have h2 : rgB values 0 80 = true := by
   have hq : values ≥ 0 ∧ values ≤ 80 := by assumption
   unfold rgB; rw [decide_eq_true hq.1, decide_eq_true hq.2]; rfl
  have hl16 : blocks.length ≤ 16 := by
   have hq : (blocks.length : Int) ≥ 1 ∧ (blocks.length : Int) ≤ 16 := by assumption
   omega
  rw [shapeB_b ⟨blocks, values⟩ h1 h2]
  show _
  refine pw_loop (fun m st => ∃ j : Nat, j + m = blocks.length ∧ (blocks.take j).all (fun b => blockB b blocks.length values) = true ∧ st = [(1, .box (.fv (fnF ⟨blocks, values⟩))), (3, iv blocks.length), (4, iv j)]) blocks.length [(1, .box (.fv (fnF ⟨blocks, values⟩))), (3, iv blocks.length), (4, iv (0 : Nat))] (sub_of ?_) ⟨0, by omega, rfl, rfl⟩ ?_
  ·exact dn
  ·rintro m st ⟨j, hj, hb2, rfl⟩
   by_cases hlt : j < blocks.length
   ·have hd : decide ((j : Int) < (blocks.length : Int)) = true := by rw [decide_eq_true_eq]; omega
    have hml : j < (blocks.map blockF).length := by rw [List.length_map]; exact hlt
    have hok := hf.2 _ (List.getElem_mem hlt)
    have hte := v_l2Term blocks[j].term blocks.length values ⟨by omega, by omega⟩
    repeat' first | refine ck_intro (by first | exact hte) ?_ ?_ | refine pd3 56 [0, 1, 0, 7, 15, 0, 0, 64, 255, 511] [0, 1, 0, 0, 1, 0, 0, 1, 5, 0] false ?_ | refine pd3 73 [0, 1, 0, 7, 15, 0, 32, 127, 255] [0, 1, 0, 0, 1, 0, 1, 5, 0] false ?_ | refine g1 @hd ?_ | refine d1 @hd ?_ | refine j1 @hd (fun hg hgo => ?_) fun hg hgo => ?_ | refine ek_ret ?_ | refine ek_norm ?_ | refine ⟨by omega, ?_⟩ | rfl | trivial | intro _
    ·have hbd : blockB blocks[j] blocks.length values = false := by unfold blockB; rw [decide_eq_false (by omega)]; simp
     rw [all_bad (p := fun b => blockB b blocks.length values) hlt hbd]
    ·have hbd : blockB blocks[j] blocks.length values = false := by unfold blockB; rw [decide_eq_false (p := blocks[j].list.length ≤ 24) (by omega)]; simp
     rw [all_bad (p := fun b => blockB b blocks.length values) hlt hbd]
    ·have hbd : blockB blocks[j] blocks.length values = false := by unfold blockB; rw [show termB blocks[j].term blocks.length values = false by assumption]; simp
     rw [all_bad (p := fun b => blockB b blocks.length values) hlt hbd]
    ·have htm : termB blocks[j].term blocks.length values = true := by assumption
     refine pw_loop (fun m st => ∃ k : Nat, k + m = blocks[j].phis.length ∧ (blocks[j].phis.take k).all (fun x => phiB x blocks.length values) = true ∧ st = [(1, .box (.fv (fnF ⟨blocks, values⟩))), (3, iv blocks.length), (4, iv j), (5, .box (.fv (blockF blocks[j]))), (6, iv k)]) blocks[j].phis.length [(1, .box (.fv (fnF ⟨blocks, values⟩))), (3, iv blocks.length), (4, iv j), (5, .box (.fv (blockF blocks[j]))), (6, iv (0 : Nat))] (sub_of ?_) ⟨0, by omega, rfl, rfl⟩ ?_
     ·exact dn
     ·rintro m2 st ⟨k, hk, hb3, rfl⟩
      by_cases hlk : k < blocks[j].phis.length
      ·have hdk : decide ((k : Int) < (blocks[j].phis.length : Int)) = true := by rw [decide_eq_true_eq]; omega
       have hmk : k < (blocks[j].phis.map phiF).length := by rw [List.length_map]; exact hlk
       have hel := v_l2Phi blocks[j].phis[k] blocks.length values ⟨by omega, by omega⟩ (hok.2.1 _ (List.getElem_mem hlk))
       repeat' first | refine ck_intro (by first | exact hel) ?_ ?_ | refine pd3 56 [0, 1, 0, 7, 15, 0, 0, 64, 255, 511] [0, 1, 0, 0, 1, 0, 0, 1, 5, 0] false ?_ | refine pd3 73 [0, 1, 0, 7, 15, 0, 32, 127, 255] [0, 1, 0, 0, 1, 0, 1, 5, 0] false ?_ | refine g1 @hdk ?_ | refine d1 @hdk ?_ | refine j1 @hdk (fun hg hgo => ?_) fun hg hgo => ?_ | refine ek_ret ?_ | refine ek_norm ?_ | refine ⟨by omega, ?_⟩ | rfl | trivial | intro _
       ·have hx : (blocks[j].phis.all fun x => phiB x blocks.length values) = false := all_bad (p := fun x => phiB x blocks.length values) hlk (by simpa using hg)
        have hbd : blockB blocks[j] blocks.length values = false := by unfold blockB; rw [hx]; simp
        rw [all_bad (p := fun b => blockB b blocks.length values) hlt hbd]
       ·refine rd_norm [(1, .box (.fv (fnF ⟨blocks, values⟩))), (3, iv blocks.length), (4, iv j), (5, .box (.fv (blockF blocks[j]))), (6, iv (k + 1 : Nat))] (sub_of ?_) (m2 - 1) (by omega) ⟨k + 1, by omega, all_step (p := fun x => phiB x blocks.length values) hb3 hlk (by simpa using hg), rfl⟩
        exact dn
      ·have hdk : decide ((k : Int) < (blocks[j].phis.length : Int)) = false := by rw [decide_eq_false_iff_not]; omega
       have hallphis := all_end hb3 (by omega)
       repeat' first | refine g1 @hdk ?_ | refine d1 @hdk ?_ | refine j1 @hdk (fun hg hgo => ?_) fun hg hgo => ?_ | refine ek_ret ?_ | refine ek_norm ?_ | refine ⟨by omega, ?_⟩ | rfl | trivial | intro _
       refine pw_loop (fun m st => ∃ k : Nat, k + m = blocks[j].list.length ∧ (blocks[j].list.take k).all (fun x => insB x values) = true ∧ st = [(1, .box (.fv (fnF ⟨blocks, values⟩))), (3, iv blocks.length), (4, iv j), (5, .box (.fv (blockF blocks[j]))), (7, iv k)]) blocks[j].list.length [(1, .box (.fv (fnF ⟨blocks, values⟩))), (3, iv blocks.length), (4, iv j), (5, .box (.fv (blockF blocks[j]))), (7, iv (0 : Nat))] (sub_of ?_) ⟨0, by omega, rfl, rfl⟩ ?_
       ·exact dn
       ·rintro m2 st ⟨k, hk, hb3, rfl⟩
        by_cases hlk : k < blocks[j].list.length
        ·have hdk : decide ((k : Int) < (blocks[j].list.length : Int)) = true := by rw [decide_eq_true_eq]; omega
         have hmk : k < (blocks[j].list.map stF).length := by rw [List.length_map]; exact hlk
         have hel := v_l2Ins blocks[j].list[k] values
         repeat' first | refine ck_intro (by first | exact hel) ?_ ?_ | refine pd3 56 [0, 1, 0, 7, 15, 0, 0, 64, 255, 511] [0, 1, 0, 0, 1, 0, 0, 1, 5, 0] false ?_ | refine pd3 73 [0, 1, 0, 7, 15, 0, 32, 127, 255] [0, 1, 0, 0, 1, 0, 1, 5, 0] false ?_ | refine g1 @hdk ?_ | refine d1 @hdk ?_ | refine j1 @hdk (fun hg hgo => ?_) fun hg hgo => ?_ | refine ek_ret ?_ | refine ek_norm ?_ | refine ⟨by omega, ?_⟩ | rfl | trivial | intro _
         ·have hx : (blocks[j].list.all fun x => insB x values) = false := all_bad (p := fun x => insB x values) hlk (by simpa using hg)
          have hbd : blockB blocks[j] blocks.length values = false := by unfold blockB; rw [hx]; simp
          rw [all_bad (p := fun b => blockB b blocks.length values) hlt hbd]
         ·refine rd_norm [(1, .box (.fv (fnF ⟨blocks, values⟩))), (3, iv blocks.length), (4, iv j), (5, .box (.fv (blockF blocks[j]))), (7, iv (k + 1 : Nat))] (sub_of ?_) (m2 - 1) (by omega) ⟨k + 1, by omega, all_step (p := fun x => insB x values) hb3 hlk (by simpa using hg), rfl⟩
          exact dn
        ·have hdk : decide ((k : Int) < (blocks[j].list.length : Int)) = false := by rw [decide_eq_false_iff_not]; omega
         have halllist := all_end hb3 (by omega)
         repeat' first | refine g1 @hdk ?_ | refine d1 @hdk ?_ | refine j1 @hdk (fun hg hgo => ?_) fun hg hgo => ?_ | refine ek_ret ?_ | refine ek_norm ?_ | refine ⟨by omega, ?_⟩ | rfl | trivial | intro _
         refine rd_norm [(1, .box (.fv (fnF ⟨blocks, values⟩))), (3, iv blocks.length), (4, iv (j + 1 : Nat))] (sub_of ?_) (m - 1) (by omega) ⟨j + 1, by omega, all_step (p := fun b => blockB b blocks.length values) hb2 hlt ?_, rfl⟩
         ·exact dn
         ·show blockB blocks[j] blocks.length values = true
          unfold blockB
          rw [htm, hallphis, halllist, decide_eq_true (p := blocks[j].phis.length ≤ 24) (by omega), decide_eq_true (p := blocks[j].list.length ≤ 24) (by omega)]; rfl
   ·have hd : decide ((j : Int) < (blocks.length : Int)) = false := by rw [decide_eq_false_iff_not]; omega
    have hq := all_end hb2 (by omega)
    repeat' first | refine g2 @hd @hq ?_ | refine d2 @hd @hq ?_ | refine j2 @hd @hq (fun hg hgo => ?_) fun hg hgo => ?_ | refine ek_ret ?_ | refine ek_norm ?_ | refine ⟨by omega, ?_⟩ | rfl | trivial | intro _
theorem v_IndexFunc_Arm (g : FuncId) (cs : List FV) (P : ArmD → Bool) (hmu : ∀ i, MU g i = 0) (hps : g ≠ 4294967295) (l : List ArmD) (hl : l.length < 4611686018427387904) (hg : ∀ x ∈ l, C2 CC g (.fv (armF x) :: cs.map .fv) (bv (P x)) []) : C2 CC F_slices_IndexFunc_impl_Arm [.fv (.row 2 (l.map armF)), .fv (.fn g [] cs)] (iv (idxP P l 0)) [] := by
 refine cw (keepF Tryz.f107) Tryz.f107 false ?_
 repeat' first | refine g0 ?_ | refine d0 ?_ | refine j0 (fun hg hgo => ?_) fun hg hgo => ?_ | refine ek_ret ?_ | refine ek_norm ?_ | refine ⟨by omega, ?_⟩ | rfl | trivial | intro _
 refine pw_loop (fun m st => ∃ j : Nat, j + m = l.length ∧ (∀ i (h : i < l.length), i < j → P l[i] = false) ∧ st = [(0, .fv (.row 2 (l.map armF))), (1, .fv (.fn g [] cs)), (7, iv l.length), (8, iv j)]) l.length [(0, .fv (.row 2 (l.map armF))), (1, .fv (.fn g [] cs)), (7, iv l.length), (8, iv (0 : Nat))] (sub_of ?_) ⟨0, by omega, fun i _ hi => by omega, rfl⟩ ?_
 ·exact dn
 ·rintro m st ⟨j, hj, hb, rfl⟩
  have hidx := idxP_at P l j 0 hb
  by_cases hlt : j < l.length
  ·have hd : decide ((j : Int) < (l.length : Int)) = true := by rw [decide_eq_true_eq]; omega
   have hml : j < (l.map armF).length := by rw [List.length_map]; exact hlt
   have hel := hg l[j] (List.getElem_mem hlt)
   have hidx2 : idxP P l 0 = if P l[j] = true then (j : Int) else idxP P (l.drop (j + 1)) (j + 1) := by
    rw [hidx, List.drop_eq_getElem_cons hlt, idxP]; simp
   replace hb : True → _ := fun _ => hb
   repeat' first | refine ck_intro (by first | exact hel) ?_ ?_ | refine g3 @hd @hmu @hps ?_ | refine d3 @hd @hmu @hps ?_ | refine j3 @hd @hmu @hps (fun hg hgo => ?_) fun hg hgo => ?_ | refine ek_ret ?_ | refine ek_norm ?_ | refine ⟨by omega, ?_⟩ | rfl | trivial | intro _
   ·rw [hidx2, if_pos (by simpa using hg)]
   ·refine rd_norm [(0, .fv (.row 2 (l.map armF))), (1, .fv (.fn g [] cs)), (7, iv l.length), (8, iv (j + 1 : Nat))] (sub_of ?_) (m - 1) (by omega) ⟨j + 1, by omega, fun i hi h1 => ?_, rfl⟩
    ·exact dn
    ·by_cases h2 : i = j
     ·subst h2; simpa using hg
     ·exact hb trivial i hi (by omega)
  ·have hd : decide ((j : Int) < (l.length : Int)) = false := by rw [decide_eq_false_iff_not]; omega
   have hidx2 : idxP P l 0 = -1 := by
    rw [hidx, List.drop_eq_nil_of_le (by omega)]; rfl
   repeat' first | refine g2 @hd @hidx2 ?_ | refine d2 @hd @hidx2 ?_ | refine j2 @hd @hidx2 (fun hg hgo => ?_) fun hg hgo => ?_ | refine ek_ret ?_ | refine ek_norm ?_ | refine ⟨by omega, ?_⟩ | rfl | trivial | intro _
theorem v_ContainsFunc_Arm (g : FuncId) (cs : List FV) (P : ArmD → Bool) (hmu : ∀ i, MU g i = 0) (hps : g ≠ 4294967295) (l : List ArmD) (hl : l.length < 4611686018427387904) (hg : ∀ x ∈ l, C2 CC g (.fv (armF x) :: cs.map .fv) (bv (P x)) []) : C2 CC F_slices_ContainsFunc_impl_Arm [.fv (.row 2 (l.map armF)), .fv (.fn g [] cs)] (bv (l.any P)) [] := by
 rw [← idxP_any P l]
 refine cw (keepF Tryz.f100) Tryz.f100 false ?_
 repeat' first | refine ck_intro (by first | exact v_IndexFunc_Arm g cs P hmu hps l hl hg) ?_ ?_ | refine g0 ?_ | refine d0 ?_ | refine j0 (fun hg hgo => ?_) fun hg hgo => ?_ | refine ek_ret ?_ | refine ek_norm ?_ | refine ⟨by omega, ?_⟩ | rfl | trivial | intro _
theorem v_IndexFunc_Phi (g : FuncId) (cs : List FV) (P : PhiD → Bool) (hmu : ∀ i, MU g i = 0) (hps : g ≠ 4294967295) (l : List PhiD) (hl : l.length < 4611686018427387904) (hg : ∀ x ∈ l, C2 CC g (.fv (phiF x) :: cs.map .fv) (bv (P x)) []) : C2 CC F_slices_IndexFunc_impl_Phi [.fv (.row 2 (l.map phiF)), .fv (.fn g [] cs)] (iv (idxP P l 0)) [] := by
 refine cw (keepF Tryz.f99) Tryz.f99 false ?_
 repeat' first | refine g0 ?_ | refine d0 ?_ | refine j0 (fun hg hgo => ?_) fun hg hgo => ?_ | refine ek_ret ?_ | refine ek_norm ?_ | refine ⟨by omega, ?_⟩ | rfl | trivial | intro _
 refine pw_loop (fun m st => ∃ j : Nat, j + m = l.length ∧ (∀ i (h : i < l.length), i < j → P l[i] = false) ∧ st = [(0, .fv (.row 2 (l.map phiF))), (1, .fv (.fn g [] cs)), (7, iv l.length), (8, iv j)]) l.length [(0, .fv (.row 2 (l.map phiF))), (1, .fv (.fn g [] cs)), (7, iv l.length), (8, iv (0 : Nat))] (sub_of ?_) ⟨0, by omega, fun i _ hi => by omega, rfl⟩ ?_
 ·exact dn
 ·rintro m st ⟨j, hj, hb, rfl⟩
  have hidx := idxP_at P l j 0 hb
  by_cases hlt : j < l.length
  ·have hd : decide ((j : Int) < (l.length : Int)) = true := by rw [decide_eq_true_eq]; omega
   have hml : j < (l.map phiF).length := by rw [List.length_map]; exact hlt
   have hel := hg l[j] (List.getElem_mem hlt)
   have hidx2 : idxP P l 0 = if P l[j] = true then (j : Int) else idxP P (l.drop (j + 1)) (j + 1) := by
    rw [hidx, List.drop_eq_getElem_cons hlt, idxP]; simp
   replace hb : True → _ := fun _ => hb
   repeat' first | refine ck_intro (by first | exact hel) ?_ ?_ | refine g3 @hd @hmu @hps ?_ | refine d3 @hd @hmu @hps ?_ | refine j3 @hd @hmu @hps (fun hg hgo => ?_) fun hg hgo => ?_ | refine ek_ret ?_ | refine ek_norm ?_ | refine ⟨by omega, ?_⟩ | rfl | trivial | intro _
   ·rw [hidx2, if_pos (by simpa using hg)]
   ·refine rd_norm [(0, .fv (.row 2 (l.map phiF))), (1, .fv (.fn g [] cs)), (7, iv l.length), (8, iv (j + 1 : Nat))] (sub_of ?_) (m - 1) (by omega) ⟨j + 1, by omega, fun i hi h1 => ?_, rfl⟩
    ·exact dn
    ·by_cases h2 : i = j
     ·subst h2; simpa using hg
     ·exact hb trivial i hi (by omega)
  ·have hd : decide ((j : Int) < (l.length : Int)) = false := by rw [decide_eq_false_iff_not]; omega
   have hidx2 : idxP P l 0 = -1 := by
    rw [hidx, List.drop_eq_nil_of_le (by omega)]; rfl
   repeat' first | refine g2 @hd @hidx2 ?_ | refine d2 @hd @hidx2 ?_ | refine j2 @hd @hidx2 (fun hg hgo => ?_) fun hg hgo => ?_ | refine ek_ret ?_ | refine ek_norm ?_ | refine ⟨by omega, ?_⟩ | rfl | trivial | intro _
theorem v_ContainsFunc_Phi (g : FuncId) (cs : List FV) (P : PhiD → Bool) (hmu : ∀ i, MU g i = 0) (hps : g ≠ 4294967295) (l : List PhiD) (hl : l.length < 4611686018427387904) (hg : ∀ x ∈ l, C2 CC g (.fv (phiF x) :: cs.map .fv) (bv (P x)) []) : C2 CC F_slices_ContainsFunc_impl_Phi [.fv (.row 2 (l.map phiF)), .fv (.fn g [] cs)] (bv (l.any P)) [] := by
 rw [← idxP_any P l]
 refine cw (keepF Tryz.f78) Tryz.f78 false ?_
 repeat' first | refine ck_intro (by first | exact v_IndexFunc_Phi g cs P hmu hps l hl hg) ?_ ?_ | refine g0 ?_ | refine d0 ?_ | refine j0 (fun hg hgo => ?_) fun hg hgo => ?_ | refine ek_ret ?_ | refine ek_norm ?_ | refine ⟨by omega, ?_⟩ | rfl | trivial | intro _
theorem v_IndexFunc_Ins (g : FuncId) (cs : List FV) (P : StepD → Bool) (hmu : ∀ i, MU g i = 0) (hps : g ≠ 4294967295) (l : List StepD) (hl : l.length < 4611686018427387904) (hg : ∀ x ∈ l, C2 CC g (.fv (stF x) :: cs.map .fv) (bv (P x)) []) : C2 CC F_slices_IndexFunc_impl_Ins [.fv (.row 5 (l.map stF)), .fv (.fn g [] cs)] (iv (idxP P l 0)) [] := by
 refine cw (keepF Tryz.f102) Tryz.f102 false ?_
 repeat' first | refine g0 ?_ | refine d0 ?_ | refine j0 (fun hg hgo => ?_) fun hg hgo => ?_ | refine ek_ret ?_ | refine ek_norm ?_ | refine ⟨by omega, ?_⟩ | rfl | trivial | intro _
 refine pw_loop (fun m st => ∃ j : Nat, j + m = l.length ∧ (∀ i (h : i < l.length), i < j → P l[i] = false) ∧ st = [(0, .fv (.row 5 (l.map stF))), (1, .fv (.fn g [] cs)), (7, iv l.length), (8, iv j)]) l.length [(0, .fv (.row 5 (l.map stF))), (1, .fv (.fn g [] cs)), (7, iv l.length), (8, iv (0 : Nat))] (sub_of ?_) ⟨0, by omega, fun i _ hi => by omega, rfl⟩ ?_
 ·exact dn
 ·rintro m st ⟨j, hj, hb, rfl⟩
  have hidx := idxP_at P l j 0 hb
  by_cases hlt : j < l.length
  ·have hd : decide ((j : Int) < (l.length : Int)) = true := by rw [decide_eq_true_eq]; omega
   have hml : j < (l.map stF).length := by rw [List.length_map]; exact hlt
   have hel := hg l[j] (List.getElem_mem hlt)
   have hidx2 : idxP P l 0 = if P l[j] = true then (j : Int) else idxP P (l.drop (j + 1)) (j + 1) := by
    rw [hidx, List.drop_eq_getElem_cons hlt, idxP]; simp
   replace hb : True → _ := fun _ => hb
   repeat' first | refine ck_intro (by first | exact hel) ?_ ?_ | refine g3 @hd @hmu @hps ?_ | refine d3 @hd @hmu @hps ?_ | refine j3 @hd @hmu @hps (fun hg hgo => ?_) fun hg hgo => ?_ | refine ek_ret ?_ | refine ek_norm ?_ | refine ⟨by omega, ?_⟩ | rfl | trivial | intro _
   ·rw [hidx2, if_pos (by simpa using hg)]
   ·refine rd_norm [(0, .fv (.row 5 (l.map stF))), (1, .fv (.fn g [] cs)), (7, iv l.length), (8, iv (j + 1 : Nat))] (sub_of ?_) (m - 1) (by omega) ⟨j + 1, by omega, fun i hi h1 => ?_, rfl⟩
    ·exact dn
    ·by_cases h2 : i = j
     ·subst h2; simpa using hg
     ·exact hb trivial i hi (by omega)
  ·have hd : decide ((j : Int) < (l.length : Int)) = false := by rw [decide_eq_false_iff_not]; omega
   have hidx2 : idxP P l 0 = -1 := by
    rw [hidx, List.drop_eq_nil_of_le (by omega)]; rfl
   repeat' first | refine g2 @hd @hidx2 ?_ | refine d2 @hd @hidx2 ?_ | refine j2 @hd @hidx2 (fun hg hgo => ?_) fun hg hgo => ?_ | refine ek_ret ?_ | refine ek_norm ?_ | refine ⟨by omega, ?_⟩ | rfl | trivial | intro _
theorem v_ContainsFunc_Ins (g : FuncId) (cs : List FV) (P : StepD → Bool) (hmu : ∀ i, MU g i = 0) (hps : g ≠ 4294967295) (l : List StepD) (hl : l.length < 4611686018427387904) (hg : ∀ x ∈ l, C2 CC g (.fv (stF x) :: cs.map .fv) (bv (P x)) []) : C2 CC F_slices_ContainsFunc_impl_Ins [.fv (.row 5 (l.map stF)), .fv (.fn g [] cs)] (bv (l.any P)) [] := by
 rw [← idxP_any P l]
 refine cw (keepF Tryz.f81) Tryz.f81 false ?_
 repeat' first | refine ck_intro (by first | exact v_IndexFunc_Ins g cs P hmu hps l hl hg) ?_ ?_ | refine g0 ?_ | refine d0 ?_ | refine j0 (fun hg hgo => ?_) fun hg hgo => ?_ | refine ek_ret ?_ | refine ek_norm ?_ | refine ⟨by omega, ?_⟩ | rfl | trivial | intro _
theorem v_IndexFunc_Block (g : FuncId) (cs : List FV) (P : BlockD → Bool) (hmu : ∀ i, MU g i = 0) (hps : g ≠ 4294967295) (l : List BlockD) (hl : l.length < 4611686018427387904) (hg : ∀ x ∈ l, C2 CC g (.fv (blockF x) :: cs.map .fv) (bv (P x)) []) : C2 CC F_slices_IndexFunc_impl_Block [.fv (.row 6 (l.map blockF)), .fv (.fn g [] cs)] (iv (idxP P l 0)) [] := by
 refine cw (keepF Tryz.f84) Tryz.f84 false ?_
 repeat' first | refine g0 ?_ | refine d0 ?_ | refine j0 (fun hg hgo => ?_) fun hg hgo => ?_ | refine ek_ret ?_ | refine ek_norm ?_ | refine ⟨by omega, ?_⟩ | rfl | trivial | intro _
 refine pw_loop (fun m st => ∃ j : Nat, j + m = l.length ∧ (∀ i (h : i < l.length), i < j → P l[i] = false) ∧ st = [(0, .fv (.row 6 (l.map blockF))), (1, .fv (.fn g [] cs)), (7, iv l.length), (8, iv j)]) l.length [(0, .fv (.row 6 (l.map blockF))), (1, .fv (.fn g [] cs)), (7, iv l.length), (8, iv (0 : Nat))] (sub_of ?_) ⟨0, by omega, fun i _ hi => by omega, rfl⟩ ?_
 ·exact dn
 ·rintro m st ⟨j, hj, hb, rfl⟩
  have hidx := idxP_at P l j 0 hb
  by_cases hlt : j < l.length
  ·have hd : decide ((j : Int) < (l.length : Int)) = true := by rw [decide_eq_true_eq]; omega
   have hml : j < (l.map blockF).length := by rw [List.length_map]; exact hlt
   have hel := hg l[j] (List.getElem_mem hlt)
   have hidx2 : idxP P l 0 = if P l[j] = true then (j : Int) else idxP P (l.drop (j + 1)) (j + 1) := by
    rw [hidx, List.drop_eq_getElem_cons hlt, idxP]; simp
   replace hb : True → _ := fun _ => hb
   repeat' first | refine ck_intro (by first | exact hel) ?_ ?_ | refine g3 @hd @hmu @hps ?_ | refine d3 @hd @hmu @hps ?_ | refine j3 @hd @hmu @hps (fun hg hgo => ?_) fun hg hgo => ?_ | refine ek_ret ?_ | refine ek_norm ?_ | refine ⟨by omega, ?_⟩ | rfl | trivial | intro _
   ·rw [hidx2, if_pos (by simpa using hg)]
   ·refine rd_norm [(0, .fv (.row 6 (l.map blockF))), (1, .fv (.fn g [] cs)), (7, iv l.length), (8, iv (j + 1 : Nat))] (sub_of ?_) (m - 1) (by omega) ⟨j + 1, by omega, fun i hi h1 => ?_, rfl⟩
    ·exact dn
    ·by_cases h2 : i = j
     ·subst h2; simpa using hg
     ·exact hb trivial i hi (by omega)
  ·have hd : decide ((j : Int) < (l.length : Int)) = false := by rw [decide_eq_false_iff_not]; omega
   have hidx2 : idxP P l 0 = -1 := by
    rw [hidx, List.drop_eq_nil_of_le (by omega)]; rfl
   repeat' first | refine g2 @hd @hidx2 ?_ | refine d2 @hd @hidx2 ?_ | refine j2 @hd @hidx2 (fun hg hgo => ?_) fun hg hgo => ?_ | refine ek_ret ?_ | refine ek_norm ?_ | refine ⟨by omega, ?_⟩ | rfl | trivial | intro _
theorem v_ContainsFunc_Block (g : FuncId) (cs : List FV) (P : BlockD → Bool) (hmu : ∀ i, MU g i = 0) (hps : g ≠ 4294967295) (l : List BlockD) (hl : l.length < 4611686018427387904) (hg : ∀ x ∈ l, C2 CC g (.fv (blockF x) :: cs.map .fv) (bv (P x)) []) : C2 CC F_slices_ContainsFunc_impl_Block [.fv (.row 6 (l.map blockF)), .fv (.fn g [] cs)] (bv (l.any P)) [] := by
 rw [← idxP_any P l]
 refine cw (keepF Tryz.f53) Tryz.f53 false ?_
 repeat' first | refine ck_intro (by first | exact v_IndexFunc_Block g cs P hmu hps l hl hg) ?_ ?_ | refine g0 ?_ | refine d0 ?_ | refine j0 (fun hg hgo => ?_) fun hg hgo => ?_ | refine ek_ret ?_ | refine ek_norm ?_ | refine ⟨by omega, ?_⟩ | rfl | trivial | intro _
def partB (n : Int) (had : Bool) (values : Int) : Bool := if had = true then valB n values else decide (n = 0)
theorem v_partOk (n : Int) (had : Bool) (values : Int) : C2 CC F_impl_partOk [iv n, bv had, iv values] (bv (partB n had values)) [] := by
 refine cw (keepF Tryz.f98) Tryz.f98 false ?_
 repeat' first | refine g0 ?_ | refine d0 ?_ | refine j0 (fun hg hgo => ?_) fun hg hgo => ?_ | refine ek_ret ?_ | refine ek_norm ?_ | refine ⟨by omega, ?_⟩ | rfl | trivial | intro _
 all_goals first | rfl | (simp_all [beqD, partB, valB]; done) | ((try simp only [partB, valB]); (repeat' split) <;> first | omega | (simp_all [beqD]; done) | (simp_all [beqD]; omega)) | (simp_all [beqD, partB, valB]; (repeat' split) <;> first | rfl | omega | (simp_all; done))
theorem insB_eq (x : StepD) (values : Int) : insB x values = (formK x.op && partB x.r (makesB x.op) values && partB x.a (hasA x.op) values && partB x.b (hasBb x.op) values && (decide (x.n = 0) || hasNb x.op)) := by
 obtain ⟨op, r, a, b, n⟩ := x
 cases hw : wok op with
 | true =>
  have hr : 1 ≤ op ∧ op ≤ 10 := by unfold wok at hw; simpa using hw
  have e20 : ¬ op = 20 := by omega
  have e21 : ¬ op = 21 := by omega
  have e22 : ¬ op = 22 := by omega
  have e23 : ¬ op = 23 := by omega
  have e24 : ¬ op = 24 := by omega
  have e25 : ¬ op = 25 := by omega
  have b20 : (op == 20) = false := by simp [e20]
  simp [b20, insB, hw, formK, partB, makesB, hasA, hasBb, hasNb, e20, e21, e22, e23, e24, e25]
 | false =>
  by_cases h20 : op = 20
  ·subst h20; simp [insB, hw, formK, partB, makesB, hasA, hasBb, hasNb]
  by_cases h21 : op = 21
  ·subst h21; simp [insB, hw, formK, partB, makesB, hasA, hasBb, hasNb]
  by_cases h22 : op = 22
  ·subst h22; simp [insB, hw, formK, partB, makesB, hasA, hasBb, hasNb]; rw [Bool.eq_iff_iff]; simp; intros; constructor <;> (intro h; simp_all)
  by_cases h23 : op = 23
  ·subst h23; simp [insB, hw, formK, partB, makesB, hasA, hasBb, hasNb]; rw [Bool.eq_iff_iff]; simp; intros; constructor <;> (intro h; simp_all)
  by_cases h24 : op = 24
  ·subst h24; simp [insB, hw, formK, partB, makesB, hasA, hasBb, hasNb]
  by_cases h25 : op = 25
  ·subst h25; simp [insB, hw, formK, partB, makesB, hasA, hasBb, hasNb]
  simp [insB, hw, formK, h20, h21, h22, h23, h24, h25]
theorem v_insOk (x : StepD) (values : Int) : C2 CC F_impl_insOk [sF x, iv values] (bv (insB x values)) [] := by
 rw [insB_eq]
 obtain ⟨op, r, a, b, n⟩ := x
 have cf := v_formOf op
 have cd := v_partOk r (makesB op) values
 have ca := v_partOk a (hasA op) values
 have cb := v_partOk b (hasBb op) values
 have qa := v_hasA op
 have qb := v_hasB op
 have qd := v_hasD op
 have qn := v_hasN op
 generalize formB op = fb at cf
 generalize formK op = p1 at cf
 generalize partB r (makesB op) values = p2 at cd
 generalize partB a (hasA op) values = p3 at ca
 generalize partB b (hasBb op) values = p4 at cb
 generalize hasNb op = p6 at qn
 generalize hasA op = ha at ca qa
 generalize hasBb op = hb at cb qb
 generalize makesB op = hm at cd qd
 simp only [← beqD]
 cases p1 with
 | false => refine cw (keepF Tryz.f83) Tryz.f83 false ?_
            repeat' first | refine ck_intro (by first | exact cf) ?_ ?_ | refine pdx 13 [0, 1, 3, 7, 3, 19, 51, 3, 255, 511, 1023, 2047, 4095, 2047, 10239, 26623, 2047, 131071, 262143, 524287, 1048575, 2097151, 1048575, 5242879, 13631487, 1048575, 67108863, 134217727, 268435455, 536870911, 1073741823, 2147483647, 4294967295, 8589934591, 17179869183, 34359738367, 68719476735, 137438953471, 274877906943] [0, 0, 0, 2, 0, 1, 6, 0, 5, 0, 0, 0, 2, 0, 1, 6, 0, 5, 0, 0, 0, 2, 0, 1, 6, 0, 5, 0, 0, 0, 1, 0, 0, 0, 1, 5, 0, 0, 0] ?_ | refine g0 ?_ | refine d0 ?_ | refine j0 (fun hg hgo => ?_) fun hg hgo => ?_ | refine ek_ret ?_ | refine ek_norm ?_ | refine ⟨by omega, ?_⟩ | rfl | trivial | intro _
 | true =>
  cases p2 with
  | false => refine cw (keepF Tryz.f83) Tryz.f83 false ?_
             repeat' first | refine ck_intro (by first | exact cf | exact qd | exact cd) ?_ ?_ | refine pdx 13 [0, 1, 3, 7, 3, 19, 51, 3, 255, 511, 1023, 2047, 4095, 2047, 10239, 26623, 2047, 131071, 262143, 524287, 1048575, 2097151, 1048575, 5242879, 13631487, 1048575, 67108863, 134217727, 268435455, 536870911, 1073741823, 2147483647, 4294967295, 8589934591, 17179869183, 34359738367, 68719476735, 137438953471, 274877906943] [0, 0, 0, 2, 0, 1, 6, 0, 5, 0, 0, 0, 2, 0, 1, 6, 0, 5, 0, 0, 0, 2, 0, 1, 6, 0, 5, 0, 0, 0, 1, 0, 0, 0, 1, 5, 0, 0, 0] ?_ | refine g0 ?_ | refine d0 ?_ | refine j0 (fun hg hgo => ?_) fun hg hgo => ?_ | refine ek_ret ?_ | refine ek_norm ?_ | refine ⟨by omega, ?_⟩ | rfl | trivial | intro _
  | true =>
   cases p3 with
   | false => refine cw (keepF Tryz.f83) Tryz.f83 false ?_
              repeat' first | refine ck_intro (by first | exact cf | exact qd | exact qa | exact cd | exact ca) ?_ ?_ | refine pdx 13 [0, 1, 3, 7, 3, 19, 51, 3, 255, 511, 1023, 2047, 4095, 2047, 10239, 26623, 2047, 131071, 262143, 524287, 1048575, 2097151, 1048575, 5242879, 13631487, 1048575, 67108863, 134217727, 268435455, 536870911, 1073741823, 2147483647, 4294967295, 8589934591, 17179869183, 34359738367, 68719476735, 137438953471, 274877906943] [0, 0, 0, 2, 0, 1, 6, 0, 5, 0, 0, 0, 2, 0, 1, 6, 0, 5, 0, 0, 0, 2, 0, 1, 6, 0, 5, 0, 0, 0, 1, 0, 0, 0, 1, 5, 0, 0, 0] ?_ | refine g0 ?_ | refine d0 ?_ | refine j0 (fun hg hgo => ?_) fun hg hgo => ?_ | refine ek_ret ?_ | refine ek_norm ?_ | refine ⟨by omega, ?_⟩ | rfl | trivial | intro _
   | true =>
    cases p4 with
    | false => refine cw (keepF Tryz.f83) Tryz.f83 false ?_
               repeat' first | refine ck_intro (by first | exact cf | exact qd | exact qa | exact qb | exact cd | exact ca | exact cb) ?_ ?_ | refine pdx 13 [0, 1, 3, 7, 3, 19, 51, 3, 255, 511, 1023, 2047, 4095, 2047, 10239, 26623, 2047, 131071, 262143, 524287, 1048575, 2097151, 1048575, 5242879, 13631487, 1048575, 67108863, 134217727, 268435455, 536870911, 1073741823, 2147483647, 4294967295, 8589934591, 17179869183, 34359738367, 68719476735, 137438953471, 274877906943] [0, 0, 0, 2, 0, 1, 6, 0, 5, 0, 0, 0, 2, 0, 1, 6, 0, 5, 0, 0, 0, 2, 0, 1, 6, 0, 5, 0, 0, 0, 1, 0, 0, 0, 1, 5, 0, 0, 0] ?_ | refine g0 ?_ | refine d0 ?_ | refine j0 (fun hg hgo => ?_) fun hg hgo => ?_ | refine ek_ret ?_ | refine ek_norm ?_ | refine ⟨by omega, ?_⟩ | rfl | trivial | intro _
    | true =>
     cases h5 : (n == 0) with
     | true => refine cw (keepF Tryz.f83) Tryz.f83 false ?_
               repeat' first | refine ck_intro (by first | exact cf | exact qd | exact qa | exact qb | exact cd | exact ca | exact cb) ?_ ?_ | refine pdx 13 [0, 1, 3, 7, 3, 19, 51, 3, 255, 511, 1023, 2047, 4095, 2047, 10239, 26623, 2047, 131071, 262143, 524287, 1048575, 2097151, 1048575, 5242879, 13631487, 1048575, 67108863, 134217727, 268435455, 536870911, 1073741823, 2147483647, 4294967295, 8589934591, 17179869183, 34359738367, 68719476735, 137438953471, 274877906943] [0, 0, 0, 2, 0, 1, 6, 0, 5, 0, 0, 0, 2, 0, 1, 6, 0, 5, 0, 0, 0, 2, 0, 1, 6, 0, 5, 0, 0, 0, 1, 0, 0, 0, 1, 5, 0, 0, 0] ?_ | refine g1 @h5 ?_ | refine d1 @h5 ?_ | refine j1 @h5 (fun hg hgo => ?_) fun hg hgo => ?_ | refine ek_ret ?_ | refine ek_norm ?_ | refine ⟨by omega, ?_⟩ | rfl | trivial | intro _
     | false => refine cw (keepF Tryz.f83) Tryz.f83 false ?_
                repeat' first | refine ck_intro (by first | exact cf | exact qd | exact qa | exact qb | exact qn | exact cd | exact ca | exact cb) ?_ ?_ | refine pdx 13 [0, 1, 3, 7, 3, 19, 51, 3, 255, 511, 1023, 2047, 4095, 2047, 10239, 26623, 2047, 131071, 262143, 524287, 1048575, 2097151, 1048575, 5242879, 13631487, 1048575, 67108863, 134217727, 268435455, 536870911, 1073741823, 2147483647, 4294967295, 8589934591, 17179869183, 34359738367, 68719476735, 137438953471, 274877906943] [0, 0, 0, 2, 0, 1, 6, 0, 5, 0, 0, 0, 2, 0, 1, 6, 0, 5, 0, 0, 0, 2, 0, 1, 6, 0, 5, 0, 0, 0, 1, 0, 0, 0, 1, 5, 0, 0, 0] ?_ | refine g1 @h5 ?_ | refine d1 @h5 ?_ | refine j1 @h5 (fun hg hgo => ?_) fun hg hgo => ?_ | refine ek_ret ?_ | refine ek_norm ?_ | refine ⟨by omega, ?_⟩ | rfl | trivial | intro _
theorem v_termOk (x : TermD) (blocks values : Int) (hb : 0 ≤ blocks ∧ blocks ≤ 1000000000) : C2 CC F_impl_termOk [.fv (termF x), iv blocks, iv values] (bv (termB x blocks values)) [] := by
 obtain ⟨k, a, to, els⟩ := x
 have hp : ∀ n v, partB n true v = valB n v := fun n v => by unfold partB; simp
 refine cw (keepF Tryz.f77) Tryz.f77 false ?_
 repeat' first | refine ck_intro (by first | exact v_partOk _ _ _ | exact v_in _ _ _) ?_ ?_ | refine g1 @hp ?_ | refine d1 @hp ?_ | refine j1 @hp (fun hg hgo => ?_) fun hg hgo => ?_ | refine ek_ret ?_ | refine ek_norm ?_ | refine ⟨by omega, ?_⟩ | rfl | trivial | intro _
 all_goals first | rfl | (simp_all [beqD, termB, rgB, beqT, beqF]; done) | ((try simp only [termB, rgB, beqT, beqF]); (repeat' split) <;> first | omega | (simp_all [beqD]; done) | (simp_all [beqD]; omega)) | (simp_all [beqD, termB, rgB, beqT, beqF]; (repeat' split) <;> first | rfl | omega | (simp_all; done))
theorem v_phiOk_1 (x a : ArmD) : C2 CC F_impl_phiOk_1 [.fv (armF x), .fv (.fp (armF a))] (bv (decide (x.fr = a.fr))) [] := by
 obtain ⟨f, v⟩ := x
 obtain ⟨f', v'⟩ := a
 refine cw (keepF Tryz.f101) Tryz.f101 false ?_
 repeat' first | refine g0 ?_ | refine d0 ?_ | refine j0 (fun hg hgo => ?_) fun hg hgo => ?_ | refine ek_ret ?_ | refine ek_norm ?_ | refine ⟨by omega, ?_⟩ | rfl | trivial | intro _
 all_goals first | rfl | (simp_all [beqD, beqD]; done) | ((try simp only [beqD]); (repeat' split) <;> first | omega | (simp_all [beqD]; done) | (simp_all [beqD]; omega)) | (simp_all [beqD, beqD]; (repeat' split) <;> first | rfl | omega | (simp_all; done))
theorem armB_any (pre : List ArmD) (a : ArmD) (blocks values : Int) : armB pre a blocks values = (rgB a.fr 0 (blocks - 1) && valB a.v values && !(pre.any fun x => decide (x.fr = a.fr))) := by
 unfold armB
 rw [List.not_any_eq_all_not]
theorem v_phiOk (x : PhiD) (blocks values : Int) (hb : 0 ≤ blocks ∧ blocks ≤ 1000000000) (hx : x.ok) : C2 CC F_impl_phiOk [.fv (phiF x), iv blocks, iv values] (bv (phiB x blocks values)) [] := by
 obtain ⟨d, arms⟩ := x
 replace hx : arms.length < 1073741824 := hx
 have hpt : ∀ n v, partB n true v = valB n v := fun n v => by unfold partB; simp
 unfold phiB
 refine cw (keepF Tryz.f80) Tryz.f80 false ?_
 repeat' first | refine g0 ?_ | refine d0 ?_ | refine j0 (fun hg hgo => ?_) fun hg hgo => ?_ | refine ek_ret ?_ | refine ek_norm ?_ | refine ⟨by omega, ?_⟩ | rfl | trivial | intro _
 refine pw_loop (fun m st => ∃ j : Nat, j + m = arms.length ∧ (∀ i (h : i < arms.length), i < j → armB ([] ++ arms.take i) arms[i] blocks values = true) ∧ st = [(1, iv blocks), (2, iv values), (3, .box (.fv (phiF ⟨d, arms⟩))), (10, .fv (.row 2 (arms.map armF))), (11, iv arms.length), (12, iv j)]) arms.length [(1, iv blocks), (2, iv values), (3, .box (.fv (phiF ⟨d, arms⟩))), (10, .fv (.row 2 (arms.map armF))), (11, iv arms.length), (12, iv (0 : Nat))] (sub_of ?_) ⟨0, by omega, fun i _ hi => by omega, rfl⟩ ?_
 ·exact dn
 ·rintro m st ⟨j, hj, hb2, rfl⟩
  have hsp := armsB_split blocks values arms [] j hb2
  by_cases hlt : j < arms.length
  ·have hd : decide ((j : Int) < (arms.length : Int)) = true := by rw [decide_eq_true_eq]; omega
   have hml : j < (arms.map armF).length := by rw [List.length_map]; exact hlt
   have hsl : List.take j (arms.map armF) = (arms.take j).map armF := by rw [List.map_take]
   have hle : j ≤ arms.length := by omega
   have hj0 : (0 : Int) ≤ (j : Int) := by omega
   rw [List.nil_append, List.drop_eq_getElem_cons hlt, armsB] at hsp
   rw [hsp]
   replace hb2 : True → _ := fun _ => hb2
   have hcf := v_ContainsFunc_Arm F_impl_phiOk_1 [.fp (armF arms[j])] (fun x => decide (x.fr = arms[j].fr)) (fun i => rfl) (by decide) (arms.take j) (by rw [List.length_take]; omega) (fun x _ => v_phiOk_1 x arms[j])
   repeat' first | refine ck_intro (by first | exact v_partOk _ _ _ | exact v_in _ _ _ | exact hcf) ?_ ?_ | refine g8 @hd @hpt @hsl @hle @hj0 @Nat.zero_le @List.drop_zero.{0} @Nat.sub_zero ?_ | refine d8 @hd @hpt @hsl @hle @hj0 @Nat.zero_le @List.drop_zero.{0} @Nat.sub_zero ?_ | refine j8 @hd @hpt @hsl @hle @hj0 @Nat.zero_le @List.drop_zero.{0} @Nat.sub_zero (fun hg hgo => ?_) fun hg hgo => ?_ | refine ek_ret ?_ | refine ek_norm ?_ | refine ⟨by omega, ?_⟩ | rfl | trivial | intro _
   ·have : armB (arms.take j) arms[j] blocks values = false := by
     unfold armB rgB
     rcases hgo with h | h
     ·simp [h]
     ·rw [decide_eq_false h]; simp
    rw [this, Bool.false_and, Bool.and_false]
   ·have : armB (arms.take j) arms[j] blocks values = false := by unfold armB; simp [hgo]
    rw [this, Bool.false_and, Bool.and_false]
   ·have : armB (arms.take j) arms[j] blocks values = false := by
     rw [armB_any, show ((arms.take j).any fun x => decide (x.fr = arms[j].fr)) = true by assumption]; simp
    rw [this, Bool.false_and, Bool.and_false]
   ·have hq : arms[j].fr ≥ 0 ∧ arms[j].fr ≤ blocks - 1 := by assumption
    have harm : armB (arms.take j) arms[j] blocks values = true := by
     rw [armB_any, show ((arms.take j).any fun x => decide (x.fr = arms[j].fr)) = false by assumption, show valB arms[j].v values = true by assumption]
     unfold rgB
     rw [decide_eq_true hq.1, decide_eq_true hq.2]; rfl
    refine rd_norm [(1, iv blocks), (2, iv values), (3, .box (.fv (phiF ⟨d, arms⟩))), (10, .fv (.row 2 (arms.map armF))), (11, iv arms.length), (12, iv (j + 1 : Nat))] (sub_of ?_) (m - 1) (by omega) ⟨j + 1, by omega, fun i hi h1 => ?_, rfl⟩
    ·exact dn
    ·by_cases h2 : i = j
     ·subst h2; exact harm
     ·exact hb2 trivial i hi (by omega)
  ·have hd : decide ((j : Int) < (arms.length : Int)) = false := by rw [decide_eq_false_iff_not]; omega
   rw [hsp, List.drop_eq_nil_of_le (by omega), armsB]
   repeat' first | refine ck_intro (by first | exact v_partOk _ _ _) ?_ ?_ | refine g2 @hd @hpt ?_ | refine d2 @hd @hpt ?_ | refine j2 @hd @hpt (fun hg hgo => ?_) fun hg hgo => ?_ | refine ek_ret ?_ | refine ek_norm ?_ | refine ⟨by omega, ?_⟩ | rfl | trivial | intro _
   all_goals first | (simp; done) | (rename_i hv _; simp [hv]; done) | (simp_all; done) | (simp_all; omega)
theorem v_ShapeOk_1_1 (p : PhiD) (n : Int) (f : FnD) (hn : 0 ≤ n ∧ n ≤ 1000000000) (hp : p.ok) : C2 CC F_impl_ShapeOk_1_1 [.fv (phiF p), .fv (.fp (.int .i64 n)), .fv (.fp (fnF f))] (bv (!phiB p n f.values)) [] := by
 have h1 := v_phiOk p n f.values hn hp
 refine cw (keepF Tryz.f79) Tryz.f79 false ?_
 repeat' first | refine ck_intro (by first | exact h1) ?_ ?_ | refine g0 ?_ | refine d0 ?_ | refine j0 (fun hg hgo => ?_) fun hg hgo => ?_ | refine ek_ret ?_ | refine ek_norm ?_ | refine ⟨by omega, ?_⟩ | rfl | trivial | intro _
theorem v_ShapeOk_1_2 (x : StepD) (f : FnD) : C2 CC F_impl_ShapeOk_1_2 [sF x, .fv (.fp (fnF f))] (bv (!insB x f.values)) [] := by
 have h1 := v_insOk x f.values
 refine cw (keepF Tryz.f82) Tryz.f82 false ?_
 repeat' first | refine ck_intro (by first | exact h1) ?_ ?_ | refine g0 ?_ | refine d0 ?_ | refine j0 (fun hg hgo => ?_) fun hg hgo => ?_ | refine ek_ret ?_ | refine ek_norm ?_ | refine ⟨by omega, ?_⟩ | rfl | trivial | intro _
theorem v_ShapeOk_1 (b : BlockD) (n : Int) (f : FnD) (hn : 0 ≤ n ∧ n ≤ 1000000000) (hb : b.ok) : C2 CC F_impl_ShapeOk_1 [.fv (blockF b), .fv (.fp (.int .i64 n)), .fv (.fp (fnF f))] (bv (!blockB b n f.values)) [] := by
 have h1 := v_termOk b.term n f.values hn
 have hc1 := v_ContainsFunc_Phi F_impl_ShapeOk_1_1 [.fp (.int .i64 n), .fp (fnF f)] (fun p => !phiB p n f.values) (fun i => rfl) (by decide) b.phis (by have := hb.1; omega) (fun p hp => v_ShapeOk_1_1 p n f hn (hb.2.1 p hp))
 have hc2 := v_ContainsFunc_Ins F_impl_ShapeOk_1_2 [.fp (fnF f)] (fun x => !insB x f.values) (fun i => rfl) (by decide) b.list (by have := hb.2.2; omega) (fun x _ => v_ShapeOk_1_2 x f)
 have e1 : (b.phis.any fun p => !phiB p n f.values) = !(b.phis.all fun p => phiB p n f.values) := by rw [List.not_all_eq_any_not]
 have e2 : (b.list.any fun x => !insB x f.values) = !(b.list.all fun x => insB x f.values) := by rw [List.not_all_eq_any_not]
 rw [e1] at hc1; rw [e2] at hc2
 unfold blockB
 have l1 : decide (b.phis.length ≤ 24) = !decide ((b.phis.length : Int) > 24) := by rw [Bool.eq_iff_iff]; simp; omega
 have l2 : decide (b.list.length ≤ 24) = !decide ((b.list.length : Int) > 24) := by rw [Bool.eq_iff_iff]; simp; omega
 rw [l1, l2]
 refine cw (keepF Tryz.f76) Tryz.f76 false ?_
 repeat' first | refine ck_intro (by first | exact h1 | exact hc1 | exact hc2) ?_ ?_ | refine g0 ?_ | refine d0 ?_ | refine j0 (fun hg hgo => ?_) fun hg hgo => ?_ | refine ek_ret ?_ | refine ek_norm ?_ | refine ⟨by omega, ?_⟩ | rfl | trivial | intro _
 all_goals first | rfl | (simp_all; done) | (simp_all; intros; omega)
theorem v_ShapeOk (f : FnD) (hf : f.ok) : C2 CC F_impl_ShapeOk [.fv (fnF f)] (bv (shapeB f)) [] := by
 have hl : f.blocks.length < 1073741824 := hf.1
 have hc1 := v_ContainsFunc_Block F_impl_ShapeOk_1 [.fp (.int .i64 f.blocks.length), .fp (fnF f)] (fun b => !blockB b f.blocks.length f.values) (fun i => rfl) (by decide) f.blocks (by omega)
 have e1 : (f.blocks.any fun b => !blockB b f.blocks.length f.values) = !(f.blocks.all fun b => blockB b f.blocks.length f.values) := by rw [List.not_all_eq_any_not]
 rw [e1] at hc1
 by_cases hn : f.blocks.length ≤ 16
 ·replace hc1 := hc1 (fun b hb => v_ShapeOk_1 b f.blocks.length f ⟨by omega, by omega⟩ (hf.2 b hb))
  unfold shapeB rgB
  refine cw (keepF Tryz.f52) Tryz.f52 false ?_
  repeat' first | refine ck_intro (by first | exact v_in _ _ _ | exact hc1) ?_ ?_ | refine g0 ?_ | refine d0 ?_ | refine j0 (fun hg hgo => ?_) fun hg hgo => ?_ | refine ek_ret ?_ | refine ek_norm ?_ | refine ⟨by omega, ?_⟩ | rfl | trivial | intro _
  all_goals first | rfl | (simp_all; done) | (simp_all; intros; omega)
 ·have hd : decide ((f.blocks.length : Int) ≤ 16) = false := by rw [decide_eq_false_iff_not]; omega
  unfold shapeB rgB
  refine cw (keepF Tryz.f52) Tryz.f52 false ?_
  repeat' first | refine ck_intro (by first | exact v_in _ _ _) ?_ ?_ | refine g1 @hd ?_ | refine d1 @hd ?_ | refine j1 @hd (fun hg hgo => ?_) fun hg hgo => ?_ | refine ek_ret ?_ | refine ek_norm ?_ | refine ⟨by omega, ?_⟩ | rfl | trivial | intro _
  all_goals first | rfl | (simp_all; done) | (simp_all; intros; omega)
def plainB (f : FnD) : Bool := shapeB f && f.blocks.all fun b => !decide ((b.phis.length : Int) > 0)
theorem v_PlainOk_1 (b : BlockD) : C2 CC F_impl_PlainOk_1 [.fv (blockF b)] (bv (decide ((b.phis.length : Int) > 0))) [] := by
 refine cw (keepF Tryz.f54) Tryz.f54 false ?_
 repeat' first | refine g0 ?_ | refine d0 ?_ | refine j0 (fun hg hgo => ?_) fun hg hgo => ?_ | refine ek_ret ?_ | refine ek_norm ?_ | refine ⟨by omega, ?_⟩ | rfl | trivial | intro _
theorem v_PlainOk (f : FnD) (hf : f.ok) : C2 CC F_impl_PlainOk [.fv (fnF f)] (bv (plainB f)) [] := by
 have h1 := v_ShapeOk f hf
 have hl : f.blocks.length < 1073741824 := hf.1
 have hc1 := v_ContainsFunc_Block F_impl_PlainOk_1 [] (fun b => decide ((b.phis.length : Int) > 0)) (fun i => rfl) (by decide) f.blocks (by omega) (fun b _ => v_PlainOk_1 b)
 have e1 : (f.blocks.any fun b => decide ((b.phis.length : Int) > 0)) = !(f.blocks.all fun b => !decide ((b.phis.length : Int) > 0)) := by rw [List.not_all_eq_any_not]; simp
 rw [e1] at hc1
 unfold plainB
 refine cw (keepF Tryz.f32) Tryz.f32 false ?_
 repeat' first | refine ck_intro (by first | exact h1 | exact hc1) ?_ ?_ | refine g0 ?_ | refine d0 ?_ | refine j0 (fun hg hgo => ?_) fun hg hgo => ?_ | refine ek_ret ?_ | refine ek_norm ?_ | refine ⟨by omega, ?_⟩ | rfl | trivial | intro _
 all_goals first | rfl | (simp_all; done)
theorem v_PlainOk_spec (f : FnD) (hf : f.ok) : C2 CC F_spec_PlainOk [.fv (fnF f)] (bv (plainB f)) [] := by
 have h1 := v_ShapeOk_spec f hf
 have hl : f.blocks.length < 1073741824 := hf.1
 unfold plainB
 refine cw (keepF Tryz.f27) Tryz.f27 false ?_
 repeat' first | refine ck_intro (by first | exact h1) ?_ ?_ | refine g0 ?_ | refine d0 ?_ | refine j0 (fun hg hgo => ?_) fun hg hgo => ?_ | refine ek_ret ?_ | refine ek_norm ?_ | refine ⟨by omega, ?_⟩ | rfl | trivial | intro _
 ·rw [show shapeB f = false by assumption]; rfl
 ·rw [show shapeB f = true by assumption, Bool.true_and]
  refine pw_loop (fun m st => ∃ j : Nat, j + m = f.blocks.length ∧ (f.blocks.take j).all (fun b => !decide ((b.phis.length : Int) > 0)) = true ∧ st = [(1, .box (.fv (fnF f))), (3, iv j)]) f.blocks.length [(1, .box (.fv (fnF f))), (3, iv (0 : Nat))] (sub_of ?_) ⟨0, by omega, rfl, rfl⟩ ?_
  ·exact dn
  ·rintro m st ⟨j, hj, hb2, rfl⟩
   by_cases hlt : j < f.blocks.length
   ·have hd : decide ((j : Int) < (f.blocks.length : Int)) = true := by rw [decide_eq_true_eq]; omega
    have hml : j < (f.blocks.map blockF).length := by rw [List.length_map]; exact hlt
    repeat' first | refine g1 @hd ?_ | refine d1 @hd ?_ | refine j1 @hd (fun hg hgo => ?_) fun hg hgo => ?_ | refine ek_ret ?_ | refine ek_norm ?_ | refine ⟨by omega, ?_⟩ | rfl | trivial | intro _
    ·rw [all_bad (p := fun b : BlockD => !decide ((b.phis.length : Int) > 0)) hlt (by simp only [Bool.not_eq_false']; exact hg)]
    ·refine rd_norm [(1, .box (.fv (fnF f))), (3, iv (j + 1 : Nat))] (sub_of ?_) (m - 1) (by omega) ⟨j + 1, by omega, all_step (p := fun b : BlockD => !decide ((b.phis.length : Int) > 0)) hb2 hlt (by simp only [Bool.not_eq_true']; exact hg), rfl⟩
     exact dn
   ·have hd : decide ((j : Int) < (f.blocks.length : Int)) = false := by rw [decide_eq_false_iff_not]; omega
    have hq := all_end hb2 (by omega)
    repeat' first | refine g2 @hd @hq ?_ | refine d2 @hd @hq ?_ | refine j2 @hd @hq (fun hg hgo => ?_) fun hg hgo => ?_ | refine ek_ret ?_ | refine ek_norm ?_ | refine ⟨by omega, ?_⟩ | rfl | trivial | intro _
theorem insB_in {x : StepD} {V : Nat} (h : insB x V = true) : inU x V := by
 obtain ⟨op, r, a, b, n⟩ := x
 unfold inU usesL
 show (makesB op = true → 0 ≤ r ∧ r < (V : Int)) ∧ _
 unfold insB valB at h
 simp only at h ⊢
 cases hw : wok op with
 | true =>
  simp [hw] at h ⊢
  exact ⟨fun _ => by omega, by omega⟩
 | false =>
  by_cases e20 : op = 20
  ·subst e20; simp [hw] at h ⊢; intro _; omega
  by_cases e21 : op = 21
  ·subst e21; simp [hw] at h ⊢; exact ⟨fun _ => by omega, by omega⟩
  by_cases e22 : op = 22
  ·subst e22; simp [hw] at h ⊢; exact ⟨fun q => by simp [makesB, hw] at q, by omega⟩
  by_cases e23 : op = 23
  ·subst e23; simp [hw] at h ⊢; exact ⟨fun q => by simp [makesB, hw] at q, by omega⟩
  by_cases e24 : op = 24
  ·subst e24; simp [hw] at h ⊢; intro _; omega
  by_cases e25 : op = 25
  ·subst e25; simp [hw] at h ⊢; exact ⟨fun _ => by omega, by omega⟩
  simp [hw, e20, e21, e22, e23, e24, e25] at h
theorem termB_in {t : TermD} {n V : Nat} (h : termB t n V = true) : (∀ k ∈ succL t, 0 ≤ k ∧ k < (n : Int)) ∧ ∀ u ∈ trmUses t, 0 ≤ u ∧ u < (V : Int) := by
 obtain ⟨k, a, to, els⟩ := t
 unfold termB rgB valB at h
 unfold succL trmUses
 simp only at h ⊢
 by_cases e1 : k = 1
 ·subst e1; simp at h ⊢; omega
 by_cases e2 : k = 2
 ·subst e2; simp at h ⊢
  refine ⟨?_, by omega⟩
  split
  ·simp; omega
  ·simp; omega
 by_cases e3 : k = 3
 ·subst e3; simp at h ⊢; omega
 simp [e1, e2, e3] at h
theorem C2.fz {CR : Rel} {f : FuncId} {ds : List DV} {d : DV} {v : FV} (h : C2 CR f ds d []) (hv : fzD d = some v) : C2 CR f ds (.fv v) [] := by
 unfold C2 at *
 intro hp ow vs a1 a2 a3 a4 a5 a6
 obtain ⟨v0, h', ow', c1, c2, c3, c4, c5, c6, c7⟩ := h hp ow vs a1 a2 a3 a4 a5 a6
 refine ⟨v0, h', fzO (LB, []) ow', c1, ⟨c2.nx, c2.nr, fun n hn hf => ⟨fzO_fz (c2.fz n hn hf).1, (c2.fz n hn hf).2⟩, fun n hn hf => ⟨fzO_no (c2.no n hn hf).1, (c2.no n hn hf).2⟩⟩, c3, fun n m p z k z' k' g1 g2 => c4 n m p z k z' k' (fzO_of g1).1 (fzO_of g2).1, fun n hn => fzO_no (c5 n hn), ?_, fun i o v g1 => by simp at g1⟩
 rcases c6 with ⟨l, vs, rfl, -, -⟩ | ⟨k, rfl⟩ | ⟨cs, e1, e2⟩
 ·simp [fzD] at hv
 ·simp [fzD] at hv
 ·refine .inr (.inr ⟨cs, ?_, ?_⟩)
  ·unfold DR
   exact fz_ok (h' := h') (ow' := fzO (LB, []) ow') (fun n hn => ⟨fzO_fz hn, rfl⟩) (fun n w z k hn => ⟨fzO_in hn ⟨rfl, w, rfl⟩, rfl⟩) e1 hv
  ·rw [e2]; congr 1; exact (fz_agg hv).symm
structure Dom (f : FnD) (V : Nat) : Prop where
 val : f.values = (V : Int)
 small : V ≤ 80
 one : 1 ≤ f.blocks.length
 len : f.blocks.length ≤ 16
 blk : ∀ (b : Nat) (h : b < f.blocks.length), BlkIn f.blocks[b] V f.blocks.length
theorem shape_dom {f : FnD} (h : shapeB f = true) : ∃ V : Nat, Dom f V := by
 unfold shapeB rgB at h
 simp only [Bool.and_eq_true, decide_eq_true_eq] at h
 obtain ⟨⟨⟨a1, a2⟩, a3, a4⟩, a5⟩ := h
 obtain ⟨V, hV⟩ := Int.eq_ofNat_of_zero_le a3
 refine ⟨V, hV, by omega, by omega, by omega, fun b hb => ?_⟩
 have hq := List.all_eq_true.1 a5 _ (List.getElem_mem hb)
 rw [hV] at hq
 unfold blockB at hq
 simp only [Bool.and_eq_true, decide_eq_true_eq] at hq
 obtain ⟨⟨⟨⟨b1, b2⟩, b3⟩, b4⟩, b5⟩ := hq
 have ht := termB_in b3
 exact ⟨ht.1, ht.2, fun x hx => insB_in (List.all_eq_true.1 b5 x hx), by omega⟩
theorem plain_dom {f : FnD} (h : plainB f = true) : ∃ V : Nat, Dom f V := by
 unfold plainB at h
 rw [Bool.and_eq_true] at h
 exact shape_dom h.1
@[go_sem] theorem clDs_insO {l : List (List Bool)} : clDs (insO l) = true := by
 unfold insO
 induction l with
 | nil => rfl
 | cons a l ih => rw [List.map_cons, clDs_cons, ih, clD_own, clDs_bools]; rfl
theorem v_Clashes (f : FnD) (V : Nat) (hok : f.ok) (hp : plainB f = true) (hdom : Dom f V) : C2 CC F_impl_Clashes [.fv (fnF f)] (.own 1 (insO (clashN f.blocks V (liveB f.blocks V) f.blocks.length))) [] := by
 have h0 := v_PlainOk f hok
 rw [hp] at h0
 obtain ⟨hV, hV2, hone, hf, hk⟩ := hdom
 have h1 : C2 CC F_impl_liveIns [.fv (fnF f)] (.own 1 (insO (liveB f.blocks V))) [] := by
  by_cases hv : 0 < V
  ·exact v_liveIns f V hV hv (by omega) (by omega) hk
  ·have e0 : V = 0 := by omega
   subst e0
   exact v_liveIns_none f hV (by omega) hk
 have hlg := live_grow (by omega : V ≤ 1000) (by omega : f.blocks.length ≤ 1000) hk
 obtain ⟨blocks, values⟩ := f
 simp only at hV hf hk h1 h0 hlg hone
 subst hV
 have hlok := hlg.ok
 generalize liveB blocks V = ins at h1 hlok
 have hmk : 0 ≤ (V : Int) ∧ (V : Int) < 4294967296 := ⟨by omega, by omega⟩
 refine cw (keepF Tryz.f36) Tryz.f36 false ?_
 repeat' first | refine ck_intro (by first | exact h0) ?_ ?_ | refine g0 ?_ | refine d0 ?_ | refine j0 (fun hg hgo => ?_) fun hg hgo => ?_ | refine ek_ret ?_ | refine ek_norm ?_ | refine ⟨by omega, ?_⟩ | rfl | trivial | intro _
 refine pw_loop (fun m st => ∃ j : Nat, j + m = V ∧ st = [(1, .box (.fv (fnF ⟨blocks, V⟩))), (3, .own 1 (insO (emptyI V j))), (18, iv V), (19, iv j)]) V [(1, .box (.fv (fnF ⟨blocks, V⟩))), (3, .own 1 (insO (emptyI V 0))), (18, iv V), (19, iv (0 : Nat))] (sub_of ?_) ⟨0, by omega, rfl⟩ ?_
 ·exact dn
 ·rintro m st ⟨j, hj, rfl⟩
  by_cases hlt : j < V
  ·have hd : decide ((j : Int) < (V : Int)) = true := by rw [decide_eq_true_eq]; omega
   repeat' first | refine g4 @hd @hmk @insO_emp @emptyI_len ?_ | refine d4 @hd @hmk @insO_emp @emptyI_len ?_ | refine j4 @hd @hmk @insO_emp @emptyI_len (fun hg hgo => ?_) fun hg hgo => ?_ | refine ek_ret ?_ | refine ek_norm ?_ | refine ⟨by omega, ?_⟩ | rfl | trivial | intro _
   refine rd_norm [(1, .box (.fv (fnF ⟨blocks, V⟩))), (3, .own 1 (insO (emptyI V (j + 1)))), (18, iv V), (19, iv (j + 1 : Nat))] (sub_of ?_) (m - 1) (by omega) ⟨j + 1, by omega, rfl⟩
   exact dn
  ·have hd : decide ((j : Int) < (V : Int)) = false := by rw [decide_eq_false_iff_not]; omega
   have hjn : j = V := by omega
   subst hjn
   repeat' first | refine ck_intro (by first | exact h1) ?_ ?_ | refine g1 @hd ?_ | refine d1 @hd ?_ | refine j1 @hd (fun hg hgo => ?_) fun hg hgo => ?_ | refine ek_ret ?_ | refine ek_norm ?_ | refine ⟨by omega, ?_⟩ | rfl | trivial | intro _
   refine pw_loop (fun m st => ∃ b : Nat, b + m = blocks.length ∧ st = [(1, .box (.fv (fnF ⟨blocks, j⟩))), (3, .own 1 (insO (clashN blocks j ins b))), (4, .own 1 (insO ins)), (31, .fv (.row 6 (blocks.map blockF))), (32, iv blocks.length), (33, iv b)]) blocks.length [(1, .box (.fv (fnF ⟨blocks, j⟩))), (3, .own 1 (insO (clashN blocks j ins 0))), (4, .own 1 (insO ins)), (31, .fv (.row 6 (blocks.map blockF))), (32, iv blocks.length), (33, iv (0 : Nat))] (sub_of ?_) ⟨0, by omega, rfl⟩ ?_
   ·have h0 : clashN blocks j ins 0 = emptyI j j := rfl
    rw [h0]
    exact dn
   ·rintro m st ⟨b, hb, rfl⟩
    by_cases hlb : b < blocks.length
    ·have hdb : decide ((b : Int) < (blocks.length : Int)) = true := by rw [decide_eq_true_eq]; omega
     have hcn : clashN blocks j ins (b + 1) = blkC blocks[b] j ins blocks[b].list.length (clashN blocks j ins b) := by unfold clashN; rw [range_fold, bAt_lt hlb]
     have hco := clashN_ok (bs := blocks) (ins := ins) (n := b) (by omega : j ≤ 1000)
     generalize clashN blocks j ins b = out0 at hcn hco
     have hml : b < (blocks.map blockF).length := by rw [List.length_map]; exact hlb
     have hbk := hk b hlb
     have hae := v_atEnd ⟨blocks, j⟩ j b ins rfl hlb (by show blocks.length ≤ 1000; omega) hlok hbk.succ
     have hol := outB_len hlok hbk.succ
     simp only at hae
     repeat' first | refine ck_intro (by first | exact hae) ?_ ?_ | refine g1 @hdb ?_ | refine d1 @hdb ?_ | refine j1 @hdb (fun hg hgo => ?_) fun hg hgo => ?_ | refine ek_ret ?_ | refine ek_norm ?_ | refine ⟨by omega, ?_⟩ | rfl | trivial | intro _
     refine pw_loop (fun m st => ∃ (k : Nat) (e : DV), k + m = blocks[b].list.length ∧ (e = .own 1 (bools (outB blocks[b].term j ins)) ∨ e = .fv (setF (outB blocks[b].term j ins))) ∧ st = [(1, .box (.fv (fnF ⟨blocks, j⟩))), (3, .own 1 (insO (blkC blocks[b] j ins k out0))), (4, .own 1 (insO ins)), (5, iv b), (7, e), (31, .fv (.row 6 (blocks.map blockF))), (32, iv blocks.length), (33, iv b), (43, .fv (.row 5 (blocks[b].list.map stF))), (44, iv blocks[b].list.length), (45, iv k)]) blocks[b].list.length [(1, .box (.fv (fnF ⟨blocks, j⟩))), (3, .own 1 (insO (blkC blocks[b] j ins 0 out0))), (4, .own 1 (insO ins)), (5, iv b), (7, .own 1 (bools (outB blocks[b].term j ins))), (31, .fv (.row 6 (blocks.map blockF))), (32, iv blocks.length), (33, iv b), (43, .fv (.row 5 (blocks[b].list.map stF))), (44, iv blocks[b].list.length), (45, iv (0 : Nat))] (sub_of ?_) ⟨0, _, by omega, .inl rfl, rfl⟩ ?_
     ·have h0 : blkC blocks[b] j ins 0 out0 = out0 := rfl
      rw [h0]
      exact dn
     ·rintro m2 st ⟨k, e, hkm, he, rfl⟩
      by_cases hlk : k < blocks[b].list.length
      ·have hdk : decide ((k : Int) < (blocks[b].list.length : Int)) = true := by rw [decide_eq_true_eq]; omega
       have hbn : blkC blocks[b] j ins (k + 1) out0 = stpC blocks[b].list[k] (beforeB blocks[b] (k + 1) j ins) j (blkC blocks[b] j ins k out0) := by
        unfold blkC; rw [range_fold]
        unfold insAt; rw [List.getElem?_eq_getElem hlk, Option.getD_some]
       have hbo := blkC_ok (n := k) (b := blocks[b]) (ins := ins) hco
       generalize blkC blocks[b] j ins k out0 = out1 at hbn hbo
       have hmk2 : k < (blocks[b].list.map stF).length := by rw [List.length_map]; exact hlk
       have hid := v_InsDef blocks[b].list[k]
       have hbf := fun hV1 : 0 < j => v_back ⟨blocks, j⟩ j b (k + 1) (outB blocks[b].term j ins) rfl hlb (by show blocks.length ≤ 1000; omega) hV1 (by omega) hol hbk (by show k + 1 ≤ blocks[b].list.length; omega)
       have hbe : backE blocks[b] (k + 1) (outB blocks[b].term j ins) = beforeB blocks[b] (k + 1) j ins := rfl
       simp only [hbe] at hbf
       have hln := before_len (at_ := k + 1) hlok hbk
       generalize beforeB blocks[b] (k + 1) j ins = live at hbn hbf hln
       have hkc : ((k + 1 : Nat) : Int) = (k : Int) + 1 := by omega
       rw [hkc] at hbf
       have hblen := hbk.len
       have hxd : insDefI blocks[b].list[k] ≥ 0 → insDefI blocks[b].list[k] < (j : Int) := fun h => by
        have h2 := (hbk.list _ (List.getElem_mem hlk)).1; unfold insDefI at h ⊢; split at h <;> rename_i hm <;> simp only [hm, if_true, if_false, Bool.false_eq_true] <;> first | exact (h2 hm).2 | omega
       by_cases hge : insDefI blocks[b].list[k] < 0
       ·have hlt0 : decide (insDefI blocks[b].list[k] < 0) = true := by rw [decide_eq_true_eq]; exact hge
        rcases he with rfl | rfl
        ·repeat' first | refine ck_intro (by first | exact hid) ?_ ?_ | refine g2 @hdk @hlt0 ?_ | refine d2 @hdk @hlt0 ?_ | refine j2 @hdk @hlt0 (fun hg hgo => ?_) fun hg hgo => ?_ | refine ek_ret ?_ | refine ek_norm ?_ | refine ⟨by omega, ?_⟩ | rfl | trivial | intro _
         refine rd_norm [(1, .box (.fv (fnF ⟨blocks, j⟩))), (3, .own 1 (insO (blkC blocks[b] j ins (k + 1) out0))), (4, .own 1 (insO ins)), (5, iv b), (7, .own 1 (bools (outB blocks[b].term j ins))), (31, .fv (.row 6 (blocks.map blockF))), (32, iv blocks.length), (33, iv b), (43, .fv (.row 5 (blocks[b].list.map stF))), (44, iv blocks[b].list.length), (45, iv (k + 1 : Nat))] (sub_of ?_) (m2 - 1) (by omega) ⟨k + 1, _, by omega, .inl rfl, rfl⟩
         rw [hbn, show stpC blocks[b].list[k] live j out1 = out1 from if_neg (by omega)]
         exact dn
        ·repeat' first | refine ck_intro (by first | exact hid) ?_ ?_ | refine g2 @hdk @hlt0 ?_ | refine d2 @hdk @hlt0 ?_ | refine j2 @hdk @hlt0 (fun hg hgo => ?_) fun hg hgo => ?_ | refine ek_ret ?_ | refine ek_norm ?_ | refine ⟨by omega, ?_⟩ | rfl | trivial | intro _
         refine rd_norm [(1, .box (.fv (fnF ⟨blocks, j⟩))), (3, .own 1 (insO (blkC blocks[b] j ins (k + 1) out0))), (4, .own 1 (insO ins)), (5, iv b), (7, .fv (setF (outB blocks[b].term j ins))), (31, .fv (.row 6 (blocks.map blockF))), (32, iv blocks.length), (33, iv b), (43, .fv (.row 5 (blocks[b].list.map stF))), (44, iv blocks[b].list.length), (45, iv (k + 1 : Nat))] (sub_of ?_) (m2 - 1) (by omega) ⟨k + 1, _, by omega, .inr rfl, rfl⟩
         rw [hbn, show stpC blocks[b].list[k] live j out1 = out1 from if_neg (by omega)]
         exact dn
       ·have hlt0 : decide (insDefI blocks[b].list[k] < 0) = false := by rw [decide_eq_false_iff_not]; exact hge
        have hdj := hxd (by omega)
        have hbf2 := hbf (by omega)
        rcases he with rfl | rfl
        ·repeat' first | refine ck_intro (by first | exact hid | exact hbf2) ?_ ?_ | refine g2 @hdk @hlt0 ?_ | refine d2 @hdk @hlt0 ?_ | refine j2 @hdk @hlt0 (fun hg hgo => ?_) fun hg hgo => ?_ | refine ek_ret ?_ | refine ek_norm ?_ | refine ⟨by omega, ?_⟩ | rfl | trivial | intro _
         generalize blocks[b].list[k] = x at *
         obtain ⟨d, hdn⟩ := Int.eq_ofNat_of_zero_le (by omega : 0 ≤ insDefI x)
         have hmrk : ∀ n, mrkC x live n out1 = (List.range n).foldl (markC d x live) out1 := fun n => by unfold mrkC; rw [hdn]
         rw [hdn] at hdj ⊢
         have hst1 : stpC x live j out1 = mrkC x live j out1 := if_pos (by omega)
         refine pw_loop (fun m st => ∃ v : Nat, v + m = j ∧ st = [(1, .box (.fv (fnF ⟨blocks, j⟩))), (3, .own 1 (insO (mrkC x live v out1))), (4, .own 1 (insO ins)), (5, iv b), (7, .fv (setF (outB blocks[b].term j ins))), (9, .box (sF x)), (10, iv (d : Int)), (31, .fv (.row 6 (blocks.map blockF))), (32, iv blocks.length), (33, iv b), (43, .fv (.row 5 (blocks[b].list.map stF))), (44, iv blocks[b].list.length), (45, iv k), (59, .own 1 (bools live)), (60, iv live.length), (61, iv v)]) j [(1, .box (.fv (fnF ⟨blocks, j⟩))), (3, .own 1 (insO (mrkC x live 0 out1))), (4, .own 1 (insO ins)), (5, iv b), (7, .fv (setF (outB blocks[b].term j ins))), (9, .box (sF x)), (10, iv (d : Int)), (31, .fv (.row 6 (blocks.map blockF))), (32, iv blocks.length), (33, iv b), (43, .fv (.row 5 (blocks[b].list.map stF))), (44, iv blocks[b].list.length), (45, iv k), (59, .own 1 (bools live)), (60, iv live.length), (61, iv (0 : Nat))] (sub_of ?_) ⟨0, by omega, rfl⟩ ?_
         ·have h0 : mrkC x live 0 out1 = out1 := rfl
          rw [h0]
          exact dn
         ·rintro m3 st ⟨v, hvm, rfl⟩
          by_cases hlv : v < j
          ·have hdv : decide ((v : Int) < (live.length : Int)) = true := by rw [decide_eq_true_eq]; omega
           have hmn : mrkC x live (v + 1) out1 = markC d x live (mrkC x live v out1) v := by rw [hmrk, hmrk]; exact range_fold
           have hmo := mrkC_ok (x := x) (live := live) (v := v) hbo
           generalize mrkC x live v out1 = out2 at hmn hmo
           have hlo := hmo.len
           have hdl : d < out2.length := by omega
           have hgd := insO_get hdl
           have hrd := hmo.row _ (List.getElem_mem hdl)
           have hlvl : v < live.length := by omega
           have hgl := bools_get hlvl
           unfold markC cndC at hmn
           rw [List.getElem?_eq_getElem hlvl, Option.getD_some] at hmn
           have hgv := bools_get (l := out2[d]) (i := v) (by omega)
           have hs3 : (insO out2).set d (.own 1 (bools (out2[d].set v true))) = insO (set2 out2 d v) := by rw [insO_set, set2_eq hdl]
           have hmo3 := set2_ok (i := d) (j := v) hmo
           have hdd : (d : Int).toNat = d := rfl
           rw [hdd] at hmn
           generalize set2 out2 d v = out3 at hs3 hmo3 hmn
           have hlo3 := hmo3.len
           have hvl : v < out3.length := by omega
           have hgd3 := insO_get hvl
           have hrd3 := hmo3.row _ (List.getElem_mem hvl)
           have hgv3 := bools_get (l := out3[v]) (i := d) (by omega)
           have hs4 : (insO out3).set v (.own 1 (bools (out3[v].set d true))) = insO (set2 out3 v d) := by rw [insO_set, set2_eq hvl]
           repeat' first | refine g9 @hdv @hgd @hgl @hgv @bools_set @hs3 @hgd3 @hgv3 @hs4 ?_ | refine d9 @hdv @hgd @hgl @hgv @bools_set @hs3 @hgd3 @hgv3 @hs4 ?_ | refine j9 @hdv @hgd @hgl @hgv @bools_set @hs3 @hgd3 @hgv3 @hs4 (fun hg hgo => ?_) fun hg hgo => ?_ | refine ek_ret ?_ | refine ek_norm ?_ | refine ⟨by omega, ?_⟩ | rfl | trivial | intro _
           all_goals first
            | (exfalso; omega)
            | (have hc : (!decide ((v : Int) = (d : Int)) && live[v] && (!decide (x.op = 25) || !decide ((v : Int) = x.a))) = true := by
                 simp only [Bool.and_eq_true, Bool.or_eq_true, Bool.not_eq_true', decide_eq_false_iff_not]
                 exact ⟨⟨by omega, by assumption⟩, by omega⟩
               rw [if_pos hc] at hmn
               refine rd_norm [(1, .box (.fv (fnF ⟨blocks, j⟩))), (3, .own 1 (insO (mrkC x live (v + 1) out1))), (4, .own 1 (insO ins)), (5, iv b), (7, .fv (setF (outB blocks[b].term j ins))), (9, .box (sF x)), (10, iv (d : Int)), (31, .fv (.row 6 (blocks.map blockF))), (32, iv blocks.length), (33, iv b), (43, .fv (.row 5 (blocks[b].list.map stF))), (44, iv blocks[b].list.length), (45, iv k), (59, .own 1 (bools live)), (60, iv live.length), (61, iv (v + 1 : Nat))] (sub_of ?_) (m3 - 1) (by omega) ⟨v + 1, by omega, rfl⟩
               rw [hmn]
               exact dn)
            | (have hc : ¬ ((!decide ((v : Int) = (d : Int)) && live[v] && (!decide (x.op = 25) || !decide ((v : Int) = x.a))) = true) := by
                 simp only [Bool.and_eq_true, Bool.or_eq_true, Bool.not_eq_true', decide_eq_false_iff_not]
                 rintro ⟨⟨a1, a2⟩, a3⟩
                 first | omega | cases a2.symm.trans ‹live[v] = false›
               rw [if_neg hc] at hmn
               refine rd_norm [(1, .box (.fv (fnF ⟨blocks, j⟩))), (3, .own 1 (insO (mrkC x live (v + 1) out1))), (4, .own 1 (insO ins)), (5, iv b), (7, .fv (setF (outB blocks[b].term j ins))), (9, .box (sF x)), (10, iv (d : Int)), (31, .fv (.row 6 (blocks.map blockF))), (32, iv blocks.length), (33, iv b), (43, .fv (.row 5 (blocks[b].list.map stF))), (44, iv blocks[b].list.length), (45, iv k), (59, .own 1 (bools live)), (60, iv live.length), (61, iv (v + 1 : Nat))] (sub_of ?_) (m3 - 1) (by omega) ⟨v + 1, by omega, rfl⟩
               rw [hmn]
               exact dn)
          ·have hdv : decide ((v : Int) < (live.length : Int)) = false := by rw [decide_eq_false_iff_not]; omega
           have hvn : j = v := by omega
           subst hvn
           repeat' first | refine g1 @hdv ?_ | refine d1 @hdv ?_ | refine j1 @hdv (fun hg hgo => ?_) fun hg hgo => ?_ | refine ek_ret ?_ | refine ek_norm ?_ | refine ⟨by omega, ?_⟩ | rfl | trivial | intro _
           all_goals refine rd_norm [(1, .box (.fv (fnF ⟨blocks, j⟩))), (3, .own 1 (insO (blkC blocks[b] j ins (k + 1) out0))), (4, .own 1 (insO ins)), (5, iv b), (7, .fv (setF (outB blocks[b].term j ins))), (31, .fv (.row 6 (blocks.map blockF))), (32, iv blocks.length), (33, iv b), (43, .fv (.row 5 (blocks[b].list.map stF))), (44, iv blocks[b].list.length), (45, iv (k + 1 : Nat))] (sub_of ?_) (m2 - 1) (by omega) ⟨k + 1, _, by omega, .inr rfl, rfl⟩
           rw [hbn, hst1]
           exact dn
        ·repeat' first | refine ck_intro (by first | exact hid | exact hbf2) ?_ ?_ | refine g2 @hdk @hlt0 ?_ | refine d2 @hdk @hlt0 ?_ | refine j2 @hdk @hlt0 (fun hg hgo => ?_) fun hg hgo => ?_ | refine ek_ret ?_ | refine ek_norm ?_ | refine ⟨by omega, ?_⟩ | rfl | trivial | intro _
         generalize blocks[b].list[k] = x at *
         obtain ⟨d, hdn⟩ := Int.eq_ofNat_of_zero_le (by omega : 0 ≤ insDefI x)
         have hmrk : ∀ n, mrkC x live n out1 = (List.range n).foldl (markC d x live) out1 := fun n => by unfold mrkC; rw [hdn]
         rw [hdn] at hdj ⊢
         have hst1 : stpC x live j out1 = mrkC x live j out1 := if_pos (by omega)
         refine pw_loop (fun m st => ∃ v : Nat, v + m = j ∧ st = [(1, .box (.fv (fnF ⟨blocks, j⟩))), (3, .own 1 (insO (mrkC x live v out1))), (4, .own 1 (insO ins)), (5, iv b), (7, .fv (setF (outB blocks[b].term j ins))), (9, .box (sF x)), (10, iv (d : Int)), (31, .fv (.row 6 (blocks.map blockF))), (32, iv blocks.length), (33, iv b), (43, .fv (.row 5 (blocks[b].list.map stF))), (44, iv blocks[b].list.length), (45, iv k), (59, .own 1 (bools live)), (60, iv live.length), (61, iv v)]) j [(1, .box (.fv (fnF ⟨blocks, j⟩))), (3, .own 1 (insO (mrkC x live 0 out1))), (4, .own 1 (insO ins)), (5, iv b), (7, .fv (setF (outB blocks[b].term j ins))), (9, .box (sF x)), (10, iv (d : Int)), (31, .fv (.row 6 (blocks.map blockF))), (32, iv blocks.length), (33, iv b), (43, .fv (.row 5 (blocks[b].list.map stF))), (44, iv blocks[b].list.length), (45, iv k), (59, .own 1 (bools live)), (60, iv live.length), (61, iv (0 : Nat))] (sub_of ?_) ⟨0, by omega, rfl⟩ ?_
         ·have h0 : mrkC x live 0 out1 = out1 := rfl
          rw [h0]
          exact dn
         ·rintro m3 st ⟨v, hvm, rfl⟩
          by_cases hlv : v < j
          ·have hdv : decide ((v : Int) < (live.length : Int)) = true := by rw [decide_eq_true_eq]; omega
           have hmn : mrkC x live (v + 1) out1 = markC d x live (mrkC x live v out1) v := by rw [hmrk, hmrk]; exact range_fold
           have hmo := mrkC_ok (x := x) (live := live) (v := v) hbo
           generalize mrkC x live v out1 = out2 at hmn hmo
           have hlo := hmo.len
           have hdl : d < out2.length := by omega
           have hgd := insO_get hdl
           have hrd := hmo.row _ (List.getElem_mem hdl)
           have hlvl : v < live.length := by omega
           have hgl := bools_get hlvl
           unfold markC cndC at hmn
           rw [List.getElem?_eq_getElem hlvl, Option.getD_some] at hmn
           have hgv := bools_get (l := out2[d]) (i := v) (by omega)
           have hs3 : (insO out2).set d (.own 1 (bools (out2[d].set v true))) = insO (set2 out2 d v) := by rw [insO_set, set2_eq hdl]
           have hmo3 := set2_ok (i := d) (j := v) hmo
           have hdd : (d : Int).toNat = d := rfl
           rw [hdd] at hmn
           generalize set2 out2 d v = out3 at hs3 hmo3 hmn
           have hlo3 := hmo3.len
           have hvl : v < out3.length := by omega
           have hgd3 := insO_get hvl
           have hrd3 := hmo3.row _ (List.getElem_mem hvl)
           have hgv3 := bools_get (l := out3[v]) (i := d) (by omega)
           have hs4 : (insO out3).set v (.own 1 (bools (out3[v].set d true))) = insO (set2 out3 v d) := by rw [insO_set, set2_eq hvl]
           repeat' first | refine g9 @hdv @hgd @hgl @hgv @bools_set @hs3 @hgd3 @hgv3 @hs4 ?_ | refine d9 @hdv @hgd @hgl @hgv @bools_set @hs3 @hgd3 @hgv3 @hs4 ?_ | refine j9 @hdv @hgd @hgl @hgv @bools_set @hs3 @hgd3 @hgv3 @hs4 (fun hg hgo => ?_) fun hg hgo => ?_ | refine ek_ret ?_ | refine ek_norm ?_ | refine ⟨by omega, ?_⟩ | rfl | trivial | intro _
           all_goals first
            | (exfalso; omega)
            | (have hc : (!decide ((v : Int) = (d : Int)) && live[v] && (!decide (x.op = 25) || !decide ((v : Int) = x.a))) = true := by
                 simp only [Bool.and_eq_true, Bool.or_eq_true, Bool.not_eq_true', decide_eq_false_iff_not]
                 exact ⟨⟨by omega, by assumption⟩, by omega⟩
               rw [if_pos hc] at hmn
               refine rd_norm [(1, .box (.fv (fnF ⟨blocks, j⟩))), (3, .own 1 (insO (mrkC x live (v + 1) out1))), (4, .own 1 (insO ins)), (5, iv b), (7, .fv (setF (outB blocks[b].term j ins))), (9, .box (sF x)), (10, iv (d : Int)), (31, .fv (.row 6 (blocks.map blockF))), (32, iv blocks.length), (33, iv b), (43, .fv (.row 5 (blocks[b].list.map stF))), (44, iv blocks[b].list.length), (45, iv k), (59, .own 1 (bools live)), (60, iv live.length), (61, iv (v + 1 : Nat))] (sub_of ?_) (m3 - 1) (by omega) ⟨v + 1, by omega, rfl⟩
               rw [hmn]
               exact dn)
            | (have hc : ¬ ((!decide ((v : Int) = (d : Int)) && live[v] && (!decide (x.op = 25) || !decide ((v : Int) = x.a))) = true) := by
                 simp only [Bool.and_eq_true, Bool.or_eq_true, Bool.not_eq_true', decide_eq_false_iff_not]
                 rintro ⟨⟨a1, a2⟩, a3⟩
                 first | omega | cases a2.symm.trans ‹live[v] = false›
               rw [if_neg hc] at hmn
               refine rd_norm [(1, .box (.fv (fnF ⟨blocks, j⟩))), (3, .own 1 (insO (mrkC x live (v + 1) out1))), (4, .own 1 (insO ins)), (5, iv b), (7, .fv (setF (outB blocks[b].term j ins))), (9, .box (sF x)), (10, iv (d : Int)), (31, .fv (.row 6 (blocks.map blockF))), (32, iv blocks.length), (33, iv b), (43, .fv (.row 5 (blocks[b].list.map stF))), (44, iv blocks[b].list.length), (45, iv k), (59, .own 1 (bools live)), (60, iv live.length), (61, iv (v + 1 : Nat))] (sub_of ?_) (m3 - 1) (by omega) ⟨v + 1, by omega, rfl⟩
               rw [hmn]
               exact dn)
          ·have hdv : decide ((v : Int) < (live.length : Int)) = false := by rw [decide_eq_false_iff_not]; omega
           have hvn : j = v := by omega
           subst hvn
           repeat' first | refine g1 @hdv ?_ | refine d1 @hdv ?_ | refine j1 @hdv (fun hg hgo => ?_) fun hg hgo => ?_ | refine ek_ret ?_ | refine ek_norm ?_ | refine ⟨by omega, ?_⟩ | rfl | trivial | intro _
           all_goals refine rd_norm [(1, .box (.fv (fnF ⟨blocks, j⟩))), (3, .own 1 (insO (blkC blocks[b] j ins (k + 1) out0))), (4, .own 1 (insO ins)), (5, iv b), (7, .fv (setF (outB blocks[b].term j ins))), (31, .fv (.row 6 (blocks.map blockF))), (32, iv blocks.length), (33, iv b), (43, .fv (.row 5 (blocks[b].list.map stF))), (44, iv blocks[b].list.length), (45, iv (k + 1 : Nat))] (sub_of ?_) (m2 - 1) (by omega) ⟨k + 1, _, by omega, .inr rfl, rfl⟩
           rw [hbn, hst1]
           exact dn
      ·have hdk : decide ((k : Int) < (blocks[b].list.length : Int)) = false := by rw [decide_eq_false_iff_not]; omega
       have hkn : k = blocks[b].list.length := by omega
       subst hkn
       rw [← hcn]
       rcases he with rfl | rfl
       all_goals repeat' first | refine g1 @hdk ?_ | refine d1 @hdk ?_ | refine j1 @hdk (fun hg hgo => ?_) fun hg hgo => ?_ | refine ek_ret ?_ | refine ek_norm ?_ | refine ⟨by omega, ?_⟩ | rfl | trivial | intro _
       all_goals refine rd_norm [(1, .box (.fv (fnF ⟨blocks, j⟩))), (3, .own 1 (insO (clashN blocks j ins (b + 1)))), (4, .own 1 (insO ins)), (31, .fv (.row 6 (blocks.map blockF))), (32, iv blocks.length), (33, iv (b + 1 : Nat))] (sub_of ?_) (m - 1) (by omega) ⟨b + 1, by omega, rfl⟩
       all_goals exact dn
    ·have hdb : decide ((b : Int) < (blocks.length : Int)) = false := by rw [decide_eq_false_iff_not]; omega
     have hbn : b = blocks.length := by omega
     subst hbn
     repeat' first | refine g1 @hdb ?_ | refine d1 @hdb ?_ | refine j1 @hdb (fun hg hgo => ?_) fun hg hgo => ?_ | refine ek_ret ?_ | refine ek_norm ?_ | refine ⟨by omega, ?_⟩ | rfl | trivial | intro _
def clashF (f : FnD) : List (List Bool) := clashN f.blocks f.values.toNat (liveB f.blocks f.values.toNat) f.blocks.length
def degN (l : List Bool) : Nat := l.countP id
def lstI : Nat → List Bool → List Int
 | _, [] => []
 | n, b :: l => if b = true then (n : Int) :: lstI (n + 1) l else lstI (n + 1) l
theorem lstI_len : ∀ (n : Nat) (l : List Bool), (lstI n l).length = degN l
 | _, [] => rfl
 | n, b :: l => by
  unfold lstI degN
  have ih := lstI_len (n + 1) l
  unfold degN at ih
  cases b with
  | true => simp [ih]
  | false => simp [ih]
theorem lstI_snoc : ∀ (n : Nat) (l : List Bool) (b : Bool), lstI n (l ++ [b]) = lstI n l ++ (if b = true then [((n + l.length : Nat) : Int)] else [])
 | n, [], b => by cases b <;> simp [lstI]
 | n, a :: l, b => by
  have ih := lstI_snoc (n + 1) l b
  rw [List.cons_append]
  unfold lstI
  rw [ih, show n + 1 + l.length = n + (a :: l).length by simp; omega]
  cases a <;> simp
theorem deg_le (l : List Bool) : degN l ≤ l.length := List.countP_le_length
theorem ints_snoc {l : List Int} {x : Int} : ints l ++ [iv x] = ints (l ++ [x]) := by unfold ints; simp
theorem v_listed (l : List Bool) (hl : l.length ≤ 1000) : C2 CC F_impl_listed [.fv (setF l)] (.own 1 (ints (lstI 0 l))) [] := by
 refine cw (keepF Tryz.f37) Tryz.f37 false ?_
 repeat' first | refine g0 ?_ | refine d0 ?_ | refine j0 (fun hg hgo => ?_) fun hg hgo => ?_ | refine ek_ret ?_ | refine ek_norm ?_ | refine ⟨by omega, ?_⟩ | rfl | trivial | intro _
 refine pw_loop (fun m st => ∃ j : Nat, j + m = l.length ∧ st = [(3, .own 1 (ints (lstI 0 (l.take j)))), (7, .fv (setF l)), (8, iv l.length), (9, iv j)]) l.length [(3, .own 1 (ints (lstI 0 (l.take 0)))), (7, .fv (setF l)), (8, iv l.length), (9, iv (0 : Nat))] (sub_of ?_) ⟨0, by omega, rfl⟩ ?_
 ·have h0 : ints (lstI 0 (l.take 0)) = [] := rfl
  rw [h0]
  exact dn
 ·rintro m st ⟨j, hj, rfl⟩
  by_cases hlt : j < l.length
  ·have hd : decide ((j : Int) < (l.length : Int)) = true := by rw [decide_eq_true_eq]; omega
   have hml : j < (l.map FV.bool).length := by rw [List.length_map]; exact hlt
   have hsn := lstI_snoc 0 (l.take j) l[j]
   rw [← List.take_succ_eq_append_getElem hlt, List.length_take, Nat.min_eq_left (by omega), Nat.zero_add] at hsn
   have hln := lstI_len 0 (l.take j)
   have hdl := deg_le (l.take j)
   rw [List.length_take] at hdl
   generalize lstI 0 (l.take j) = r at hsn hln
   repeat' first | refine g2 @hd @ints_snoc ?_ | refine d2 @hd @ints_snoc ?_ | refine j2 @hd @ints_snoc (fun hg hgo => ?_) fun hg hgo => ?_ | refine ek_ret ?_ | refine ek_norm ?_ | refine ⟨by omega, ?_⟩ | rfl | trivial | intro _
   ·rw [if_pos hg] at hsn
    refine rd_norm [(3, .own 1 (ints (lstI 0 (l.take (j + 1))))), (7, .fv (setF l)), (8, iv l.length), (9, iv (j + 1 : Nat))] (sub_of ?_) (m - 1) (by omega) ⟨j + 1, by omega, rfl⟩
    rw [hsn]
    exact dn
   ·rw [if_neg (by rw [hg]; decide), List.append_nil] at hsn
    refine rd_norm [(3, .own 1 (ints (lstI 0 (l.take (j + 1))))), (7, .fv (setF l)), (8, iv l.length), (9, iv (j + 1 : Nat))] (sub_of ?_) (m - 1) (by omega) ⟨j + 1, by omega, rfl⟩
    rw [hsn]
    exact dn
  ·have hd : decide ((j : Int) < (l.length : Int)) = false := by rw [decide_eq_false_iff_not]; omega
   rw [List.take_of_length_le (by omega)]
   repeat' first | refine g1 @hd ?_ | refine d1 @hd ?_ | refine j1 @hd (fun hg hgo => ?_) fun hg hgo => ?_ | refine ek_ret ?_ | refine ek_norm ?_ | refine ⟨by omega, ?_⟩ | rfl | trivial | intro _
theorem clashF_ok {f : FnD} {V : Nat} (hd : Dom f V) : InsOk V V (clashF f) := by
 unfold clashF
 have hv : f.values.toNat = V := by rw [hd.val]; rfl
 rw [hv]
 exact clashN_ok (by have := hd.small; omega)
theorem s_Clashes (f : FnD) (V : Nat) (hd : Dom f V) : C2 CC F_spec_l12Clashes [.fv (fnF f)] (.own 1 (insO (clashF f))) [] := by
 have h3 := v_l12Clashes f V hd.val (by have := hd.small; omega) (by have := hd.len; omega) hd.blk
 unfold clashF
 have hv : f.values.toNat = V := by rw [hd.val]; rfl
 rw [hv]
 exact h3
theorem i_Clashes (f : FnD) (V : Nat) (hok : f.ok) (hp : plainB f = true) (hd : Dom f V) : C2 CC F_impl_Clashes [.fv (fnF f)] (.own 1 (insO (clashF f))) [] := by
 have h3 := v_Clashes f V hok hp hd
 unfold clashF
 have hv : f.values.toNat = V := by rw [hd.val]; rfl
 rw [hv]
 exact h3

theorem szL_ct {α : Type} {e : α → Int → Int} {c : α → Nat} (he : ∀ x left, 0 ≤ left ∧ left ≤ 1048576 → e x left ≤ left ∧ (0 ≤ e x left → (c x : Int) + 5 * e x left ≤ 5 * left + 5)) : ∀ (l : List α) (left : Int), 0 ≤ left ∧ left ≤ 1048576 → 0 ≤ szL e l left → (ctL c l : Int) + 5 * szL e l left ≤ 5 * left + 5 * (l.length : Int)
 | [], left, h, hz => by unfold szL ctL; simp
 | x :: l, left, h, hz => by
  have h1 := he x left h
  unfold szL at hz ⊢
  split at hz
  ·omega
  ·rename_i hn
   rw [if_neg hn]
   have h2 := szL_ct he l (e x left) (by omega) hz
   have h3 : (ctL c (x :: l) : Int) = (c x : Int) + (ctL c l : Int) := by unfold ctL; rw [List.map_cons, List.sum_cons]; omega
   have h4 := h1.2 (by omega)
   rw [h3, List.length_cons]
   omega
theorem szRow_ct {α : Type} {e : α → Int → Int} {c : α → Nat} (he : ∀ x left, 0 ≤ left ∧ left ≤ 1048576 → e x left ≤ left ∧ (0 ≤ e x left → (c x : Int) + 5 * e x left ≤ 5 * left + 5)) (l : List α) (left : Int) (h : 0 ≤ left ∧ left ≤ 1048576) (hz : 0 ≤ szRow e l left) : (ctL c l : Int) + 5 * szRow e l left ≤ 5 * left := by
 unfold szRow at hz ⊢
 split at hz
 ·omega
 ·rename_i hn
  rw [if_neg hn]
  have := szL_ct he l (left - l.length) (by omega) hz
  omega
theorem szP_ct (x : PhiD) (left : Int) (h : 0 ≤ left ∧ left ≤ 1048576) : szP x left ≤ left ∧ (0 ≤ szP x left → (ctP x : Int) + 5 * szP x left ≤ 5 * left + 5) := by
 refine ⟨(szP_le x left h).1, fun hz => ?_⟩
 have hc : (ctL ctA x.arms : Int) = 2 * (x.arms.length : Int) := by
  unfold ctL
  generalize x.arms = l
  induction l with
  | nil => rfl
  | cons a l ih => rw [List.map_cons, List.sum_cons, List.length_cons, show ctA a = 2 from rfl]; omega
 unfold szP sub1 at hz ⊢
 unfold ctP
 split at hz
 ·omega
 ·rename_i hn; rw [if_neg hn]; omega
theorem szB_ct (x : BlockD) (left : Int) (h : 0 ≤ left ∧ left ≤ 1048576) : szB x left ≤ left ∧ (0 ≤ szB x left → (ctB x : Int) + 5 * szB x left ≤ 5 * left + 5) := by
 refine ⟨(szB_le x left h).1, fun hz => ?_⟩
 have hc : (ctL ctS x.list : Int) = 5 * (x.list.length : Int) := by
  unfold ctL
  generalize x.list = l
  induction l with
  | nil => rfl
  | cons a l ih => rw [List.map_cons, List.sum_cons, List.length_cons, show ctS a = 5 from rfl]; omega
 unfold szB at hz ⊢
 unfold ctB
 split at hz
 ·omega
 ·rename_i hn
  rw [if_neg hn]
  have h1 := szRow_ct (c := ctP) szP_ct x.phis left h (by omega)
  unfold sub1 at hz ⊢
  split at hz
  ·omega
  ·rename_i hm; rw [if_neg hm]; omega
theorem ctF_le (x : FnD) (hz : 0 ≤ szFn x 1048576) : (ctF x : Int) ≤ 5242880 := by
 unfold szFn at hz
 split at hz
 ·omega
 ·have := szRow_ct (c := ctB) szB_ct x.blocks 1048576 (by omega) hz
  unfold ctF
  omega
theorem i64_wf {n : Int} (h : (Lit.int .i64 n).wf = true) : I64 n := by
 have h1 : IntKind.i64.min = -9223372036854775808 := by decide
 have h2 : IntKind.i64.max = 9223372036854775807 := by decide
 replace h : (decide (IntKind.i64.min ≤ n) && decide (n ≤ IntKind.i64.max)) = true := h
 rw [h1, h2] at h
 simpa [I64] using h
theorem ty_int {Γ : TypeId → Option TI} {g : Nat} {t : TypeId} {v : FV} {a b : Nat} {z : List Value} (hv : TyF Γ g t v) (ht : Γ t = some ⟨.int .i64, a, b, z⟩) : ∃ n, v = .int .i64 n ∧ I64 n := by
 obtain ⟨n, h1, h2⟩ := tyF_int hv ht
 exact ⟨n, h1, i64_wf h2⟩
theorem ty_step {Γ : TypeId → Option TI} {g : Nat} {t ti : TypeId} {v : FV} {a b a' b' : Nat} {z z' : List Value} (hv : TyF Γ g t v) (ht : Γ t = some ⟨.struct [(0, ti), (1, ti), (2, ti), (3, ti), (4, ti)], a, b, z⟩) (hi : Γ ti = some ⟨.int .i64, a', b', z'⟩) : ∃ x : StepD, v = stF x ∧ x.wf := by
 obtain ⟨x0, x1, x2, x3, x4, g', rfl, h0, h1, h2, h3, h4⟩ := tyF_struct5 hv ht
 obtain ⟨n0, rfl, w0⟩ := ty_int h0 hi
 obtain ⟨n1, rfl, w1⟩ := ty_int h1 hi
 obtain ⟨n2, rfl, w2⟩ := ty_int h2 hi
 obtain ⟨n3, rfl, w3⟩ := ty_int h3 hi
 obtain ⟨n4, rfl, w4⟩ := ty_int h4 hi
 exact ⟨⟨n0, n1, n2, n3, n4⟩, rfl, w0, w1, w2, w3, w4⟩
theorem maxLen_eq : maxLen = 9223372036854775807 := by decide
theorem ty_fn {Γ : TypeId → Option TI} {g : Nat} {t ti tb eb tp tl tt ep ta ea ei : TypeId} {v : FV} {a0 b0 a1 b1 b2 a3 b3 b4 a5 b5 b6 a7 b7 : Nat} {zi z0 z1 z2 z3 z4 z5 z6 z7 z8 z9 : List Value} {m n1 n2 n3 n4 : Nat}
  (hv : TyF Γ g t v) (ht : Γ t = some ⟨.struct [(0, tb), (1, ti)], a0, b0, z0⟩) (hi : Γ ti = some ⟨.int .i64, m, n1, zi⟩)
  (hb : Γ tb = some ⟨.slice eb, a1, b1, z1⟩) (heb : Γ eb = some ⟨.struct [(0, tp), (1, tl), (2, tt)], 6, b2, z2⟩)
  (hp : Γ tp = some ⟨.slice ep, a3, b3, z3⟩) (hep : Γ ep = some ⟨.struct [(0, ti), (1, ta)], 2, b4, z4⟩)
  (hta : Γ ta = some ⟨.slice ea, a5, b5, z5⟩) (hea : Γ ea = some ⟨.struct [(0, ti), (1, ti)], 2, b6, z6⟩)
  (hl : Γ tl = some ⟨.slice ei, a7, b7, z7⟩) (hei : Γ ei = some ⟨.struct [(0, ti), (1, ti), (2, ti), (3, ti), (4, ti)], 5, n2, z8⟩)
  (htt : Γ tt = some ⟨.struct [(0, ti), (1, ti), (2, ti), (3, ti)], n3, n4, z9⟩) : ∃ x : FnD, v = fnF x ∧ x.ln := by
 obtain ⟨x0, x1, g', rfl, h0, h1⟩ := tyF_struct2 hv ht
 obtain ⟨n, rfl, -⟩ := ty_int h1 hi
 have arm : ∀ g x, TyF Γ g ea x → ∃ a : ArmD, x = armF a ∧ True := fun g x hx => by
  obtain ⟨y0, y1, g', rfl, k0, k1⟩ := tyF_struct2 hx hea
  obtain ⟨n0, rfl, -⟩ := ty_int k0 hi
  obtain ⟨n1, rfl, -⟩ := ty_int k1 hi
  exact ⟨⟨n0, n1⟩, rfl, trivial⟩
 have phi : ∀ g x, TyF Γ g ep x → ∃ a : PhiD, x = phiF a ∧ a.ln := fun g x hx => by
  obtain ⟨y0, y1, g', rfl, k0, k1⟩ := tyF_struct2 hx hep
  obtain ⟨n0, rfl, -⟩ := ty_int k0 hi
  obtain ⟨l, rfl, -, hl⟩ := tyF_row k1 hta hea arm
  exact ⟨⟨n0, l⟩, rfl, by rw [maxLen_eq] at hl; exact hl⟩
 have ins : ∀ g x, TyF Γ g ei x → ∃ a : StepD, x = stF a ∧ True := fun g x hx => by
  obtain ⟨a, rfl, -⟩ := ty_step hx hei hi
  exact ⟨a, rfl, trivial⟩
 have blk : ∀ g x, TyF Γ g eb x → ∃ a : BlockD, x = blockF a ∧ a.ln := fun g x hx => by
  obtain ⟨y0, y1, y2, g', rfl, k0, k1, k2⟩ := tyF_struct3 hx heb
  obtain ⟨l0, rfl, q0, m0⟩ := tyF_row k0 hp hep phi
  obtain ⟨l1, rfl, -, m1⟩ := tyF_row k1 hl hei ins
  obtain ⟨w0, w1, w2, w3, g2, rfl, e0, e1, e2, e3⟩ := tyF_struct4 k2 htt
  obtain ⟨n0, rfl, -⟩ := ty_int e0 hi
  obtain ⟨n1, rfl, -⟩ := ty_int e1 hi
  obtain ⟨n2, rfl, -⟩ := ty_int e2 hi
  obtain ⟨n3, rfl, -⟩ := ty_int e3 hi
  exact ⟨⟨l0, l1, ⟨n0, n1, n2, n3⟩⟩, rfl, by rw [maxLen_eq] at m0; exact m0, q0, by rw [maxLen_eq] at m1; exact m1⟩
 obtain ⟨l, rfl, q, m⟩ := tyF_row h0 hb heb blk
 exact ⟨⟨l, n⟩, rfl, by rw [maxLen_eq] at m; exact m, q⟩
theorem ty_ints {Γ : TypeId → Option TI} {g : Nat} {t e : TypeId} {v : FV} {a b : Nat} {a' b' : Nat} {z z' : List Value} (hv : TyF Γ g t v) (ht : Γ t = some ⟨.slice e, a, b, z⟩) (he : Γ e = some ⟨.int .i64, a', b', z'⟩) (h1 : a' = 1) : ∃ l : List Int, v = intR l ∧ l.length ≤ 9223372036854775807 := by
 subst h1
 obtain ⟨l, rfl, -, m⟩ := tyF_row (f := FV.int .i64) (P := fun _ => True) hv ht he (fun g x hx => by obtain ⟨n, rfl, _⟩ := ty_int hx he; exact ⟨n, rfl, trivial⟩)
 exact ⟨l, rfl, by rw [maxLen_eq] at m; exact m⟩
def clAt (cl : List (List Bool)) (v w : Nat) : Bool := (((cl[v]?).getD [])[w]?).getD false
theorem clAt_lt {cl : List (List Bool)} {v w : Nat} (hv : v < cl.length) (hw : w < cl[v].length) : clAt cl v w = cl[v][w] := by
 unfold clAt; rw [List.getElem?_eq_getElem hv, Option.getD_some, List.getElem?_eq_getElem hw]; rfl
theorem clAt_set2 {V i j v w : Nat} {cl : List (List Bool)} (h : InsOk V V cl) (hi : i < V) (hj : j < V) : clAt (set2 cl i j) v w = (clAt cl v w || (decide (v = i) && decide (w = j))) := by
 have hl := h.len
 have hil : i < cl.length := by omega
 have hr := h.row _ (List.getElem_mem hil)
 rw [set2_eq hil]
 unfold clAt
 rw [List.getElem?_set]
 by_cases hv : i = v
 ·subst hv
  rw [if_pos rfl, if_pos hil, Option.getD_some, List.getElem?_eq_getElem hil, Option.getD_some, List.getElem?_set]
  by_cases hw : j = w
  ·subst hw
   rw [if_pos rfl, if_pos (by omega)]
   simp
  ·rw [if_neg hw]
   simp [show ¬ w = j from fun e => hw e.symm]
 ·rw [if_neg hv]
  simp [show ¬ v = i from fun e => hv e.symm]
structure SymB (cl : List (List Bool)) : Prop where
 sym : ∀ v w, clAt cl v w = clAt cl w v
 irr : ∀ v, clAt cl v v = false
theorem markC_sym {V : Nat} {d : Int} {x : StepD} {live : List Bool} {cl : List (List Bool)} {v : Nat} (h : InsOk V V cl) (hs : SymB cl) (hd : 0 ≤ d ∧ d < V) (hv : v < V) : SymB (markC d x live cl v) := by
 unfold markC
 split
 ·rename_i hc
  have hne : ¬ (v : Int) = d := by
   unfold cndC at hc
   simp only [Bool.and_eq_true, Bool.not_eq_true', decide_eq_false_iff_not] at hc
   exact hc.1.1
  have h1 := set2_ok (i := d.toNat) (j := v) h
  have hdn : d.toNat < V := by omega
  have key : ∀ a b, clAt (set2 (set2 cl d.toNat v) v d.toNat) a b = ((clAt cl a b || (decide (a = d.toNat) && decide (b = v))) || (decide (a = v) && decide (b = d.toNat))) := fun a b => by
   rw [clAt_set2 h1 hv hdn, clAt_set2 h hdn hv]
  refine ⟨fun a b => ?_, fun a => ?_⟩
  ·rw [key, key, hs.sym a b]
   rw [Bool.or_assoc, Bool.or_assoc, Bool.or_comm (decide (a = d.toNat) && decide (b = v)), Bool.and_comm (decide (a = d.toNat)), Bool.and_comm (decide (a = v))]
  ·rw [key, hs.irr a]
   have : ¬ v = d.toNat := by omega
   simp only [Bool.false_or, Bool.or_eq_false_iff, Bool.and_eq_false_iff, decide_eq_false_iff_not]
   exact ⟨by omega, by omega⟩
 ·exact hs
theorem fold_inv {α β : Type} {P : α → Prop} {f : α → β → α} : ∀ (l : List β) {a : α}, P a → (∀ a, ∀ b ∈ l, P a → P (f a b)) → P (l.foldl f a)
 | [], _, h, _ => h
 | b :: l, a, h, hf => fold_inv l (hf a b (by simp) h) fun a c hc => hf a c (by simp [hc])
theorem stpC_sym {V : Nat} {x : StepD} {live : List Bool} {cl : List (List Bool)} (h : InsOk V V cl) (hs : SymB cl) (hx : inU x V) : InsOk V V (stpC x live V cl) ∧ SymB (stpC x live V cl) := by
 unfold stpC
 split
 ·rename_i hd
  have hd2 : 0 ≤ insDefI x ∧ insDefI x < V := by
   refine ⟨hd, ?_⟩
   have h2 := hx.1
   unfold insDefI at hd ⊢
   split at hd
   ·rename_i hm; rw [if_pos hm]; exact (h2 hm).2
   ·omega
  exact fold_inv (P := fun cl => InsOk V V cl ∧ SymB cl) _ ⟨h, hs⟩ fun a b hb ha => ⟨markC_ok ha.1, markC_sym ha.1 ha.2 hd2 (List.mem_range.1 hb)⟩
 ·exact ⟨h, hs⟩
theorem empty_sym {V n : Nat} : SymB (emptyI V n) := by
 have key : ∀ v w, clAt (emptyI V n) v w = false := fun v w => by
  unfold clAt emptyI
  rw [List.getElem?_replicate]
  split
  ·rw [Option.getD_some, List.getElem?_replicate]; split <;> rfl
  ·simp
 exact ⟨fun v w => by rw [key, key], fun v => key v v⟩
theorem clashF_sym {f : FnD} {V : Nat} (hd : Dom f V) : SymB (clashF f) := by
 unfold clashF
 rw [show f.values.toNat = V by rw [hd.val]; rfl]
 have hsm := hd.small
 unfold clashN
 refine (fold_inv (P := fun cl => InsOk V V cl ∧ SymB cl) _ ⟨empty_ok (by omega) (by omega), empty_sym⟩ fun a b hb ha => ?_).2
 have hbl : b < f.blocks.length := List.mem_range.1 hb
 rw [bAt_lt hbl]
 unfold blkC
 refine fold_inv (P := fun cl => InsOk V V cl ∧ SymB cl) _ ha fun a2 k hk ha2 => ?_
 have hkl : k < f.blocks[b].list.length := List.mem_range.1 hk
 refine stpC_sym ha2.1 ha2.2 ?_
 unfold insAt
 rw [List.getElem?_eq_getElem hkl, Option.getD_some]
 exact (hd.blk b hbl).list _ (List.getElem_mem hkl)
theorem mem_lstI : ∀ (l : List Bool) (n : Nat) (b : Int), b ∈ lstI n l ↔ ∃ i : Nat, b = ((n + i : Nat) : Int) ∧ l[i]? = some true
 | [], n, b => by simp [lstI]
 | a :: l, n, b => by
  have ih := mem_lstI l (n + 1) b
  unfold lstI
  constructor
  ·intro h
   split at h
   ·rename_i ha
    rcases List.mem_cons.1 h with h | h
    ·exact ⟨0, by simpa using h, by simp [ha]⟩
    ·obtain ⟨i, h1, h2⟩ := ih.1 h
     exact ⟨i + 1, by rw [h1]; congr 1; omega, by simpa using h2⟩
   ·obtain ⟨i, h1, h2⟩ := ih.1 h
    exact ⟨i + 1, by rw [h1]; congr 1; omega, by simpa using h2⟩
  ·rintro ⟨i, h1, h2⟩
   cases i with
   | zero => simp at h2; subst h2; simp [h1]
   | succ i =>
    have : b ∈ lstI (n + 1) l := ih.2 ⟨i, by rw [h1]; congr 1; omega, by simpa using h2⟩
    split
    ·exact List.mem_cons_of_mem _ this
    ·exact this
end Go.Proofs.YtonpnjfclelpiaaGreatM
